/- Contracts: all bytes of a row; bytes compared; the reference's bytes. -/
import Derived.Test.YthhcgcbbdinenaaMn
set_option linter.unusedVariables false
set_option linter.unusedSimpArgs false
namespace Go.Av
open Go Go.Proofs
set_option maxRecDepth 100000
set_option maxHeartbeats 2000000
/-! ### bytes.Equal -/
theorem u8s_byts : ∀ (l : List Int), u8s (byts l) = some l
  | [] => rfl
  | x :: l => by
    have e : byts (x :: l) = .int .u8 x :: byts l := rfl
    rw [e, u8s, u8s_byts l]; rfl
theorem son_eq {a b : List Int} (ha : ∀ x ∈ a, U8 x) (hb : ∀ x ∈ b, U8 x) : ((strOfNums a).toList == (strOfNums b).toList) = decide (a = b) := by
  rw [toList_data, toList_data, strOfNums_data, strOfNums_data]
  have inj : ∀ (a b : List Int), (∀ x ∈ a, U8 x) → (∀ x ∈ b, U8 x) → (a.map fun n => UInt8.ofNat n.toNat) = (b.map fun n => UInt8.ofNat n.toNat) → a = b := by
    intro a
    induction a with
    | nil => intro b _ _ h; cases b with
      | nil => rfl
      | cons y b => simp at h
    | cons x a ih =>
      intro b ha hb h
      cases b with
      | nil => simp at h
      | cons y b =>
        simp only [List.map_cons, List.cons.injEq] at h
        have hx := ha x (by simp)
        have hy := hb y (by simp)
        unfold U8 at hx hy
        have e : x = y := by
          have := congrArg UInt8.toNat h.1
          rw [UInt8.toNat_ofNat_of_lt' (by show x.toNat < 256; omega), UInt8.toNat_ofNat_of_lt' (by show y.toNat < 256; omega)] at this
          omega
        rw [e, ih b (fun z hz => ha z (by simp [hz])) (fun z hz => hb z (by simp [hz])) h.2]
  by_cases c : a = b
  · subst c; simp
  · have : ¬ (a.map fun n => UInt8.ofNat n.toNat) = (b.map fun n => UInt8.ofNat n.toNat) := fun h => c (inj a b ha hb h)
    simp [c, this]
theorem k31 (t u : Bool) (a b : List Int) (ha : ∀ x ∈ a, U8 x) (hb : ∀ x ∈ b, U8 x) : ACall PA 31 [.sl t (byts a), .sl u (byts b)] [] (.bool (decide (a = b))) [] := by
  refine ACall.ofS S23ok hmA h31 (by kernel_rfl) (Nat.le_of_ble_eq_true rfl) ownH_nil (own_solid (by simp [solid_bool])) (aS_den ?_)
  have e := son_eq ha hb
  simp only [WK, simprocAttr, c31, n31, u8s_byts, e]
  simp only [WK, simprocAttr, EW, r31]
/-! ### Low, Bytes -/
def i58 (x : Int) (n : Nat) (m : Nat) (τ : AFr) (h : AHeap) : Prop :=
  ∃ j : Nat, j ≤ n ∧ m = n - j ∧ h = (bRow (verB [] j) (lowB j x)).2 ∧ τ = { n := 21, s := [(0, .int .u64 x), (1, .int .i64 n), (5, (bRow (verB [] j) (lowB j x)).1), (6, .int .i64 j)], dfr := [] }
theorem k58 (x : Int) (hx : 0 ≤ x ∧ x < 18446744073709551616) (n : Nat) (hn : n ≤ 7) : ACall PA 58 [.int .u64 x, .int .i64 n] [] (bRow (n - 1) (lowB n x)).1 (bRow (n - 1) (lowB n x)).2 := by
  refine ACall.ofS S23ok hmA h58 (by kernel_rfl) (Nat.le_of_ble_eq_true rfl) (bRow_own _ _).2 (bRow_own _ _).1 (aS_den ?_)
  simp only [WK, simprocAttr, c58, n58]
  refine x_loop (i58 x n) ⟨n, _, ⟨0, by omega, by omega, rfl, rfl⟩, ⟨rfl, rfl, by simp [alook, bRow, lowB]⟩⟩ ?_
  rintro m τ h ⟨j, hj, rfl, rfl, rfl⟩
  by_cases b1 : (j : Int) < (n : Int)
  · have w : IntKind.i64.wrap ((j : Int) + 1) = ((j + 1 : Nat) : Int) := by rw [wrI64 (by omega) (by omega)]; omega
    have w8 : IntKind.i64.wrap (8 * (j : Int)) = ((8 * j : Nat) : Int) := by rw [wrI64 (by omega) (by omega)]; omega
    have n8 : ¬ ((8 * j : Nat) : Int) < 0 := by omega
    have t8 : (((8 * j : Nat) : Int)).toNat = 8 * j := by omega
    have mb : min (8 * j) IntKind.u64.bits = 8 * j := Nat.min_eq_left (by show 8 * j ≤ 64; omega)
    have sh : x.fdiv (2 ^ (8 * j)) = x / 256 ^ j := by
      have : ((2 : Int) ^ (8 * j)) = 256 ^ j := by rw [Int.pow_mul]; rfl
      rw [this, Int.fdiv_eq_ediv_of_nonneg _ (Int.le_of_lt (Int.pow_pos (by omega)))]
    have wu : IntKind.u8.wrap (x / 256 ^ j) = x / 256 ^ j % 256 := by
      simp [IntKind.wrap, IntKind.bits, IntKind.signed]
    have hp := lowB_push j x
    by_cases z : j = 0
    · subst z
      have w1 : IntKind.i64.wrap 1 = 1 := by decide
      have w0 : IntKind.i64.wrap 0 = 0 := by decide
      have b2 : (0 : Int) < (n : Int) := by omega
      have hb1 : bRow (verB [] 0) (lowB 0 x) = (.sl true [], []) := rfl
      have sh0 : x.fdiv (2 ^ 0) = x := by simp
      have sh1' : x.fdiv 1 = x := by simp
      have m0 : min 0 IntKind.u64.bits = 0 := rfl
      have wu0 : IntKind.u8.wrap x = x % 256 := by simp [IntKind.wrap, IntKind.bits, IntKind.signed]
      simp only [WK, simprocAttr, Int.cast_ofNat_Int, b2, hb1, appR, most, w0, Int.mul_zero, m0, sh0, sh1', wu0, Int.pow_zero, Nat.zero_min, Int.lt_irrefl, Int.toNat_zero]
      refine ⟨n - (0 + 1), _, by omega, ⟨0 + 1, by omega, rfl, ?_, rfl⟩, ⟨rfl, rfl, ?_⟩⟩
      · simp [bRow, lowB, verB, byts]
      · simp [alook, w1, bRow, verB, lowB]
    · have e : lowB j x ≠ [] := fun c => by have := congrArg List.length c; rw [lowB_len] at this; simp at this; exact z this
      have e2 : lowB (j + 1) x ≠ [] := fun c => by have := congrArg List.length c; rw [lowB_len] at this; simp at this
      have hb1 : bRow (verB [] j) (lowB j x) = (.rf 0 (j - 1) 0 j, [.row (j - 1) 1 (byts (lowB j x))]) := by rw [bRow, if_neg e, lowB_len]; rfl
      have hb2 : bRow (verB [] (j + 1)) (lowB (j + 1) x) = (.rf 0 j 0 (j + 1), [.row j 1 (byts (lowB (j + 1) x))]) := by rw [bRow, if_neg e2, lowB_len]; rfl
      have bt : (byts (lowB j x)).take j = byts (lowB j x) := List.take_of_length_le (by rw [byts_len, lowB_len]; exact Nat.le_refl _)
      have m1 : j + 1 ≤ 140737488355328 := by omega
      have m2 : j ≤ 140737488355327 := by omega
      have jv : j - 1 + 1 = j := by omega
      simp only [WK, simprocAttr, b1, hb1, appR, most, w8, n8, t8, mb, sh, wu, byts_len, lowB_len, bt, m1, m2, jv, byts_push, Nat.le_refl]
      refine ⟨n - (j + 1), _, by omega, ⟨j + 1, by omega, rfl, ?_, rfl⟩, ⟨rfl, rfl, ?_⟩⟩
      · rw [hb2, hp]
      · rw [hb2]; simp [alook, w]
  · have ej : j = n := by omega
    subst ej
    simp only [WK, simprocAttr, b1]
    exact bR_end rfl (.inr rfl) rfl rfl
end Go.Av

/- Contracts: the reference's bytes of rows; EncodeAll. -/
namespace Go.Av
open Go Go.Proofs
set_option maxRecDepth 100000
set_option maxHeartbeats 2000000
def S24 : Spec := fun f args => match f, args with
  | 31, [.sl _ xs, .sl _ ys] => match decBs xs, decBs ys with
    | some a, some b => if (∀ x ∈ a, U8 x) ∧ (∀ x ∈ b, U8 x) then some (.bool (decide (a = b)), []) else none
    | _, _ => none
  | 58, [.int .u64 x, .int .i64 n] => if 0 ≤ x ∧ x < 18446744073709551616 ∧ 0 ≤ n ∧ n ≤ 7 then some (bRow (n.toNat - 1) (lowB n.toNat x)) else none
  | f, args => S23 f args
theorem S24ok : SpecOK PA S24 := by
  refine ⟨fun f args r l h => ?_⟩
  unfold S24 at h
  split at h
  · split at h
    · rename_i a b hd1 hd2
      obtain rfl := decBs_inv hd1
      obtain rfl := decBs_inv hd2
      split at h
      · rename_i hc
        cases h
        exact ⟨k31 _ _ _ _ hc.1 hc.2, by intro x hx; simp only [List.mem_cons, List.not_mem_nil, or_false] at hx; rcases hx with rfl | rfl <;> exact byts_bel _ _ _, own_solid (by simp [solid_bool]), ownH_nil⟩
      · cases h
    · cases h
  · rename_i x n
    split at h
    · rename_i hc
      obtain ⟨c1, c2, c3, c4⟩ := hc
      obtain ⟨m, rfl⟩ := Int.eq_ofNat_of_zero_le c3
      rw [Int.toNat_natCast] at h
      have e : bRow (m - 1) (lowB m x) = (r, l) := by injection h
      have k := k58 x ⟨c1, c2⟩ m (by omega)
      have o := bRow_own (m - 1) (lowB m x)
      rw [e] at k o
      exact ⟨k, by simp [bel_int], o.1, o.2⟩
    · cases h
  · exact S23ok.ok _ _ _ _ h
def T24 : Tab := ⟨S24, fun _ _ _ => none, fun f => f == 58⟩
theorem T24ok : TabOK PA T24 := ⟨S24ok, fun _ _ _ _ _ e => by cases e⟩
theorem t24_s (f : FuncId) (a : List AV) : T24.s f a = S24 f a := rfl
theorem t24_l (f : FuncId) : T24.loud f = (f == 58) := rfl
theorem low2_row (x : Int) : bRow 1 (lowB 2 x) = (.rf 0 1 0 2, [.row 1 1 (byts (lowB 2 x))]) := rfl
theorem low4_row (x : Int) : bRow 3 (lowB 4 x) = (.rf 0 3 0 4, [.row 3 1 (byts (lowB 4 x))]) := rfl
theorem k34 (x : In) (hx : x.OK) : ACall PA 34 [x.av] [] (.rf 0 3 0 8) [.row 3 1 (byts (encB x))] := by
  refine ACall.ofT T24ok hmA h34 (by kernel_rfl) (Nat.le_of_ble_eq_true rfl) (ownH_row _ _ _ (byts_solid _)) (own_rf _ _ _ _) (aS_den ?_)
  simp only [WK, simprocAttr, c34, n34, In.av, inV, t24_l]
  obtain ⟨l1, hl1⟩ : ∃ l1, l1 = lowB 2 x.c := ⟨_, rfl⟩
  obtain ⟨l2, hl2⟩ : ∃ l2, l2 = l1 ++ [x.a, x.b] := ⟨_, rfl⟩
  have n1 : l1.length = 2 := by rw [hl1]; rfl
  have n2 : l2.length = 4 := by rw [hl2, List.length_append, n1]; rfl
  have hl3 : l2 ++ lowB 4 x.k = encB x := by rw [hl2, hl1, encB]
  have hc := hx.c
  have hk := hx.k
  unfold U16 at hc
  have w1 : IntKind.u64.wrap x.c = x.c := wrU64 hc.1 (by omega)
  have w2 : IntKind.u64.wrap x.k = x.k := wrU64 hk.1 (by omega)
  refine drwL_of [3, 9] [(0, 0), (0, 0), (0, 0), (0, 0), (0, 1), (0, 1), (0, 1), (0, 1), (0, 1), (1, 1), (2, 2)] (fun q => match q with
    | 0 => [rowI x]
    | 1 => [rowI x, .row 1 1 (byts l1)]
    | _ => [rowI x, .row 2 1 (byts l2)]) (by kernel_rfl) rfl ?_
  have c3 : ∀ {q a b : Nat}, a ≤ q → q ≤ b → b ≤ 1 → q = 0 ∨ q = 1 := fun h1 h2 h3 => by omega
  refine awL_q (.rp 0 0 0 0) 0 0 rfl rfl rfl (fun q h1 h2 => ?_) ?_
  · simp only [WK, simprocAttr]
  refine awL_q (.int .u16 x.c) 0 0 rfl rfl rfl (fun q h1 h2 => ?_) ?_
  · obtain rfl : q = 0 := by omega
    simp only [WK, simprocAttr, In.av, inV]
  refine awL_q (.int .u64 x.c) 0 0 rfl rfl rfl (fun q h1 h2 => ?_) ?_
  · simp only [WK, simprocAttr, w1]
  refine awL_c (.rf 1 1 0 2) 0 (f := 58) (args := [.int .u64 x.c, .int .i64 2]) rfl rfl rfl ?_ ?_ ?_
  · simp only [WK, simprocAttr]
  · have := k58 x.c ⟨hc.1, by omega⟩ 2 (by omega)
    rw [low2_row, ← hl1] at this
    exact ACall.liftOwn (h := [rowI x]) (args := [.int .u64 x.c, .int .i64 2]) this (by simp [snap, sn1, bel_int]) (own_rf _ _ _ _) (ownH_row _ _ _ (byts_solid _))
  refine awL_q (.rp 0 0 0 1) 0 1 rfl rfl rfl (fun q h1 h2 => ?_) ?_
  · simp only [WK, simprocAttr]
  refine awL_q (.int .u8 x.a) 0 1 rfl rfl rfl (fun q h1 h2 => ?_) ?_
  · rcases c3 h1 h2 (by omega) with rfl | rfl <;> simp only [WK, simprocAttr, In.av, inV]
  refine awL_q (.rp 0 0 0 2) 0 1 rfl rfl rfl (fun q h1 h2 => ?_) ?_
  · simp only [WK, simprocAttr]
  refine awL_q (.int .u8 x.b) 0 1 rfl rfl rfl (fun q h1 h2 => ?_) ?_
  · rcases c3 h1 h2 (by omega) with rfl | rfl <;> simp only [WK, simprocAttr, In.av, inV]
  refine awL_q (.sl true [.int .u8 x.a, .int .u8 x.b]) 0 1 rfl rfl rfl (fun q h1 h2 => ?_) ?_
  · simp only [WK, simprocAttr]
  have bt : (byts l1).take 2 = byts l1 := List.take_of_length_le (by rw [byts_len, n1]; exact Nat.le_refl _)
  have bp : byts l1 ++ [.int .u8 x.a, .int .u8 x.b] = byts l2 := by rw [hl2]; simp [byts]
  have bt2 : (byts l2).take 4 = byts l2 := List.take_of_length_le (by rw [byts_len, n2]; exact Nat.le_refl _)
  have bp2 : byts l2 ++ byts (lowB 4 x.k) = byts (encB x) := by rw [byts_app, hl3]
  have bt3 : (byts (lowB 4 x.k)).take 4 = byts (lowB 4 x.k) := rfl
  refine awL_v (.rf 1 2 0 4) 1 rfl rfl rfl ?_ ?_
  · simp only [WK, simprocAttr, appR, most, byts_len, n1, bt, bp]
  refine awL_q (.rf 1 2 0 4) 2 2 rfl rfl rfl (fun q h1 h2 => ?_) ?_
  · simp only [WK, simprocAttr]
  simp only [awL]
  have ne4 : byts (lowB 4 x.k) ≠ [] := by rw [Ne, byts_nil]; intro c; have := congrArg List.length c; simp [lowB_len] at this
  have k0 : 0 ≤ x.k := hk.1
  have k1 : x.k < 18446744073709551616 := by omega
  simp only [WK, simprocAttr, In.av, inV, w2, t24_s, S24, k0, k1, low4_row, and_self, appR, most, byts_len, n2, bt2, bt3, bp2, ne4, lowB_len, byts_okE]
  simp only [WK, simprocAttr, EW, r34]
  simp [List.idxOf]
end Go.Av

/- Contracts: EncodeAll, AllBytes, the reference's Bare. -/
namespace Go.Av
open Go Go.Proofs
set_option maxRecDepth 100000
set_option maxHeartbeats 2000000
def S25 : Spec := fun f args => match f, args with
  | 34, [.agg [.int .u16 c, .int .u8 a, .int .u8 b, .int .u32 k]] => if InOK c a b k then some (.rf 0 3 0 8, [.row 3 1 (byts (encB ⟨c, a, b, k⟩))]) else none
  | f, args => S24 f args
theorem S25ok : SpecOK PA S25 := by
  refine ⟨fun f args r l h => ?_⟩
  unfold S25 at h
  split at h
  · split at h
    · rename_i hc
      cases h
      exact ⟨k34 ⟨_, _, _, _⟩ hc, by simp [bel_agg, bel_int], own_rf _ _ _ _, ownH_row _ _ _ (byts_solid _)⟩
    · cases h
  · exact S24ok.ok _ _ _ _ h
def allB (l : List In) : List Int := l.flatMap encB
theorem allB_len (l : List In) : (allB l).length = 8 * l.length := by
  induction l with
  | nil => rfl
  | cons x l ih => simp only [allB, List.flatMap_cons, List.length_append, List.length_cons, encB_len] at ih ⊢; omega
theorem allB_take {l : List In} {q : Nat} (h : q < l.length) : allB (l.take (q + 1)) = allB (l.take q) ++ encB l[q] := by
  unfold allB
  rw [List.take_add_one, List.getElem?_eq_getElem h, List.flatMap_append]
  simp
theorem rc0 (k sz : Nat) (es : List AV) (l : AHeap) (v : Nat) : rowAt (.row k sz es :: l) 0 v = if k = v then some (sz, es) else none := rfl
theorem rcS (o : AObj) (l : AHeap) (n v : Nat) : rowAt (o :: l) (n + 1) v = rowAt l n v := rfl
theorem getrow1 (h l : AHeap) (o : AObj) (v : Nat) : rowAt (h ++ o :: l) (h.length + 1) v = rowAt l 0 v := by rw [rowAtk]; rfl
theorem rowAt_set {h : AHeap} {id v k sz : Nat} {x : Nat × List AV} {es : List AV} (e : rowAt h id v = some x) : rowAt (h.set id (.row k sz es)) id k = some (sz, es) := by
  have := getElem?_lt (rowAt_eq (sz := x.1) (es := x.2) e)
  unfold rowAt
  rw [List.getElem?_set_self this]
  simp
theorem getD_row {h : AHeap} {id v sz : Nat} {es : List AV} (e : rowAt h id v = some (sz, es)) : h.getD id .dead = .row v sz es := by
  rw [List.getD, rowAt_eq e]; rfl
/-- Ends with a row of bytes, wherever it lies. -/
theorem bE_end {v : Nat} {l : List Int} {rs : List RV} {j : Jump} {τ : AFr} {i : Nat} {h : AHeap} (hrs : rs = [.t i]) (hj : j = .none ∨ j = .ret) (hd : τ.dfr = [])
    (hi : (l = [] ∧ alook τ.s i = .sl true []) ∨ (l ≠ [] ∧ ∃ id, alook τ.s i = .rf id v 0 l.length ∧ rowAt h id v = some (1, byts l))) : EndQ rs (bRow v l).1 (bRow v l).2 j τ h := by
  subst hrs
  unfold bRow
  rcases hi with ⟨e, hi⟩ | ⟨e, id, hi, hr⟩
  · rw [if_pos e]
    refine ⟨⟨hj, .inl hd, ?_⟩, ?_⟩
    · simp [hd, kills, aresl, ares, hi, resv, refs, refs1, rn, rn1]
    · simp [hd, kills, aresl, ares, hi, resv, refs, refs1]
  · rw [if_neg e]
    have hg := getD_row hr
    refine ⟨⟨hj, .inl hd, ?_⟩, ?_⟩
    · simp only [hd, kills, aresl, ares, hi, resv, refs, refs1, rn, rn1, List.foldl_nil, List.map_cons, List.map_nil, hg]
      simp [List.idxOf]
    · simp [hd, kills, aresl, ares, hi, resv, refs, refs1]
theorem u8_enc {x : In} (hx : x.OK) : ∀ b ∈ encB x, U8 b := by
  have low : ∀ n (y : Int), ∀ b ∈ lowB n y, U8 b := by
    intro n
    induction n with
    | zero => intro y b hb; simp [lowB] at hb
    | succ n ih =>
      intro y b hb
      rw [lowB] at hb
      rcases List.mem_cons.1 hb with rfl | hb
      · exact ⟨by omega, by omega⟩
      · exact ih _ _ hb
  intro b hb
  rw [encB, List.mem_append, List.mem_append] at hb
  rcases hb with (hb | hb) | hb
  · exact low _ _ _ hb
  · simp at hb; rcases hb with rfl | rfl; exact hx.a; exact hx.b
  · exact low _ _ _ hb
theorem u8_all {l : List In} (hl : ∀ x ∈ l, x.OK) : ∀ b ∈ allB l, U8 b := fun b hb => by
  obtain ⟨x, hx, hb⟩ := List.mem_flatMap.1 hb
  exact u8_enc (hl x hx) b hb
/-! ### AllBytes -/
def accOK (v : Nat) (l : List Int) (x : AV) (h : AHeap) : Prop := (l = [] ∧ x = .sl true []) ∨ (l ≠ [] ∧ ∃ id, x = .rf id v 0 l.length ∧ rowAt h id v = some (1, byts l))
def i32 (t : Bool) (l : List In) (m : Nat) (τ : AFr) (h : AHeap) : Prop :=
  ∃ (q : Nat) (x : AV), q ≤ l.length ∧ m = l.length - q ∧ accOK (q - 1) (allB (l.take q)) x h ∧ τ = { n := 18, s := [(6, .sl t (avs l)), (7, .int .i64 l.length), (8, .int .i64 q), (3, x)], dfr := [] }
theorem k32 (t : Bool) (l : List In) (hb : l.length ≤ 10000) (hl : ∀ x ∈ l, x.OK) : ACall PA 32 [.sl t (avs l)] [] (bRow (l.length - 1) (allB l)).1 (bRow (l.length - 1) (allB l)).2 := by
  refine ACall.ofS S25ok hmA h32 (by kernel_rfl) (Nat.le_of_ble_eq_true rfl) (bRow_own _ _).2 (bRow_own _ _).1 (aS_den ?_)
  simp only [WK, simprocAttr, c32, n32, avs_len]
  refine x_loop (i32 t l) ⟨l.length, _, ⟨0, .sl true [], by omega, by omega, .inl ⟨rfl, rfl⟩, rfl⟩, ⟨rfl, rfl, by simp [alook]⟩⟩ ?_
  rintro m τ h ⟨q, a, hq, rfl, ha, rfl⟩
  by_cases b1 : (q : Int) < (l.length : Int)
  · have hql : q < l.length := by omega
    have q0 : (0 : Int) ≤ (q : Int) := by omega
    have gx := avs_getq hql
    have hxo := hl _ (List.getElem_mem hql)
    have at' := allB_take hql
    obtain ⟨x, hx⟩ : ∃ x, x = l[q] := ⟨_, rfl⟩
    rw [← hx] at gx hxo at'
    have hK : InOK x.c x.a x.b x.k := hxo
    have ex : (⟨x.c, x.a, x.b, x.k⟩ : In) = x := rfl
    have w : IntKind.i64.wrap ((q : Int) + 1) = ((q + 1 : Nat) : Int) := by rw [wrI64 (by omega) (by omega)]; omega
    have ne : byts (encB x) ≠ [] := by rw [Ne, byts_nil]; intro c; have := congrArg List.length c; rw [encB_len] at this; simp at this
    have bt : (byts (encB x)).take 8 = byts (encB x) := List.take_of_length_le (by rw [byts_len, encB_len]; exact Nat.le_refl _)
    rcases ha with ⟨e, rfl⟩ | ⟨e, id, rfl, hr⟩
    · have eq0 : q = 0 := by
        have := congrArg List.length e
        rw [allB_len, List.length_take] at this; simp at this; omega
      have ok8 := byts_okE (encB x)
      simp only [WK, simprocAttr, b1, q0, gx, In.av, inV, get0, getk, rowAt0, rowAtk, set0, setk, List.append_assoc, S25, hK, ex, bt, ne, appR, most, byts_len, encB_len, ok8]
      refine ⟨l.length - (q + 1), _, by omega, ⟨q + 1, .rf (h.length + 2) 0 0 8, by omega, rfl, .inr ⟨?_, h.length + 2, ?_, ?_⟩, rfl⟩, ⟨rfl, rfl, by simp [alook, w]⟩⟩
      · rw [at', e]; intro c; have := congrArg List.length c; simp [encB_len] at this
      · rw [at', e, eq0]; simp [encB_len]
      · rw [at', e, eq0]; simp [rowAt]
    · have hf := fun X => rowAt_app hr X
      have il : id < h.length := getElem?_lt (rowAt_eq hr)
      have ll : (allB (l.take q)).length = 8 * q := by rw [allB_len, List.length_take]; congr 1; omega
      have bt2 : (byts (allB (l.take q))).take (allB (l.take q)).length = byts (allB (l.take q)) := List.take_of_length_le (by rw [byts_len]; exact Nat.le_refl _)
      have bp := byts_app (allB (l.take q)) (encB x)
      have m1 : (allB (l.take q)).length + 8 ≤ 140737488355328 := by omega
      have m2 : (allB (l.take q)).length ≤ 140737488355320 := by omega
      have ok8 := byts_okE (encB x)
      have q1 : q ≠ 0 := fun c => e (by rw [c]; rfl)
      have qv : q - 1 + 1 = q := by omega
      simp only [WN, simprocAttr, b1, q0, gx, In.av, inV, get0, getk, rowAt0, rowAtk, set0, setk, List.append_assoc, S25, hK, ex, bt, ne, appR, most, byts_len, encB_len, ok8, hf, bt2, bp, m1, m2, Nat.le_refl, qv, rc0, rcS, List.headD_cons]
      refine ⟨l.length - (q + 1), _, by omega, ⟨q + 1, .rf id q 0 ((allB (l.take q)).length + 8), by omega, rfl, .inr ⟨?_, id, ?_, ?_⟩, rfl⟩, ⟨rfl, rfl, by simp [alook, w]⟩⟩
      · rw [at']; intro c; have := congrArg List.length c; simp [encB_len] at this
      · rw [at']; simp [encB_len]
      · rw [at']; exact rowAt_set (hf _)
  · have eq' : q = l.length := by omega
    subst eq'
    rw [List.take_length] at ha
    simp only [WK, simprocAttr, b1]
    exact bE_end rfl (.inr rfl) rfl ha
/-! ### EncodeAll -/
def i56 (t : Bool) (l : List In) (m : Nat) (τ : AFr) (h : AHeap) : Prop :=
  ∃ (q : Nat) (x : AV), q ≤ l.length ∧ m = l.length - q ∧ accOK 4 (allB (l.take q)) x h ∧ τ = { n := 21, s := [(9, .sl t (avs l)), (10, .int .i64 l.length), (11, .int .i64 q), (1, x), (2, .fn (.func 57) [] [])], dfr := [] }
theorem enc_row (l : List Int) (x : In) : bRow 4 (l ++ encB x) = (.rf 0 4 0 (l.length + 8), [.row 4 1 (byts (l ++ encB x))]) := by
  have : l ++ encB x ≠ [] := fun c => by have := congrArg List.length c; simp [encB_len] at this
  rw [bRow, if_neg this, List.length_append, encB_len]
theorem k56 (t : Bool) (l : List In) (hb : l.length ≤ 10000) (hl : ∀ x ∈ l, x.OK) : ACall PA 56 [.sl t (avs l), .sl true [], .fn (.func 57) [] []] [] (bRow 4 (allB l)).1 (bRow 4 (allB l)).2 := by
  refine ACall.ofS S25ok hmA h56 (by kernel_rfl) (Nat.le_of_ble_eq_true rfl) (bRow_own _ _).2 (bRow_own _ _).1 (aS_den ?_)
  simp only [WK, simprocAttr, c56, n56, avs_len]
  refine x_loop (i56 t l) ⟨l.length, _, ⟨0, .sl true [], by omega, by omega, .inl ⟨rfl, rfl⟩, rfl⟩, ⟨rfl, rfl, by simp [alook]⟩⟩ ?_
  rintro m τ h ⟨q, a, hq, rfl, ha, rfl⟩
  by_cases b1 : (q : Int) < (l.length : Int)
  · have hql : q < l.length := by omega
    have q0 : (0 : Int) ≤ (q : Int) := by omega
    have gx := avs_getq hql
    have hxo := hl _ (List.getElem_mem hql)
    have at' := allB_take hql
    obtain ⟨x, hx⟩ : ∃ x, x = l[q] := ⟨_, rfl⟩
    rw [← hx] at gx hxo at'
    have hK : InOK x.c x.a x.b x.k := hxo
    have ex : (⟨x.c, x.a, x.b, x.k⟩ : In) = x := rfl
    have w : IntKind.i64.wrap ((q : Int) + 1) = ((q + 1 : Nat) : Int) := by rw [wrI64 (by omega) (by omega)]; omega
    rcases ha with ⟨e, rfl⟩ | ⟨e, id, rfl, hr⟩
    · have d0 : decBs [] = some [] := rfl
      have er : bRow 4 (encB x) = (.rf 0 4 0 8, [.row 4 1 (byts (encB x))]) := enc_row [] x
      simp only [WK, simprocAttr, b1, q0, gx, In.av, inV, get0, getk, rowAt0, rowAtk, set0, setk, List.append_assoc, S25, S24, S23, S22, S21, S20, S19, S17, S16, S15, S14, S13, S11, S10, S9, S8, S7, S6, hK, ex, d0, er, and_self, Nat.zero_le, List.headD_cons]
      refine ⟨l.length - (q + 1), _, by omega, ⟨q + 1, .rf (h.length + 1) 4 0 8, by omega, rfl, .inr ⟨?_, h.length + 1, ?_, ?_⟩, rfl⟩, ⟨rfl, rfl, by simp [alook, w]⟩⟩
      · rw [at', e]; intro c; have := congrArg List.length c; simp [encB_len] at this
      · rw [at', e]; simp [encB_len]
      · rw [at', e, getrow1]; rfl
    · have hf := fun X => rowAt_app hr X
      have ll : (allB (l.take q)).length = 8 * q := by rw [allB_len, List.length_take]; congr 1; omega
      have bt2 : (byts (allB (l.take q))).take (allB (l.take q)).length = byts (allB (l.take q)) := List.take_of_length_le (by rw [byts_len]; exact Nat.le_refl _)
      have m1 : (allB (l.take q)).length ≤ 90000 := by omega
      have er := enc_row (allB (l.take q)) x
      simp only [WN, simprocAttr, b1, q0, gx, In.av, inV, get0, getk, rowAt0, rowAtk, set0, setk, List.append_assoc, S25, S24, S23, S22, S21, S20, S19, S17, S16, S15, S14, S13, S11, S10, S9, S8, S7, S6, hK, ex, hf, bt2, decBs_byts, m1, and_self, er, rc0, rcS, List.headD_cons]
      refine ⟨l.length - (q + 1), _, by omega, ⟨q + 1, .rf (h.length + 1) 4 0 ((allB (l.take q)).length + 8), by omega, rfl, .inr ⟨?_, h.length + 1, ?_, ?_⟩, rfl⟩, ⟨rfl, rfl, by simp [alook, w]⟩⟩
      · rw [at']; intro c; have := congrArg List.length c; simp [encB_len] at this
      · rw [at']; simp [encB_len]
      · rw [at']; simp [rowAt]
  · have eq' : q = l.length := by omega
    subst eq'
    rw [List.take_length] at ha
    simp only [WK, simprocAttr, b1]
    exact bE_end rfl (.inr rfl) rfl ha
theorem bare_ref {x : In} (hx : x.OK) : True := trivial
theorem k35 (x : In) (hx : x.OK) : ACall PA 35 [x.av] [] (bareK x).av [] := by
  refine ACall.ofS S25ok hmA h35 (by kernel_rfl) (Nat.le_of_ble_eq_true rfl) ownH_nil (own_solid (by simp [In.av, inV, solid_agg, solid_int])) (aS_den ?_)
  have hc : U16 x.c := hx.c
  have nf := nmFacts hc
  have fm := nf.form
  have most6 := nf.most
  by_cases f0 : formK x.c = 0
  · have p0 : (formK x.c == 0) = true := by simp [f0]
    simp only [WK, simprocAttr, c35, n35, S25, S24, S23, S22, S21, S20, S19, S17, S16, S15, S14, S13, S11, S10, S9, S8, S7, S6, In.av, inV, hc, fm, p0, List.headD_cons]
    simp only [WK, simprocAttr, EW, r35]
    simp [bareK, f0, In.av, inV]
  · have p0 : (formK x.c == 0) = false := by simp [f0]
    by_cases f1 : formK x.c = 1
    · have p1 : (formK x.c == 1) = true := by simp [f1]
      simp only [WK, simprocAttr, c35, n35, S25, S24, S23, S22, S21, S20, S19, S17, S16, S15, S14, S13, S11, S10, S9, S8, S7, S6, In.av, inV, hc, fm, p0, p1, List.headD_cons]
      simp only [WK, simprocAttr, EW, r35]
      simp [bareK, f1, In.av, inV]
    · have p1 : (formK x.c == 1) = false := by simp [f1]
      by_cases f2 : formK x.c = 2
      · have p2 : (formK x.c == 2) = true := by simp [f2]
        simp only [WK, simprocAttr, c35, n35, S25, S24, S23, S22, S21, S20, S19, S17, S16, S15, S14, S13, S11, S10, S9, S8, S7, S6, In.av, inV, hc, fm, p0, p1, p2, List.headD_cons]
        simp only [WK, simprocAttr, EW, r35]
        simp [bareK, f2, In.av, inV]
      · have p2 : (formK x.c == 2) = false := by simp [f2]
        by_cases f3 : formK x.c = 3
        · have p3 : (formK x.c == 3) = true := by simp [f3]
          simp only [WK, simprocAttr, c35, n35, S25, S24, S23, S22, S21, S20, S19, S17, S16, S15, S14, S13, S11, S10, S9, S8, S7, S6, In.av, inV, hc, fm, p0, p1, p2, p3, List.headD_cons]
          simp only [WK, simprocAttr, EW, r35]
          simp [bareK, f3, In.av, inV]
        · have p3 : (formK x.c == 3) = false := by simp [f3]
          by_cases f4 : formK x.c = 4
          · have p4 : (formK x.c == 4) = true := by simp [f4]
            simp only [WK, simprocAttr, c35, n35, S25, S24, S23, S22, S21, S20, S19, S17, S16, S15, S14, S13, S11, S10, S9, S8, S7, S6, In.av, inV, hc, fm, p0, p1, p2, p3, p4, List.headD_cons]
            simp only [WK, simprocAttr, EW, r35]
            simp [bareK, f4, In.av, inV]
          · have p4 : (formK x.c == 4) = false := by simp [f4]
            by_cases f6 : formK x.c = 6
            · have p6 : (formK x.c == 6) = true := by simp [f6]
              simp only [WK, simprocAttr, c35, n35, S25, S24, S23, S22, S21, S20, S19, S17, S16, S15, S14, S13, S11, S10, S9, S8, S7, S6, In.av, inV, hc, fm, p0, p1, p2, p3, p4, p6, List.headD_cons]
              simp only [WK, simprocAttr, EW, r35]
              simp [bareK, f6, In.av, inV]
            · have p6 : (formK x.c == 6) = false := by simp [f6]
              have e : ¬ (0 ≤ formK x.c ∧ formK x.c ≠ 5 ∧ formK x.c ≠ 6) := fun c => by
                obtain ⟨c1, c2, c3⟩ := c
                omega
              have e2 : ¬ (formK x.c = 0 ∨ formK x.c = 6) := fun c => by omega
              have eb : bareK x = x := by unfold bareK; rw [if_neg e, if_neg e, if_neg e2]
              simp only [WK, simprocAttr, c35, n35, S25, S24, S23, S22, S21, S20, S19, S17, S16, S15, S14, S13, S11, S10, S9, S8, S7, S6, In.av, inV, hc, fm, p0, p1, p2, p3, p4, p6, List.headD_cons]
              simp only [WK, simprocAttr, EW, r35]
              simp [eb, In.av, inV]
end Go.Av

/- InsnEncodes: instructions' bytes. -/
namespace Go.Av
open Go Go.Proofs
set_option maxRecDepth 100000
set_option maxHeartbeats 2000000
theorem awL_rest {P : Program} {S : Tab} (hS : TabOK P S) {loud : List Nat} {iv : List (Nat × Nat)} {hs : Nat → AHeap} {N : Nat} : ∀ (r : List AOpD) (i : Nat) {K : AFr → Prop} {τ : AFr}, (∀ j, i ≤ j → j < i + r.length → loud.contains j = false ∧ iv.getD j (0, 0) = (N, N)) → aSQ P S (hs N) r K τ → awL P loud iv hs i r K τ := by
  have key : ∀ (r : List AOpD) (i : Nat) {K : AFr → Prop} {τ : AFr}, (∀ j, i ≤ j → j < i + r.length → loud.contains j = false ∧ iv.getD j (0, 0) = (N, N)) → awQ P (hs N) r K τ → awL P loud iv hs i r K τ := by
    intro r
    induction r with
    | nil => intro i K τ _ H; exact H
    | cons o r ih =>
      intro i K τ hj H
      obtain ⟨hd, H⟩ := H
      obtain ⟨x, h', h1, h2, h3⟩ := awG_elim H
      obtain ⟨e1, e2⟩ := hj i (Nat.le_refl _) (by simp)
      refine ⟨hd, x, ?_, ih (i + 1) (fun j a b => hj j (by omega) (by simp only [List.length_cons]; omega)) h3⟩
      rw [if_neg (by rw [e1]; simp), e2]
      intro q q1 q2
      obtain rfl : q = N := by simp only at q1 q2; omega
      subst h2
      exact h1
  exact fun r i K τ hj H => key r i hj (aSQ_aw hS r (fun τ k => k) H)
theorem awL_end {P : Program} {S : Tab} (hS : TabOK P S) {loud : List Nat} {iv : List (Nat × Nat)} {hs : Nat → AHeap} {rd : Option Nat} {k : List It} {Q : Jump → AFr → AHeap → Prop} {r : List AOpD} {i : Nat} {τ : AFr} (hj : ∀ j, i ≤ j → j < i + r.length → loud.contains j = false ∧ iv.getD j (0, 0) = (loud.length, loud.length))
    (H : drw P S rd r k Q τ (hs loud.length)) : awL P loud iv hs i r (fun τ => den P S rd k Q .none τ (hs loud.length)) τ := awL_rest hS r i hj H
def S26 : Spec := fun f args => match f, args with
  | 32, [.sl _ xs] => match decIns xs with
    | some l => if l.length ≤ 10000 then some (bRow (l.length - 1) (allB l)) else none
    | none => none
  | 56, [.sl _ xs, .sl true [], .fn (.func 57) [] []] => match decIns xs with
    | some l => if l.length ≤ 10000 then some (bRow 4 (allB l)) else none
    | none => none
  | 35, [.agg [.int .u16 c, .int .u8 a, .int .u8 b, .int .u32 k]] => if InOK c a b k then some ((bareK ⟨c, a, b, k⟩).av, []) else none
  | f, args => S25 f args
theorem S26ok : SpecOK PA S26 := by
  refine ⟨fun f args r l h => ?_⟩
  unfold S26 at h
  split at h
  · rename_i tt xs
    split at h
    · rename_i l' hd
      obtain ⟨rfl, hok⟩ := decIns_inv hd
      split at h
      · rename_i hc
        have e : bRow (l'.length - 1) (allB l') = (r, l) := by injection h
        have k := k32 tt l' hc hok
        have o := bRow_own (l'.length - 1) (allB l')
        rw [e] at k o
        exact ⟨k, by simp only [List.mem_singleton, forall_eq]; exact avs_bel _ _ _, o.1, o.2⟩
      · cases h
    · cases h
  · rename_i tt xs
    split at h
    · rename_i l' hd
      obtain ⟨rfl, hok⟩ := decIns_inv hd
      split at h
      · rename_i hc
        have e : bRow 4 (allB l') = (r, l) := by injection h
        have k := k56 tt l' hc hok
        have o := bRow_own 4 (allB l')
        rw [e] at k o
        exact ⟨k, by intro x hx; simp only [List.mem_cons, List.not_mem_nil, or_false] at hx; rcases hx with rfl | rfl | rfl; exact avs_bel _ _ _; simp [bel_sl]; exact .fn _ _ _ (by simp) (by simp), o.1, o.2⟩
      · cases h
    · cases h
  · split at h
    · rename_i hc
      cases h
      exact ⟨k35 ⟨_, _, _, _⟩ hc, by simp [bel_agg, bel_int], own_solid (by simp [In.av, inV, solid_agg, solid_int]), ownH_nil⟩
    · cases h
  · exact S25ok.ok _ _ _ _ h
def encR (l : List In) : AV × AHeap := if 255 < l.length then (.tup [.sl true [], .int .i64 3], []) else if l = [] then (.tup [.sl true [], .int .i64 0], []) else (.tup [.rf 0 4 0 (8 * l.length), .int .i64 0], [.row 4 1 (byts (allB l))])
theorem encR_own (l : List In) : Own (encR l).2 (encR l).1 ∧ OwnH (encR l).2 := by
  unfold encR
  split
  · exact ⟨own_solid (by simp [solid_tup, solid_int, solid_nilsl]), ownH_nil⟩
  · split
    · exact ⟨own_solid (by simp [solid_tup, solid_int, solid_nilsl]), ownH_nil⟩
    · refine ⟨.tup _ fun x hx => ?_, ownH_row _ _ _ (byts_solid _)⟩
      simp only [List.mem_cons, List.not_mem_nil, or_false] at hx
      rcases hx with rfl | rfl
      · exact .rf _ _ _ _ (by simp)
      · exact .solid _ (.int _ _)
theorem allB_row {l : List In} (v : Nat) (h : l ≠ []) : bRow v (allB l) = (.rf 0 v 0 (8 * l.length), [.row v 1 (byts (allB l))]) := by
  have : allB l ≠ [] := fun c => h (by have := congrArg List.length c; rw [allB_len] at this; simp only [List.length_nil] at this; exact List.length_eq_zero_iff.1 (by omega))
  rw [bRow, if_neg this, allB_len]
theorem k30 (t : Bool) (l : List In) (hb : l.length ≤ 10000) (hl : ∀ x ∈ l, x.OK) : ACall PA 30 [.sl t (avs l)] [] (encR l).1 (encR l).2 := by
  refine ACall.ofS S26ok hmA h30 (by kernel_rfl) (Nat.le_of_ble_eq_true rfl) (encR_own _).2 (encR_own _).1 (aS_den ?_)
  have hd := decIns_avs hl
  by_cases g : 255 < l.length
  · have g' : (255 : Int) < (l.length : Int) := by omega
    simp only [WK, simprocAttr, c30, n30, avs_len, gt_iff_lt, g']
    simp only [WK, simprocAttr, EW, r30]
    simp [encR, g]
  · have g' : ¬ (255 : Int) < (l.length : Int) := by omega
    by_cases e : l = []
    · subst e
      have hr : bRow 4 (allB []) = (.sl true [], []) := rfl
      have ea : avs ([] : List In) = [] := rfl
      have d0 : decIns [] = some [] := rfl
      simp only [WK, simprocAttr, c30, n30, ea, d0, S26, gt_iff_lt, hr, Nat.zero_le]
      simp only [WK, simprocAttr, EW, r30]
      simp [encR]
    · have hr := allB_row 4 e
      simp only [WK, simprocAttr, c30, n30, avs_len, gt_iff_lt, g', S26, hd, hb, hr]
      simp only [WK, simprocAttr, EW, r30]
      simp [encR, g, e, List.idxOf]
def S27 : Spec := fun f args => match f, args with
  | 30, [.sl _ xs] => match decIns xs with
    | some l => if l.length ≤ 10000 then some (encR l) else none
    | none => none
  | f, args => S26 f args
theorem S27ok : SpecOK PA S27 := by
  refine ⟨fun f args r l h => ?_⟩
  unfold S27 at h
  split at h
  · rename_i tt xs
    split at h
    · rename_i l' hd
      obtain ⟨rfl, hok⟩ := decIns_inv hd
      split at h
      · rename_i hc
        have e : encR l' = (r, l) := by injection h
        have k := k30 tt l' hc hok
        have o := encR_own l'
        rw [e] at k o
        exact ⟨k, by simp only [List.mem_singleton, forall_eq]; exact avs_bel _ _ _, o.1, o.2⟩
      · cases h
    · cases h
  · exact S26ok.ok _ _ _ _ h
def T27 : Tab := ⟨S27, fun _ _ _ => none, fun f => f == 33 || f == 34⟩
theorem T27ok : TabOK PA T27 := ⟨S27ok, fun _ _ _ _ _ e => by cases e⟩
theorem t27_s (f : FuncId) (a : List AV) : T27.s f a = S27 f a := rfl
theorem t27_l (f : FuncId) : T27.loud f = (f == 33 || f == 34) := rfl
def i7 (L : List In) (m : Nat) (τ : AFr) (h : AHeap) : Prop :=
  ∃ (q : Nat) (g : AHeap), q ≤ L.length ∧ m = L.length - q ∧ h = .row 0 4 (avs L) :: .row 0 4 (avs L) :: g ∧ τ = { n := 64, s := [(44, .rf 1 0 0 L.length), (45, .int .i64 L.length), (46, .int .i64 q)], dfr := [] }
theorem k7 (t : Bool) (l : List In) (hok : ∀ x ∈ l, x.OK) : ACall PA 7 [.sl t (avs l)] [] (.bool true) [] := by
  refine ACall.ofT T27ok hmA h7 (by kernel_rfl) (Nat.le_of_ble_eq_true rfl) ownH_nil (own_solid (by simp [solid_bool])) (aS_den ?_)
  have hd := decIns_avs hok
  obtain ⟨L, hL⟩ : ∃ L, L = l.take 256 := ⟨_, rfl⟩
  have hLok : ∀ y ∈ L, y.OK := fun y hy => hok y (List.mem_of_mem_take (hL ▸ hy))
  have hLl : L.length ≤ 256 := by rw [hL, List.length_take]; omega
  have hdL := decIns_avs hLok
  by_cases e : L = []
  · have ea : avs ([] : List In) = [] := rfl
    subst e
    have hd0 : decIns [] = some [] := rfl
    have e0 : encR [] = (.tup [.sl true [], .int .i64 0], []) := by simp [encR]
    have a0 : bRow 0 (allB []) = (.sl true [], []) := rfl
    have b0 : decBs [] = some [] := rfl
    have n0 : (∀ x : Int, x ∈ ([] : List Int) → U8 x) := by simp
    have z0 : ((0 : Nat) : Int) = 0 := rfl
    simp only [WK, simprocAttr, c7, n7, t27_s, S27, S26, S25, S24, S23, S22, S21, S20, S19, S17, S16, S15, S14, S13, S11, S10, S9, S8, S7, S6, hd, ← hL, ownRow, ea, hd0, e0, Nat.zero_sub, Nat.zero_le, a0, b0, n0, and_self, List.not_mem_nil, false_implies, z0]
    refine x_loop (fun m τ h => m = 0 ∧ τ = { n := 64, s := [(45, .int .i64 0), (46, .int .i64 0)], dfr := [] }) ⟨0, _, ⟨rfl, rfl⟩, ⟨rfl, rfl, by simp [alook]⟩⟩ ?_
    rintro m τ h ⟨rfl, rfl⟩
    simp only [WK, simprocAttr]
    simp only [WK, simprocAttr, EW, r7]
  · have e' : ¬ avs L = [] := by rw [avs_nil]; exact e
    have el : (avs L).take L.length = avs L := by rw [avs_take, List.take_length]
    by_cases g : 255 < L.length
    · have g' : (255 : Int) < (L.length : Int) := by omega
      have er : encR L = (.tup [.sl true [], .int .i64 3], []) := by simp [encR, g]
      have hb : L.length ≤ 10000 := by omega
      simp only [WK, simprocAttr, c7, n7, t27_s, S27, S26, S25, S24, S23, S22, S21, S20, S19, S17, S16, S15, S14, S13, S11, S10, S9, S8, S7, S6, hd, ← hL, ownRow, e', hdL, el, er, hb, g', gt_iff_lt, avs_len]
      simp only [WK, simprocAttr, EW, r7]
    · have g' : ¬ (255 : Int) < (L.length : Int) := by omega
      have er : encR L = (.tup [.rf 0 4 0 (8 * L.length), .int .i64 0], [.row 4 1 (byts (allB L))]) := by simp [encR, g, e]
      have hb : L.length ≤ 10000 := by omega
      have hb2 : L.length ≤ 1000000000 := by omega
      have ar := allB_row (L.length - 1) e
      have hu : ∀ x ∈ allB L, U8 x := u8_all hLok
      have bl : (byts (allB L)).take (8 * L.length) = byts (allB L) := List.take_of_length_le (by rw [byts_len, allB_len]; exact Nat.le_refl _)
      have hu' : (∀ (x : Int), x ∈ allB L → U8 x) = True := by simpa using hu
      simp only [WK, simprocAttr, c7, n7, t27_s, S27, S26, S25, S24, S23, S22, S21, S20, S19, S17, S16, S15, S14, S13, S11, S10, S9, S8, S7, S6, hd, ← hL, ownRow, e', hdL, el, er, hb, hb2, g', gt_iff_lt, avs_len, ar, bl, decBs_byts, hu', and_self]
      refine x_loop (i7 L) ⟨L.length, _, ⟨0, _, by omega, by omega, rfl, rfl⟩, ⟨rfl, rfl, by simp [alook]⟩⟩ ?_
      rintro m τ h ⟨q, gb, hq, rfl, rfl, rfl⟩
      by_cases b1 : (q : Int) < (L.length : Int)
      · have hql : q < L.length := by omega
        have q0 : (0 : Int) ≤ (q : Int) := by omega
        have gx := avs_getq hql
        have hxo := hLok _ (List.getElem_mem hql)
        obtain ⟨x, hx⟩ : ∃ x, x = L[q] := ⟨_, rfl⟩
        rw [← hx] at gx hxo
        have hK : InOK x.c x.a x.b x.k := hxo
        have ex : (⟨x.c, x.a, x.b, x.k⟩ : In) = x := rfl
        have w : IntKind.i64.wrap ((q : Int) + 1) = ((q + 1 : Nat) : Int) := by rw [wrI64 (by omega) (by omega)]; omega
        obtain ⟨H, hH⟩ : ∃ H : AHeap, H = .row 0 4 (avs L) :: .row 0 4 (avs L) :: (gb ++ [.row 0 4 [.agg [.int .u16 x.c, .int .u8 x.a, .int .u8 x.b, .int .u32 x.k]]]) := ⟨_, rfl⟩
        obtain ⟨n, hn⟩ : ∃ n, n = gb.length + 1 + 1 := ⟨_, rfl⟩
        have hl : H.length = n + 1 := by rw [hH, hn]; simp
        have hr : rowAt H n 0 = some (4, [.agg [.int .u16 x.c, .int .u8 x.a, .int .u8 x.b, .int .u32 x.k]]) := by rw [hH, hn]; simp [rowAt]
        have hrX := fun X => rowAt_app hr X
        have h1 := fun E v => hrow0 hl E v
        have h2 := fun E v => hrow hl E 1 v
        simp only [WK, simprocAttr, b1, q0, hql, gx, In.av, inV, t27_l, List.headD_cons, Bool.or_true, Bool.or_self]
        rw [← hH, ← hn]
        refine drwL_of [1, 3] [(0, 0), (0, 0), (0, 1), (1, 1), (2, 2), (2, 2), (2, 2), (2, 2), (2, 2), (2, 2), (2, 2), (2, 2), (2, 2)] (fun q => match q with
          | 0 => H
          | 1 => H ++ [.row 4 1 (byts (encB x))]
          | _ => H ++ [.row 4 1 (byts (encB x)), .row 3 1 (byts (encB x))]) (by kernel_rfl) rfl ?_
        refine awL_q (.agg [.int .u16 x.c, .int .u8 x.a, .int .u8 x.b, .int .u32 x.k]) 0 0 rfl rfl rfl (fun q h1 h2 => ?_) ?_
        · obtain rfl : q = 0 := by omega
          simp only [WN, simprocAttr, hr]
        refine awL_c (.rf (n + 1) 4 0 8) 0 (f := 33) (args := [x.av]) rfl rfl rfl ?_ ?_ ?_
        · simp only [WN, simprocAttr, In.av, inV]
        · have := ACall.liftOwn (h := H) (args := [x.av]) (k33 x hxo) (by simp [In.av, inV, snap, sn1, bel_agg, bel_int]) (own_rf _ _ _ _) (ownH_row _ _ _ (byts_solid _))
          simpa [shift, sh1, hl] using this
        refine awL_q (.agg [.int .u16 x.c, .int .u8 x.a, .int .u8 x.b, .int .u32 x.k]) 0 1 rfl rfl rfl (fun q h1 h2 => ?_) ?_
        · rcases (by omega : q = 0 ∨ q = 1) with rfl | rfl <;> simp only [WN, simprocAttr, hr, hrX]
        refine awL_c (.rf (n + 2) 3 0 8) 1 (f := 34) (args := [x.av]) rfl rfl rfl ?_ ?_ ?_
        · simp only [WN, simprocAttr, In.av, inV]
        · have := ACall.liftOwn (h := H ++ [.row 4 1 (byts (encB x))]) (args := [x.av]) (k34 x hxo) (by simp [In.av, inV, snap, sn1, bel_agg, bel_int]) (own_rf _ _ _ _) (ownH_row _ _ _ (byts_solid _))
          simpa [shift, sh1, hl] using this
        refine awL_end T27ok (fun j h1 h2 => ?_) ?_
        · have : j = 4 ∨ j = 5 ∨ j = 6 ∨ j = 7 ∨ j = 8 ∨ j = 9 ∨ j = 10 ∨ j = 11 ∨ j = 12 := by simp at h2; omega
          rcases this with rfl | rfl | rfl | rfl | rfl | rfl | rfl | rfl | rfl <;> exact ⟨rfl, rfl⟩
        have he : (byts (encB x)).take 8 = byts (encB x) := List.take_of_length_le (by rw [byts_len, encB_len]; exact Nat.le_refl _)
        have hue : (∀ (y : Int), y ∈ encB x → U8 y) = True := by simpa using u8_enc hxo
        obtain ⟨y, hy⟩ : ∃ y, y = bareK x := ⟨_, rfl⟩
        have p1 : (y.c == y.c) = true := by simp
        have p2 : (y.a == y.a) = true := by simp
        have p3 : (y.b == y.b) = true := by simp
        have p4 : (y.k == y.k) = true := by simp
        simp only [WN, simprocAttr, hrX, h1, h2, rc0, rcS, t27_s, S27, S26, S25, S24, S23, S22, S21, S20, S19, S17, S16, S15, S14, S13, S11, S10, S9, S8, S7, S6, he, decBs_byts, hue, and_self, hK, ex, ← hy, In.av, inV, aeqs, aeq1, p1, p2, p3, p4]
        refine ⟨L.length - (q + 1), _, by omega, ⟨q + 1, gb ++ [.row 0 4 [.agg [.int .u16 x.c, .int .u8 x.a, .int .u8 x.b, .int .u32 x.k]], .row 4 1 (byts (encB x)), .row 3 1 (byts (encB x))], by omega, rfl, ?_, rfl⟩, ⟨rfl, rfl, by simp [alook, w]⟩⟩
        rw [hH]; simp
      · simp only [WK, simprocAttr, b1]
        simp only [WK, simprocAttr, EW, r7]
end Go.Av
