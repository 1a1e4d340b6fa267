/- Contracts: numbers laid behind bytes. -/
import Derived.Test.YthhcgcbbdinenaaMk
set_option linter.unusedVariables false
set_option linter.unusedSimpArgs false
namespace Go.Av
open Go Go.Proofs
set_option maxRecDepth 100000
set_option maxHeartbeats 2000000
def byts (l : List Int) : List AV := l.map (AV.int .u8)
def decBs : List AV → Option (List Int)
  | [] => some []
  | .int .u8 n :: r => match decBs r with
    | some l => some (n :: l)
    | none => none
  | _ => none
theorem decBs_byts : ∀ (l : List Int), decBs (byts l) = some l
  | [] => rfl
  | x :: l => by
    have e : byts (x :: l) = .int .u8 x :: byts l := rfl
    rw [e, decBs, decBs_byts l]
theorem decBs_inv : ∀ {vs : List AV} {l : List Int}, decBs vs = some l → vs = byts l
  | [], l, h => by simp [decBs] at h; subst h; rfl
  | v :: vs, l, h => by
    unfold decBs at h
    split at h
    · rename_i heq; cases heq
    · rename_i n r heq
      cases heq
      split at h
      · rename_i l' hl
        cases h
        rw [decBs_inv hl]; rfl
      · cases h
    · cases h
theorem byts_bel (n : Nat) (t : Bool) (l : List Int) : Bel n (.sl t (byts l)) := by
  rw [bel_sl]
  intro x hx u hu
  obtain ⟨y, _, rfl⟩ := List.mem_map.1 hx
  simp only [cells_int, List.mem_singleton] at hu
  subst hu
  exact .int _ _
theorem byts_solid (l : List Int) : ∀ x ∈ byts l, ∀ u ∈ x.cells, Solid u := by
  intro x hx u hu
  obtain ⟨y, _, rfl⟩ := List.mem_map.1 hx
  simp only [cells_int, List.mem_singleton] at hu
  subst hu
  exact .int _ _
theorem byts_okE (l : List Int) : (byts l).all (okE 1) = true := by
  rw [List.all_eq_true]
  intro x hx
  obtain ⟨y, _, rfl⟩ := List.mem_map.1 hx
  rfl
theorem byts_w (l : List Int) : (byts l).all (fun x => x.cells.length == 1) = true := by
  rw [List.all_eq_true]
  intro x hx
  obtain ⟨y, _, rfl⟩ := List.mem_map.1 hx
  rfl
theorem byts_len (l : List Int) : (byts l).length = l.length := by simp [byts]
theorem byts_get {l : List Int} {i : Nat} (h : i < l.length) : (byts l)[i]? = some (.int .u8 l[i]) := by simp [byts, h]
theorem byts_nil {l : List Int} : byts l = [] ↔ l = [] := by simp [byts]
theorem byts_app (a b : List Int) : byts a ++ byts b = byts (a ++ b) := by simp [byts]
theorem byts_push (a : List Int) (x : Int) : byts a ++ [.int .u8 x] = byts (a ++ [x]) := by simp [byts]
/-- A row of bytes of its own. -/
def bRow (v : Nat) (l : List Int) : AV × AHeap := if l = [] then (.sl true [], []) else (.rf 0 v 0 l.length, [.row v 1 (byts l)])
theorem bRow_own (v : Nat) (l : List Int) : Own (bRow v l).2 (bRow v l).1 ∧ OwnH (bRow v l).2 := by
  unfold bRow
  split
  · exact ⟨own_solid (.nilsl _), ownH_nil⟩
  · exact ⟨own_rf _ _ _ _, ownH_row _ _ _ (byts_solid _)⟩
theorem eqn_cons {s : List (Nat × AV)} {h : AHeap} {neg : Bool} {x : Opd} {t : Bool} {y : AV} {l : List AV} (e : ev s x = .sl t (y :: l)) : astep s h (.eqn 0 neg x) = .v (.bool neg) h := by
  simp only [astep, e]
theorem eqn_nil {s : List (Nat × AV)} {h : AHeap} {neg : Bool} {x : Opd} {t : Bool} (e : ev s x = .sl t []) : astep s h (.eqn 0 neg x) = .v .anyb h := by
  simp only [astep, e]
theorem k80 (t : Bool) (l : List Int) (hb : l.length ≤ 1000000000) : ACall PA 80 [.sl t (byts l)] [] (bRow 0 l).1 (bRow 0 l).2 := by
  refine ACall.ofS S15ok hmA h80 (by kernel_rfl) (Nat.le_of_ble_eq_true rfl) (bRow_own _ _).2 (bRow_own _ _).1 (aS_den ?_)
  cases l with
  | nil =>
    simp only [WK, simprocAttr, eqn_nil (t := t), c80, n80, byts, appR]
    refine ⟨?_, ?_⟩
    · simp only [WK, simprocAttr, EW, r80]
      simp [bRow]
    · simp only [WK, simprocAttr, EW, r80]
      simp [bRow]
  | cons x l =>
    have e : byts (x :: l) = .int .u8 x :: byts l := rfl
    have m : (l.length + 1) * 1 ≤ 140737488355328 := by simp only [List.length_cons] at hb; omega
    have m' : l.length + 1 ≤ 140737488355328 := by omega
    simp only [WK, simprocAttr, eqn_cons (t := t) (y := .int .u8 x) (l := byts l), c80, n80, e, appR, most, byts_len, m, m', byts_okE]
    simp only [WK, simprocAttr, EW, r80]
    simp [bRow, e]
def S16 : Spec := fun f args => match f, args with
  | 80, [.sl _ xs] => match decBs xs with
    | some l => if l.length ≤ 1000000000 then some (bRow 0 l) else none
    | none => none
  | f, args => S15 f args
theorem S16ok : SpecOK PA S16 := by
  refine ⟨fun f args r l h => ?_⟩
  unfold S16 at h
  split at h
  · rename_i tt xs
    split at h
    · rename_i l' hd
      obtain rfl := decBs_inv hd
      split at h
      · rename_i hc
        have e : bRow 0 l' = (r, l) := by injection h
        have k := k80 tt l' hc
        have o := bRow_own 0 l'
        rw [e] at k o
        exact ⟨k, by simp only [List.mem_singleton, forall_eq]; exact byts_bel _ _ _, o.1, o.2⟩
      · cases h
    · cases h
  · exact S15ok.ok _ _ _ _ h
def lowB : Nat → Int → List Int
  | 0, _ => []
  | n + 1, x => x % 256 :: lowB n (x / 256)
theorem lowB_len : ∀ (n : Nat) (x : Int), (lowB n x).length = n
  | 0, _ => rfl
  | n + 1, x => by simp [lowB, lowB_len n]
theorem lowB_push : ∀ (n : Nat) (x : Int), lowB (n + 1) x = lowB n x ++ [(x / 256 ^ n) % 256]
  | 0, x => by simp [lowB]
  | n + 1, x => by
    rw [lowB, lowB_push n (x / 256), lowB]
    simp only [List.cons_append, List.cons.injEq, true_and]
    congr 3
    rw [Int.ediv_ediv_of_nonneg (by omega), Int.pow_succ, Int.mul_comm]
def verB (l : List Int) (j : Nat) : Nat := if l = [] then j - 1 else j
def i83 (t : Bool) (l : List Int) (x : Int) (n : Nat) (m : Nat) (τ : AFr) (h : AHeap) : Prop :=
  ∃ j : Nat, j ≤ n ∧ m = n - j ∧ h = (bRow (verB l j) (l ++ lowB j x)).2 ∧
    τ = { n := 23, s := [(10, .int .i64 n), (11, .int .i64 j), (7, (bRow (verB l j) (l ++ lowB j x)).1), (1, .int .u64 (x / 256 ^ j))], dfr := [] }
theorem k83 (t : Bool) (l : List Int) (hb : l.length ≤ 100000) (x : Int) (hx : 0 ≤ x ∧ x < 18446744073709551616) (n : Nat) (hn : n ≤ 8) : ACall PA 83 [.sl t (byts l), .int .u64 x, .int .i64 n] [] (bRow (verB l n) (l ++ lowB n x)).1 (bRow (verB l n) (l ++ lowB n x)).2 := by
  refine ACall.ofS S16ok hmA h83 (by kernel_rfl) (Nat.le_of_ble_eq_true rfl) (bRow_own _ _).2 (bRow_own _ _).1 (aS_den ?_)
  have hb' : l.length ≤ 1000000000 := by omega
  have e0 : verB l 0 = 0 := by unfold verB; split <;> rfl
  simp only [WK, simprocAttr, c83, n83, S16, decBs_byts, hb']
  refine x_loop (i83 t l x n) ⟨n, _, ⟨0, by omega, by omega, ?_, rfl⟩, ⟨rfl, rfl, ?_⟩⟩ ?_
  · rw [e0]
    simp only [lowB, List.append_nil]
  · simp only [lowB, List.append_nil, e0]
    unfold bRow
    split <;> simp [alook, shift, sh1]
  rintro m τ h ⟨j, hj, rfl, rfl, rfl⟩
  have xj : 0 ≤ x / 256 ^ j := Int.ediv_nonneg hx.1 (by exact Int.le_of_lt (Int.pow_pos (by omega)))
  have xj2 : x / 256 ^ j ≤ x := Int.ediv_le_self _ hx.1
  obtain ⟨y, hy⟩ : ∃ y, y = x / 256 ^ j := ⟨_, rfl⟩
  have hp := lowB_push j x
  have y2 : x / 256 ^ (j + 1) = y / 256 := by rw [hy, Int.ediv_ediv_of_nonneg (Int.le_of_lt (Int.pow_pos (by omega))), Int.pow_succ]
  rw [← hy] at xj xj2 hp ⊢
  have w1 : y.tmod 256 = y % 256 := Int.tmod_eq_emod_of_nonneg xj
  have w2 : IntKind.u8.wrap (y % 256) = y % 256 := wrU8 (by omega) (by omega)
  have w3 : y.tdiv 256 = y / 256 := Int.tdiv_eq_ediv_of_nonneg xj
  have w4 : IntKind.u64.wrap (y / 256) = y / 256 := wrU64 (by omega) (by omega)
  have w5 : IntKind.u64.wrap (y % 256) = y % 256 := wrU64 (by omega) (by omega)
  by_cases b1 : (j : Int) < (n : Int)
  · have w : IntKind.i64.wrap ((j : Int) + 1) = ((j + 1 : Nat) : Int) := by rw [wrI64 (by omega) (by omega)]; omega
    by_cases e : l ++ lowB j x = []
    · have el : l = [] := (List.append_eq_nil_iff.1 e).1
      have ej : j = 0 := by
        have := congrArg List.length e
        simp [lowB_len] at this; omega
      subst el ej
      have b2 : (0 : Int) < (n : Int) := by omega
      have hb1 : bRow (verB [] 0) (lowB 0 x) = (.sl true [], []) := rfl
      simp only [WK, simprocAttr, Int.cast_ofNat_Int, b2, hb1, appR, most, w1, w2, w3, w4, w5]
      refine ⟨n - (0 + 1), _, by omega, ⟨0 + 1, by omega, rfl, ?_, rfl⟩, ⟨rfl, rfl, ?_⟩⟩
      · rw [hp]; simp [bRow, lowB, verB, byts]
      · have y0 : y = x := by rw [hy]; simp
        have w1' : IntKind.i64.wrap 1 = 1 := by decide
        simp [alook, w1', bRow, verB, hp, lowB, y0]
    · have e2 : l ++ lowB (j + 1) x ≠ [] := by rw [hp]; simp
      have hb1 : bRow (verB l j) (l ++ lowB j x) = (.rf 0 (verB l j) 0 (l.length + j), [.row (verB l j) 1 (byts (l ++ lowB j x))]) := by rw [bRow, if_neg e, List.length_append, lowB_len]
      have m1 : l.length + j + 1 ≤ 140737488355328 := by omega
      have m2 : l.length + j ≤ 140737488355327 := by omega
      have bt : (byts (l ++ lowB j x)).take (l.length + j) = byts (l ++ lowB j x) := List.take_of_length_le (by rw [byts_len, List.length_append, lowB_len]; exact Nat.le_refl _)
      have v1 : verB l j + 1 = verB l (j + 1) := by
        unfold verB
        split
        · rename_i c
          have : j ≠ 0 := fun c' => e (by rw [c, c']; rfl)
          omega
        · rfl
      have hl2 : (l ++ lowB (j + 1) x).length = l.length + j + 1 := by simp [lowB_len]; omega
      simp only [WK, simprocAttr, b1, hb1, appR, most, w1, w2, w3, w4, w5, m1, m2, bt, byts_len, lowB_len, Nat.le_refl, byts_push]
      refine ⟨n - (j + 1), _, by omega, ⟨j + 1, by omega, rfl, ?_, rfl⟩, ⟨rfl, rfl, ?_⟩⟩
      · rw [bRow, if_neg e2, hp, v1]; simp
      · rw [bRow, if_neg e2]
        simp [alook, w, y2, v1, hl2]
  · have ej : j = n := by omega
    subst ej
    simp only [WK, simprocAttr, b1]
    unfold bRow
    split
    · simp only [WK, simprocAttr, EW, r83]
    · simp only [WK, simprocAttr, EW, r83]
      simp
end Go.Av

/- Contracts: an instruction's bytes. -/
namespace Go.Av
open Go Go.Proofs
set_option maxRecDepth 100000
set_option maxHeartbeats 2000000
def S17 : Spec := fun f args => match f, args with
  | 83, [.sl _ xs, .int .u64 x, .int .i64 n] => match decBs xs with
    | some l => if l.length ≤ 100000 ∧ 0 ≤ x ∧ x < 18446744073709551616 ∧ 0 ≤ n ∧ n ≤ 8 then some (bRow (verB l n.toNat) (l ++ lowB n.toNat x)) else none
    | none => none
  | f, args => S16 f args
theorem S17ok : SpecOK PA S17 := by
  refine ⟨fun f args r l h => ?_⟩
  unfold S17 at h
  split at h
  · rename_i tt xs x n
    split at h
    · rename_i l' hd
      obtain rfl := decBs_inv hd
      split at h
      · rename_i hc
        obtain ⟨c1, c2, c3, c4, c5⟩ := hc
        obtain ⟨m, rfl⟩ := Int.eq_ofNat_of_zero_le c4
        rw [Int.toNat_natCast] at h
        have e : bRow (verB l' m) (l' ++ lowB m x) = (r, l) := by injection h
        have k := k83 tt l' c1 x ⟨c2, c3⟩ m (by omega)
        have o := bRow_own (verB l' m) (l' ++ lowB m x)
        rw [e] at k o
        exact ⟨k, by intro x hx; simp only [List.mem_cons, List.not_mem_nil, or_false] at hx; rcases hx with rfl | rfl | rfl; exact byts_bel _ _ _; exact .int _ _; exact .int _ _, o.1, o.2⟩
      · cases h
    · cases h
  · exact S16ok.ok _ _ _ _ h
theorem bR_end {v : Nat} {l : List Int} {rs : List RV} {j : Jump} {τ : AFr} {i : Nat} (hrs : rs = [.t i]) (hj : j = .none ∨ j = .ret) (hd : τ.dfr = []) (hi : alook τ.s i = (bRow v l).1) : EndQ rs (bRow v l).1 (bRow v l).2 j τ (bRow v l).2 := by
  subst hrs
  unfold bRow at *
  split
  · rename_i e
    rw [if_pos e] at hi
    refine ⟨⟨hj, .inl hd, ?_⟩, ?_⟩
    · simp [hd, kills, aresl, ares, hi, resv, refs, refs1, rn, rn1]
    · simp [hd, kills, aresl, ares, hi, resv, refs, refs1]
  · rename_i e
    rw [if_neg e] at hi
    refine ⟨⟨hj, .inl hd, ?_⟩, ?_⟩
    · simp [hd, kills, aresl, ares, hi, resv, refs, refs1, rn, rn1]
    · simp [hd, kills, aresl, ares, hi, resv, refs, refs1]
theorem shift0 (v : Nat) (l : List Int) : shift 0 (bRow v l).1 = (bRow v l).1 := by unfold bRow; split <;> rfl
theorem k76 (t : Bool) (l : List Int) (hb : l.length ≤ 100000) (c : Int) (hc : U16 c) : ACall PA 76 [.sl t (byts l), .int .u16 c] [] (bRow (verB l 2) (l ++ lowB 2 c)).1 (bRow (verB l 2) (l ++ lowB 2 c)).2 := by
  refine ACall.ofS S17ok hmA h76 (by kernel_rfl) (Nat.le_of_ble_eq_true rfl) (bRow_own _ _).2 (bRow_own _ _).1 (aS_den ?_)
  have h0 : 0 ≤ c := hc.1
  have h1 : c < 18446744073709551616 := by have := hc.2; omega
  have w : IntKind.u64.wrap c = c := wrU64 h0 h1
  simp only [WK, simprocAttr, c76, n76, S17, w, decBs_byts, hb, h0, h1, and_self, shift0]
  exact bR_end rfl (.inr rfl) rfl rfl
theorem k75 (t : Bool) (l : List Int) (hb : l.length ≤ 100000) (c : Int) (hc : 0 ≤ c ∧ c < 4294967296) : ACall PA 75 [.sl t (byts l), .int .u32 c] [] (bRow (verB l 4) (l ++ lowB 4 c)).1 (bRow (verB l 4) (l ++ lowB 4 c)).2 := by
  refine ACall.ofS S17ok hmA h75 (by kernel_rfl) (Nat.le_of_ble_eq_true rfl) (bRow_own _ _).2 (bRow_own _ _).1 (aS_den ?_)
  have h0 : 0 ≤ c := hc.1
  have h1 : c < 18446744073709551616 := by have := hc.2; omega
  have w : IntKind.u64.wrap c = c := wrU64 h0 h1
  simp only [WK, simprocAttr, c75, n75, S17, w, decBs_byts, hb, h0, h1, and_self, shift0]
  exact bR_end rfl (.inr rfl) rfl rfl
theorem awL_v {P : Program} {loud : List Nat} {iv : List (Nat × Nat)} {hs : Nat → AHeap} {i : Nat} {d : Option Nat} {op : AOpr} {af : List Nat} {r : List AOpD} {K : AFr → Prop} {τ : AFr} (x : AV) (q : Nat) (hl : loud.contains i = true) (hv : iv.getD i (0, 0) = (q, q)) (hd : τ.inb d = true) (ha : astep τ.s (hs q) op = .v x (hs (q + 1))) (H : awL P loud iv hs (i + 1) r K (τ.put d x)) : awL P loud iv hs i (⟨d, none, op, af⟩ :: r) K τ := by
  refine ⟨hd, x, ?_, H⟩
  rw [if_pos hl, hv]
  simp only [awR, awG, awOp]
  rw [ha]
  exact ⟨rfl, rfl⟩
def T17 : Tab := ⟨S17, fun _ _ _ => none, fun f => f == 75 || f == 76⟩
theorem T17ok : TabOK PA T17 := ⟨S17ok, fun _ _ _ _ _ e => by cases e⟩
def encB (x : In) : List Int := lowB 2 x.c ++ [x.a, x.b] ++ lowB 4 x.k
theorem encB_len (x : In) : (encB x).length = 8 := by simp [encB, lowB_len]
def drw57 : List AOpD := [o 5 (.mov (.t 0)), o 6 (.faddr 0 (.t 3)), ⟨some 7, none, .ld none (.t 6), [1]⟩, ⟨some 8, none, .callS 76 [.t 5, .t 7], [0, 2]⟩, o 9 (.faddr 1 (.t 3)), ⟨some 10, none, .ld none (.t 9), [4]⟩, o 11 (.faddr 2 (.t 3)), ⟨some 12, none, .ld none (.t 11), [6]⟩, ⟨some 13, none, .bsl 1 [.t 10, .t 12], [5, 7]⟩, ⟨some 14, none, .app 1 1 (.t 8) (.t 13), [3, 8, 3]⟩, o 15 (.faddr 3 (.t 3)), ⟨some 16, none, .ld none (.t 15), [10]⟩, ⟨some 17, none, .callS 75 [.t 14, .t 16], [9, 11, 9]⟩, ⟨some 4, none, .mov (.t 17), [12, 12, 0, 1, 2, 3, 4, 5, 6, 7, 8, 9, 10, 11, 12]⟩]
theorem k57 (t : Bool) (l : List Int) (hb : l.length ≤ 90000) (x : In) (hx : x.OK) : ACall PA 57 [.sl t (byts l), x.av] [] (bRow 4 (l ++ encB x)).1 (bRow 4 (l ++ encB x)).2 := by
  refine ACall.ofT T17ok hmA h57 (by kernel_rfl) (Nat.le_of_ble_eq_true rfl) (bRow_own _ _).2 (bRow_own _ _).1 (aS_den ?_)
  have e4 : l ++ encB x ≠ [] := fun c => by have := congrArg List.length c; simp [encB_len] at this
  have f4 : bRow 4 (l ++ encB x) = (.rf 0 4 0 (l.length + 8), [.row 4 1 (byts (l ++ encB x))]) := by rw [bRow, if_neg e4, List.length_append, encB_len]
  rw [f4]
  simp only [WK, simprocAttr, c57, n57, T17, In.av, inV]
  obtain ⟨v, hv⟩ : ∃ v, v = verB l 2 := ⟨_, rfl⟩
  obtain ⟨l1, hl1⟩ : ∃ l1, l1 = l ++ lowB 2 x.c := ⟨_, rfl⟩
  obtain ⟨l2, hl2⟩ : ∃ l2, l2 = l1 ++ [x.a, x.b] := ⟨_, rfl⟩
  have n1 : l1.length = l.length + 2 := by rw [hl1, List.length_append, lowB_len]
  have n2 : l2.length = l.length + 4 := by rw [hl2, List.length_append, n1]; rfl
  have e1 : l1 ≠ [] := fun c => by rw [c] at n1; simp at n1
  have e2 : l2 ≠ [] := fun c => by rw [c] at n2; simp at n2
  have hl3 : l2 ++ lowB 4 x.k = l ++ encB x := by rw [hl2, hl1, encB]; simp
  have b1 : bRow v l1 = (.rf 0 v 0 (l.length + 2), [.row v 1 (byts l1)]) := by rw [bRow, if_neg e1, n1]
  refine drwL_of [3, 9, 12] [(0, 0), (0, 0), (0, 0), (0, 0), (0, 1), (0, 1), (0, 1), (0, 1), (0, 1), (1, 1), (0, 2), (0, 2), (2, 2), (3, 3)] (fun q => match q with
    | 0 => [rowI x]
    | 1 => [rowI x, .row v 1 (byts l1)]
    | 2 => [rowI x, .row (v + 1) 1 (byts l2)]
    | _ => [rowI x, .row (v + 1) 1 (byts l2), .row 4 1 (byts (l ++ encB x))]) (by kernel_rfl) rfl ?_
  have c3 : ∀ {q a b : Nat}, a ≤ q → q ≤ b → b ≤ 2 → q = 0 ∨ q = 1 ∨ q = 2 := fun h1 h2 h3 => by omega
  refine awL_q (.sl t (byts l)) 0 0 rfl rfl rfl (fun q h1 h2 => ?_) ?_
  · simp only [WK, simprocAttr]
  refine awL_q (.rp 0 0 0 0) 0 0 rfl rfl rfl (fun q h1 h2 => ?_) ?_
  · simp only [WK, simprocAttr]
  refine awL_q (.int .u16 x.c) 0 0 rfl rfl rfl (fun q h1 h2 => ?_) ?_
  · obtain rfl : q = 0 := by omega
    simp only [WK, simprocAttr, In.av, inV]
  refine awL_c (.rf 1 v 0 (l.length + 2)) 0 (f := 76) (args := [.sl t (byts l), .int .u16 x.c]) rfl rfl rfl ?_ ?_ ?_
  · simp only [WK, simprocAttr]
  · have := k76 t l (by omega) x.c hx.c
    rw [← hv, ← hl1, b1] at this
    exact ACall.liftOwn (h := [rowI x]) (args := [.sl t (byts l), .int .u16 x.c]) this (by simp only [List.map_cons, List.map_nil, snap, sn1]; intro y hy; simp only [List.mem_cons, List.not_mem_nil, or_false] at hy; rcases hy with rfl | rfl; exact byts_bel _ _ _; exact .int _ _) (own_rf _ _ _ _) (ownH_row _ _ _ (byts_solid _))
  refine awL_q (.rp 0 0 0 1) 0 1 rfl rfl rfl (fun q h1 h2 => ?_) ?_
  · simp only [WK, simprocAttr]
  refine awL_q (.int .u8 x.a) 0 1 rfl rfl rfl (fun q h1 h2 => ?_) ?_
  · rcases c3 h1 h2 (by omega) with rfl | rfl | rfl <;> simp only [WK, simprocAttr, In.av, inV]
  refine awL_q (.rp 0 0 0 2) 0 1 rfl rfl rfl (fun q h1 h2 => ?_) ?_
  · simp only [WK, simprocAttr]
  refine awL_q (.int .u8 x.b) 0 1 rfl rfl rfl (fun q h1 h2 => ?_) ?_
  · rcases c3 h1 h2 (by omega) with rfl | rfl | rfl <;> simp only [WK, simprocAttr, In.av, inV]
  refine awL_q (.sl true [.int .u8 x.a, .int .u8 x.b]) 0 1 rfl rfl rfl (fun q h1 h2 => ?_) ?_
  · simp only [WK, simprocAttr]
  have m1 : l.length + 2 + 2 ≤ 140737488355328 := by omega
  have m2 : l.length + 4 ≤ 140737488355328 := by omega
  have m3 : l.length ≤ 140737488355324 := by omega
  have bt : (byts l1).take (l.length + 2) = byts l1 := List.take_of_length_le (by rw [byts_len, n1]; exact Nat.le_refl _)
  have bp : byts l1 ++ [.int .u8 x.a, .int .u8 x.b] = byts l2 := by rw [hl2]; simp [byts]
  refine awL_v (.rf 1 (v + 1) 0 (l.length + 4)) 1 rfl rfl rfl ?_ ?_
  · simp only [WK, simprocAttr, appR, most, byts_len, n1, bt, bp, m1, m2, m3, Nat.le_refl]
  refine awL_q (.rp 0 0 0 3) 0 2 rfl rfl rfl (fun q h1 h2 => ?_) ?_
  · simp only [WK, simprocAttr]
  refine awL_q (.int .u32 x.k) 0 2 rfl rfl rfl (fun q h1 h2 => ?_) ?_
  · rcases c3 h1 h2 (by omega) with rfl | rfl | rfl <;> simp only [WK, simprocAttr, In.av, inV]
  refine awL_c (.rf 2 4 0 (l.length + 8)) 2 (f := 75) (args := [.rf 1 (v + 1) 0 (l.length + 4), .int .u32 x.k]) rfl rfl rfl ?_ ?_ ?_
  · simp only [WK, simprocAttr]
  · have := k75 false l2 (by omega) x.k hx.k
    have v4 : verB l2 4 = 4 := by rw [verB, if_neg e2]
    have b3 : bRow (verB l2 4) (l2 ++ lowB 4 x.k) = (.rf 0 4 0 (l.length + 8), [.row 4 1 (byts (l ++ encB x))]) := by rw [v4, hl3]; exact f4
    rw [b3] at this
    have sn : [AV.rf 1 (v + 1) 0 (l.length + 4), AV.int .u32 x.k].map (snap [rowI x, .row (v + 1) 1 (byts l2)]) = [.sl false (byts l2), .int .u32 x.k] := by
      have bt2 : (byts l2).take (l.length + 4) = byts l2 := List.take_of_length_le (by rw [byts_len, n2]; exact Nat.le_refl _)
      simp only [WK, simprocAttr, bt2]
    exact ACall.liftOwn (h := [rowI x, .row (v + 1) 1 (byts l2)]) (args := [AV.rf 1 (v + 1) 0 (l.length + 4), AV.int .u32 x.k]) (by rw [sn]; exact this) (by rw [sn]; intro y hy; simp only [List.mem_cons, List.not_mem_nil, or_false] at hy; rcases hy with rfl | rfl; exact byts_bel _ _ _; exact .int _ _) (own_rf _ _ _ _) (ownH_row _ _ _ (byts_solid _))
  refine awL_q (.rf 2 4 0 (l.length + 8)) 3 3 rfl rfl rfl (fun q h1 h2 => ?_) ?_
  · simp only [WK, simprocAttr]
  simp only [awL]
  simp only [WK, simprocAttr]
  simp only [WK, simprocAttr, EW, r57]
  simp [List.idxOf]
end Go.Av

/- Contracts: Encode, Codes, Code. -/
namespace Go.Av
open Go Go.Proofs
set_option maxRecDepth 100000
set_option maxHeartbeats 2000000
def S19 : Spec := fun f args => match f, args with
  | 57, [.sl _ xs, .agg [.int .u16 c, .int .u8 a, .int .u8 b, .int .u32 k]] => match decBs xs with
    | some l => if l.length ≤ 90000 ∧ InOK c a b k then some (bRow 4 (l ++ encB ⟨c, a, b, k⟩)) else none
    | none => none
  | f, args => S17 f args
theorem S19ok : SpecOK PA S19 := by
  refine ⟨fun f args r l h => ?_⟩
  unfold S19 at h
  split at h
  · rename_i tt xs c a b k
    split at h
    · rename_i l' hd
      obtain rfl := decBs_inv hd
      split at h
      · rename_i hc
        have e : bRow 4 (l' ++ encB ⟨c, a, b, k⟩) = (r, l) := by injection h
        have kk := k57 tt l' hc.1 ⟨c, a, b, k⟩ hc.2
        have o := bRow_own 4 (l' ++ encB ⟨c, a, b, k⟩)
        rw [e] at kk o
        exact ⟨kk, by intro x hx; simp only [List.mem_cons, List.not_mem_nil, or_false] at hx; rcases hx with rfl | rfl; exact byts_bel _ _ _; simp [bel_agg, bel_int], o.1, o.2⟩
      · cases h
    · cases h
  · exact S17ok.ok _ _ _ _ h
theorem k33 (x : In) (hx : x.OK) : ACall PA 33 [x.av] [] (.rf 0 4 0 8) [.row 4 1 (byts (encB x))] := by
  have e4 : encB x ≠ [] := fun c => by have := congrArg List.length c; simp [encB_len] at this
  have f4 : bRow 4 (encB x) = (.rf 0 4 0 8, [.row 4 1 (byts (encB x))]) := by rw [bRow, if_neg e4, encB_len]
  refine ACall.ofS S19ok hmA h33 (by kernel_rfl) (Nat.le_of_ble_eq_true rfl) (ownH_row _ _ _ (byts_solid _)) (own_rf _ _ _ _) (aS_den ?_)
  have d0 : decBs [] = some [] := rfl
  have hK : InOK x.c x.a x.b x.k := hx
  have ex : (⟨x.c, x.a, x.b, x.k⟩ : In) = x := rfl
  simp only [WK, simprocAttr, c33, n33, S19, In.av, inV, d0, hK, ex, f4, Nat.zero_le, and_self]
  simp only [WK, simprocAttr, EW, r33]
  simp [List.idxOf]
/-! ### The codes, told -/
theorem k14 (h : AHeap) : ACall PA 14 [] h (.fn (.func 48) [] []) h := by
  refine ACall.ofG S19ok hmA h14 (by kernel_rfl) (Nat.le_of_ble_eq_true rfl) (Hstay.refl _) fun _ => aS_den ?_
  simp only [WK, simprocAttr, c14, n14]
  exact Fin.plain (.inr rfl) rfl rfl rfl
def cArgs (c : Nat) : List AV := [.int .u16 c, .str (sb (nameK c).1)]
structure Gen48 (id : Nat) (H : Nat → AHeap) (stop : Nat) : Prop where
  le : stop ≤ 256
  y : ∀ c, c < stop → (nameK c).2 = true → AYield PA id (cArgs c) (H c) (.bool true) (H (c + 1))
  n : ∀ c, c < stop → (nameK c).2 = false → H (c + 1) = H c
  z : stop < 256 → (nameK stop).2 = true ∧ AYield PA id (cArgs stop) (H stop) (.bool false) (H (stop + 1))
  st : Hstay (H 0) (H (if stop < 256 then stop + 1 else 256))
def i48 (id : Nat) (H : Nat → AHeap) (stop : Nat) (m : Nat) (τ : AFr) (h : AHeap) : Prop :=
  ∃ c : Nat, c ≤ stop ∧ m = stop - c ∧ h = H c ∧ τ = { n := 22, s := [(0, .yld id), (5, .int .u16 c)], dfr := [] }
theorem k48 (id : Nat) (H : Nat → AHeap) (stop : Nat) (G : Gen48 id H stop) : ACall PA 48 [.yld id] (H 0) (.tup []) (H (if stop < 256 then stop + 1 else 256)) := by
  refine ACall.ofG S19ok hmA h48 (by kernel_rfl) (Nat.le_of_ble_eq_true rfl) G.st fun _ => aS_den ?_
  simp only [WK, simprocAttr, c48, n48]
  refine x_loop (i48 id H stop) ⟨stop, _, ⟨0, by omega, by omega, rfl, rfl⟩, ⟨rfl, rfl, by simp [alook]⟩⟩ ?_
  rintro m τ h ⟨c, hc, rfl, rfl, rfl⟩
  have h256 := G.le
  by_cases b1 : c < 256
  · have b2 : (c : Int) < 256 := by omega
    have u16 : U16 (c : Int) := ⟨by omega, by omega⟩
    have w : IntKind.u16.wrap ((c : Int) + 1) = ((c + 1 : Nat) : Int) := by rw [wrU16 (by omega) (by omega)]; omega
    cases ok : (nameK c).2 with
    | false =>
      have cs : c < stop := by
        rcases Nat.lt_or_ge c stop with d | d
        · exact d
        · have : c = stop := by omega
          subst this
          have := (G.z (by omega)).1
          rw [ok] at this; cases this
      simp only [WK, simprocAttr, b2, S19, S17, S16, S15, S14, S13, S11, S10, S9, S8, S7, S6, S5, S4, S3, S2, S1, u16, ok]
      refine ⟨stop - (c + 1), _, by omega, ⟨c + 1, by omega, rfl, (G.n c cs ok).symm, rfl⟩, ⟨rfl, rfl, by simp [alook, w]⟩⟩
    | true =>
      rcases Nat.lt_or_ge c stop with d | d
      · simp only [WK, simprocAttr, b2, S19, S17, S16, S15, S14, S13, S11, S10, S9, S8, S7, S6, S5, S4, S3, S2, S1, u16, ok]
        refine ⟨_, _, G.y c d ok, ?_⟩
        simp only [WK, simprocAttr]
        refine ⟨stop - (c + 1), _, by omega, ⟨c + 1, by omega, rfl, rfl, rfl⟩, ⟨rfl, rfl, by simp [alook, w]⟩⟩
      · have : c = stop := by omega
        subst this
        simp only [WK, simprocAttr, b2, S19, S17, S16, S15, S14, S13, S11, S10, S9, S8, S7, S6, S5, S4, S3, S2, S1, u16, ok]
        refine ⟨_, _, (G.z b1).2, ?_⟩
        simp only [WK, simprocAttr]
        rw [if_pos b1]
        exact Fin.plain (.inr rfl) rfl rfl rfl
  · have ec : c = 256 := by omega
    have es : stop = 256 := by omega
    subst ec es
    simp only [WK, simprocAttr]
    exact Fin.plain (.inl rfl) rfl rfl rfl
def isK (s : List UInt8) (c : Nat) : Bool := (nameK c).2 && decide ((nameK c).1 = s)
def stopF (s : List UInt8) : Nat → Nat → Nat
  | 0, c => c
  | n + 1, c => if isK s c = true then c else stopF s n (c + 1)
def stopK (s : List UInt8) : Nat := stopF s 256 0
theorem stopF_spec (s : List UInt8) : ∀ (n c : Nat), c ≤ stopF s n c ∧ stopF s n c ≤ c + n ∧ (∀ d, c ≤ d → d < stopF s n c → isK s d = false) ∧ (stopF s n c < c + n → isK s (stopF s n c) = true)
  | 0, c => ⟨Nat.le_refl _, Nat.le_refl _, fun d h1 h2 => by simp [stopF] at h2; omega, fun h => by simp [stopF] at h⟩
  | n + 1, c => by
    unfold stopF
    by_cases e : isK s c = true
    · rw [if_pos e]
      exact ⟨Nat.le_refl _, by omega, fun d h1 h2 => by omega, fun _ => e⟩
    · rw [if_neg e]
      obtain ⟨a1, a2, a3, a4⟩ := stopF_spec s n (c + 1)
      refine ⟨by omega, by omega, fun d h1 h2 => ?_, fun h => a4 (by omega)⟩
      rcases Nat.lt_or_ge c d with x | x
      · exact a3 d x h2
      · rw [show d = c by omega]; simpa using e
theorem stopK_spec (s : List UInt8) : stopK s ≤ 256 ∧ (∀ d, d < stopK s → isK s d = false) ∧ (stopK s < 256 → isK s (stopK s) = true) := by
  obtain ⟨a1, a2, a3, a4⟩ := stopF_spec s 256 0
  exact ⟨by unfold stopK; omega, fun d h => a3 d (by omega) h, fun h => a4 (by unfold stopK at h; omega)⟩
def codeK (s : List UInt8) : Int × Bool := if stopK s < 256 then ((stopK s : Int), true) else (0, false)
def asg20 : AC := (.seq (.ops [o 4 (.mov (.t 7))]) (.ops [o 5 (.mov (.t 8))]))
def bod20 : AC := (.block 1 (.seq (.ops [o 9 (.mov (.t 5)), o 10 (.ld none (.t 1)), o 11 (.bin .eql (.t 9) (.t 10))]) (.cond (.t 11) (.seq (.ops [o 12 (.mov (.t 4)), u (.st 1 (.t 2) (.t 12)), u (.st 1 (.t 3) (.c (.bool true)))]) .ret) .skip)))
def loop20 (s : List (Nat × AV)) (st : LoopState) (p : Jump) : ALoop := { st := st, pend := p, slots := s, n := 13, ps := [7, 8], assign := asg20, body := bod20, dfr := 3 }
def H20 (nm : List UInt8) (s : List (Nat × AV)) (c : Nat) : AHeap :=
  if c ≤ stopK nm then [.row 0 1 [.str (sb nm)], .row 0 1 [.int .u16 0], .row 0 1 [.bool false], .dfr, .loop (loop20 s .ready .none)] else [.row 0 1 [.str (sb nm)], .row 0 1 [.int .u16 (stopK nm)], .row 0 1 [.bool true], .dfr, .loop (loop20 s .done .ret)]
theorem y20 (nm : List UInt8) (s : List (Nat × AV)) (s1 : alook s 1 = .rp 0 0 0 0) (s2 : alook s 2 = .rp 1 0 0 0) (s3 : alook s 3 = .rp 2 0 0 0) (c : Nat) (hc : c ≤ stopK nm) (ok : (nameK c).2 = true) : AYield PA 4 (cArgs c) (H20 nm s c) (.bool (decide (c < stopK nm))) (H20 nm s (c + 1)) := by
  obtain ⟨p1, p2, p3⟩ := stopK_spec nm
  have hH : H20 nm s c = [.row 0 1 [.str (sb nm)], .row 0 1 [.int .u16 0], .row 0 1 [.bool false], .dfr, .loop (loop20 s .ready .none)] := if_pos hc
  rw [hH]
  have hst : ∀ a b : AHeap, a.length = 5 → (∀ d : Nat, [AObj.row 0 1 [.str (sb nm)], .row 0 1 [.int .u16 0], .row 0 1 [.bool false], .dfr, .loop (loop20 s .ready .none)][d]? = some .dfr → d = 3) := fun a b _ d hd => by
    rcases d with _ | _ | _ | _ | _ | d <;> simp at hd ⊢
  by_cases lt : c < stopK nm
  · have k := p2 c lt
    have ne : ¬ (nameK c).1 = nm := by simpa [isK, ok] using k
    have hH' : H20 nm s (c + 1) = [.row 0 1 [.str (sb nm)], .row 0 1 [.int .u16 0], .row 0 1 [.bool false], .dfr, .loop (loop20 s .ready .none)] := if_pos lt
    rw [hH']
    refine AYield.ofS S19ok hmA (L := loop20 s .ready .none) rfl rfl (by simp [loop20]) (Hstay.refl _) (by kernel_rfl) (by kernel_rfl) (aS_den ?_)
    simp only [loop20, asg20, bod20, putArgs, cArgs]
    simp only [WK, simprocAttr]
    refine ⟨rfl, _, rfl, rfl, aS_den ?_⟩
    simp only [WK, simprocAttr, s1, ne]
    refine ⟨_, rfl, ?_, rfl⟩
    simp [lt]
  · have ec : c = stopK nm := by omega
    have k256 : stopK nm < 256 := by
      rcases Nat.lt_or_ge (stopK nm) 256 with d | d
      · exact d
      · exfalso
        have e : c = 256 := by omega
        rw [e] at ok
        have := single_big (c := (256 : Int)) (by omega)
        simp [nameK, this] at ok
    have k := p3 k256
    rw [← ec] at k
    have eq : (nameK c).1 = nm := by simpa [isK, ok] using k
    have hH' : H20 nm s (c + 1) = [.row 0 1 [.str (sb nm)], .row 0 1 [.int .u16 c], .row 0 1 [.bool true], .dfr, .loop (loop20 s .done .ret)] := by unfold H20; rw [if_neg (by omega), ec]
    rw [hH']
    refine AYield.ofS S19ok hmA (L := loop20 s .ready .none) rfl rfl (by simp [loop20]) ?_ (by kernel_rfl) (by kernel_rfl) (aS_den ?_)
    · intro d hd
      rcases d with _ | _ | _ | _ | _ | d <;> first | rfl | (simp at hd)
    · simp only [loop20, asg20, bod20, putArgs, cArgs]
      simp only [WK, simprocAttr]
      refine ⟨rfl, _, rfl, rfl, aS_den ?_⟩
      simp only [WK, simprocAttr, s1, s2, s3, eq, List.headD_cons]
      refine ⟨_, rfl, ?_, rfl⟩
      simp [lt]
end Go.Av

/- Contracts: Code, Bare; the layer is awake. -/
namespace Go.Av
open Go Go.Proofs
set_option maxRecDepth 100000
set_option maxHeartbeats 2000000
theorem k20 (nm : List UInt8) : ACall PA 20 [.str (sb nm)] [] (.tup [.int .u16 (codeK nm).1, .bool (codeK nm).2]) [] := by
  refine ACall.ofS S19ok hmA h20 (by kernel_rfl) (Nat.le_of_ble_eq_true rfl) ownH_nil (own_solid (by simp [solid_tup, solid_int, solid_bool])) (aS_den ?_)
  simp only [WK, simprocAttr, c20, n20, S19, S17, S16, S15, S14, S13, S11, S10, S9, S8, S7, S6, S5, S4, S3, S2, S1]
  refine ⟨_, _, k14 _, ?_⟩
  try simp only [WK, simprocAttr]
  obtain ⟨s, hs⟩ : ∃ s : List (Nat × AV), s = [(6, .fn (.func 48) [] []), (3, .rp 2 0 0 0), (2, .rp 1 0 0 0), (1, .rp 0 0 0 0), (0, .str (sb nm))] := ⟨_, rfl⟩
  rw [← hs]
  have s1 : alook s 1 = .rp 0 0 0 0 := by rw [hs]; rfl
  have s2 : alook s 2 = .rp 1 0 0 0 := by rw [hs]; rfl
  have s3 : alook s 3 = .rp 2 0 0 0 := by rw [hs]; rfl
  obtain ⟨p1, p2, p3⟩ := stopK_spec nm
  have hc := k48 4 (H20 nm s) (stopK nm) ⟨p1, fun c h1 h2 => ?_, fun c h1 h2 => ?_, fun h => ?_, ?_⟩
  · by_cases lt : stopK nm < 256
    · rw [if_pos lt] at hc
      have hE : H20 nm s (stopK nm + 1) = [.row 0 1 [.str (sb nm)], .row 0 1 [.int .u16 (stopK nm)], .row 0 1 [.bool true], .dfr, .loop (loop20 s .done .ret)] := by unfold H20; rw [if_neg (by omega)]
      refine x_rangeG 3 4 rfl rfl (H20 nm s 0) (by rw [hs]; rfl) ?_ (.tup []) (H20 nm s (stopK nm + 1)) (loop20 s .done .ret) hc ?_ (by simp [loop20]) ?_
      · rw [H20, if_pos (Nat.zero_le _)]; simp [loop20, asg20, bod20]
      · rw [hE]; rfl
      · rw [hE]
        simp only [loop20, hs, codeK, if_pos lt]
        simp only [WK, simprocAttr]
        simp only [WK, simprocAttr, EW, r20, noLoop]
        simp
    · rw [if_neg lt] at hc
      have e256 : stopK nm = 256 := by omega
      have hE : H20 nm s 256 = [.row 0 1 [.str (sb nm)], .row 0 1 [.int .u16 0], .row 0 1 [.bool false], .dfr, .loop (loop20 s .ready .none)] := by unfold H20; rw [if_pos (by omega)]
      refine x_rangeG 3 4 rfl rfl (H20 nm s 0) (by rw [hs]; rfl) ?_ (.tup []) (H20 nm s 256) (loop20 s .ready .none) hc ?_ (by simp [loop20]) ?_
      · rw [H20, if_pos (Nat.zero_le _)]; simp [loop20, asg20, bod20]
      · rw [hE]; rfl
      · rw [hE]
        simp only [loop20, hs, codeK, if_neg lt]
        simp only [WK, simprocAttr, List.headD_cons]
        simp only [WK, simprocAttr, EW, r20, noLoop]
        simp
  · have := y20 nm s s1 s2 s3 c (by omega) h2
    rw [show decide (c < stopK nm) = true by simpa using h1] at this
    exact this
  · unfold H20
    rw [if_pos (by omega), if_pos (by omega)]
  · have k := p3 h
    have ok : (nameK (stopK nm)).2 = true := by
      simp only [isK, Bool.and_eq_true] at k; exact k.1
    refine ⟨ok, ?_⟩
    have := y20 nm s s1 s2 s3 (stopK nm) (Nat.le_refl _) ok
    rw [show decide (stopK nm < stopK nm) = false by simp] at this
    exact this
  · have h0 : H20 nm s 0 = [.row 0 1 [.str (sb nm)], .row 0 1 [.int .u16 0], .row 0 1 [.bool false], .dfr, .loop (loop20 s .ready .none)] := by rw [H20, if_pos (Nat.zero_le _)]
    rw [h0]
    intro d hd
    have e3 : d = 3 := by rcases d with _ | _ | _ | _ | _ | d <;> simp at hd ⊢
    subst e3
    have : ∀ n, (H20 nm s n)[3]? = some .dfr := fun n => by unfold H20; split <;> rfl
    exact this _
def S20 : Spec := fun f args => match f, args with
  | 33, [.agg [.int .u16 c, .int .u8 a, .int .u8 b, .int .u32 k]] => if InOK c a b k then some (.rf 0 4 0 8, [.row 4 1 (byts (encB ⟨c, a, b, k⟩))]) else none
  | 20, [.str s] => some (.tup [.int .u16 (codeK s.data.toList).1, .bool (codeK s.data.toList).2], [])
  | f, args => S19 f args
theorem S20ok : SpecOK PA S20 := by
  refine ⟨fun f args r l h => ?_⟩
  unfold S20 at h
  split at h
  · split at h
    · rename_i hc
      cases h
      exact ⟨k33 ⟨_, _, _, _⟩ hc, by simp [bel_agg, bel_int], own_rf _ _ _ _, ownH_row _ _ _ (byts_solid _)⟩
    · cases h
  · rename_i s
    cases h
    have := k20 s.data.toList
    rw [← sb_data] at this
    exact ⟨this, by simp [bel_str], own_solid (by simp [solid_tup, solid_int, solid_bool]), ownH_nil⟩
  · exact S19ok.ok _ _ _ _ h
theorem sb_back (l : List UInt8) : (sb l).data.toList = l := by simp [sb]
def bareK (x : In) : In :=
  ⟨x.c, if 0 ≤ formK x.c ∧ formK x.c ≠ 5 ∧ formK x.c ≠ 6 then 0 else x.a, if 0 ≤ formK x.c ∧ formK x.c ≠ 5 ∧ formK x.c ≠ 6 then 0 else x.b, if formK x.c = 0 ∨ formK x.c = 6 then 0 else x.k⟩
theorem k22 (x : In) (hx : x.OK) : ACall PA 22 [x.av] [] (bareK x).av [] := by
  refine ACall.ofS S20ok hmA h22 (by kernel_rfl) (Nat.le_of_ble_eq_true rfl) ownH_nil (own_solid (by simp [In.av, inV, solid_agg, solid_int])) (aS_den ?_)
  have hc : U16 x.c := hx.c
  by_cases f0 : 0 ≤ formK x.c
  · by_cases f5 : formK x.c = 5
    · have q5 : (formK x.c != 5) = false := by simp [f5]
      have p0 : (formK x.c == 0) = false := by simp [f5]
      have p6 : (formK x.c == 6) = false := by simp [f5]
      simp only [WK, simprocAttr, c22, n22, S20, S19, S17, S16, S15, S14, S13, S11, S10, S9, S8, S7, S6, S5, S4, S3, S2, S1, In.av, inV, hc, f0, q5, p0, p6, ge_iff_le]
      simp only [WK, simprocAttr, EW, r22]
      simp [bareK, f5, In.av, inV]
    · have q5 : (formK x.c != 5) = true := by simp [f5]
      by_cases f6 : formK x.c = 6
      · have q6 : (formK x.c != 6) = false := by simp [f6]
        have p0 : (formK x.c == 0) = false := by simp [f6]
        have p6 : (formK x.c == 6) = true := by simp [f6]
        simp only [WK, simprocAttr, c22, n22, S20, S19, S17, S16, S15, S14, S13, S11, S10, S9, S8, S7, S6, S5, S4, S3, S2, S1, In.av, inV, hc, f0, q5, q6, p0, p6, ge_iff_le]
        simp only [WK, simprocAttr, EW, r22]
        simp [bareK, f6, In.av, inV]
      · have q6 : (formK x.c != 6) = true := by simp [f6]
        have p6 : (formK x.c == 6) = false := by simp [f6]
        by_cases z : formK x.c = 0
        · have p0 : (formK x.c == 0) = true := by simp [z]
          simp only [WK, simprocAttr, c22, n22, S20, S19, S17, S16, S15, S14, S13, S11, S10, S9, S8, S7, S6, S5, S4, S3, S2, S1, In.av, inV, hc, f0, q5, q6, p0, p6, ge_iff_le]
          simp only [WK, simprocAttr, EW, r22]
          simp [bareK, z, In.av, inV]
        · have p0 : (formK x.c == 0) = false := by simp [z]
          simp only [WK, simprocAttr, c22, n22, S20, S19, S17, S16, S15, S14, S13, S11, S10, S9, S8, S7, S6, S5, S4, S3, S2, S1, In.av, inV, hc, f0, q5, q6, p0, p6, ge_iff_le]
          simp only [WK, simprocAttr, EW, r22]
          simp [bareK, z, f0, f5, f6, In.av, inV]
  · have p0 : (formK x.c == 0) = false := by simp; omega
    have p6 : (formK x.c == 6) = false := by simp; omega
    have z : ¬ formK x.c = 0 := by omega
    have f6 : ¬ formK x.c = 6 := by omega
    simp only [WK, simprocAttr, c22, n22, S20, S19, S17, S16, S15, S14, S13, S11, S10, S9, S8, S7, S6, S5, S4, S3, S2, S1, In.av, inV, hc, f0, p0, p6, ge_iff_le]
    simp only [WK, simprocAttr, EW, r22]
    simp [bareK, z, f0, f6, In.av, inV]
theorem k13 : ACall PA 13 [] [] (.bool true) [] := by
  refine ACall.ofS S20ok hmA h13 (by kernel_rfl) (Nat.le_of_ble_eq_true rfl) ownH_nil (own_solid (by simp [solid_bool])) (aS_den ?_)
  have i1 : InOK 21 1 2 16909060 := by decide
  have e1 : byts (encB ⟨21, 1, 2, 16909060⟩) = [.int .u8 21, .int .u8 0, .int .u8 1, .int .u8 2, .int .u8 4, .int .u8 3, .int .u8 2, .int .u8 1] := by kernel_rfl
  have e2 : nameK 32 = ([108, 100, 46, 97, 98, 115], true) := by kernel_rfl
  have e3 : codeK [120, 111, 114, 46, 120] = (172, true) := by kernel_rfl
  have e4 : formK 148 = -1 := by kernel_rfl
  have u1 : U16 32 := by decide
  have u2 : U16 148 := by decide
  have l8 : ((8 : Nat) : Int) = 8 := rfl
  simp only [WK, simprocAttr, c13, n13, S20, S19, S17, S16, S15, S14, S13, S11, S10, S9, S8, S7, S6, S5, S4, S3, S2, S1, i1, e1, e2, sb_back, e3, e4, u1, u2, l8]
  simp only [WK, simprocAttr, EW, r13]
end Go.Av

/- InsnNames: names and codes lead to one another; what is bare stays so. -/
namespace Go.Av
open Go Go.Proofs
set_option maxRecDepth 100000
set_option maxHeartbeats 2000000
def S21 : Spec := fun f args => match f, args with
  | 13, [] => some (.bool true, [])
  | 22, [.agg [.int .u16 c, .int .u8 a, .int .u8 b, .int .u32 k]] => if InOK c a b k then some ((bareK ⟨c, a, b, k⟩).av, []) else none
  | f, args => S20 f args
theorem S21ok : SpecOK PA S21 := by
  refine ⟨fun f args r l h => ?_⟩
  unfold S21 at h
  split at h
  · cases h
    exact ⟨k13, by simp, own_solid (by simp [solid_bool]), ownH_nil⟩
  · split at h
    · rename_i hc
      cases h
      exact ⟨k22 ⟨_, _, _, _⟩ hc, by simp [bel_agg, bel_int], own_solid (by simp [In.av, inV, solid_agg, solid_int]), ownH_nil⟩
    · cases h
  · exact S20ok.ok _ _ _ _ h
def backChk (n : Nat) : Bool := ((codeK (nameK n).1).2 == (nameK n).2) && (!(nameK n).2 || (codeK (nameK n).1).1 == (n : Int))
theorem backAll : (List.range 256).all backChk = true := by kernel_rfl
theorem emptyAll : stopK [] = 256 := by kernel_rfl
structure BackFacts (c : Int) : Prop where
  ok : (nameK c).2 = decide (0 ≤ formK c)
  is : (codeK (nameK c).1).2 = (nameK c).2
  eq : (nameK c).2 = true → (codeK (nameK c).1).1 = c
theorem backFacts {c : Int} (hc : U16 c) : BackFacts c := by
  have nf := nmFacts hc
  have e1 : (nameK c).2 = decide (0 ≤ formK c) := by
    rw [nf.known, ← nf.name]
    by_cases h : formK c < 0
    · rw [nf.nil.2 h]; simp; omega
    · have : refNameN c ≠ [] := fun e => h (nf.nil.1 e)
      simp [this]; omega
  by_cases h : c < 256
  · obtain ⟨n, rfl⟩ := Int.eq_ofNat_of_zero_le hc.1
    have := backAll
    rw [List.all_eq_true] at this
    have := this n (List.mem_range.2 (by omega))
    simp only [backChk, Bool.and_eq_true, beq_iff_eq, Bool.or_eq_true, Bool.not_eq_true'] at this
    exact ⟨e1, this.1, fun h => by rcases this.2 with d | d; rw [h] at d; cases d; exact d⟩
  · have hs := single_big (c := c) (by omega)
    have h256 : 256 ≤ c := by omega
    have e3 : nameK c = ([], false) := by simp [nameK, h256, hs]
    refine ⟨e1, ?_, ?_⟩
    · rw [e3]; simp [codeK, emptyAll]
    · rw [e3]; simp
theorem bare_bare (x : In) : bareK (bareK x) = bareK x := by
  unfold bareK
  simp only
  congr 1 <;> split <;> rfl
theorem bare_not {x : In} (h : formK x.c < 0) : bareK x = x := by
  unfold bareK
  rw [if_neg (by omega), if_neg (by omega), if_neg (by omega)]
theorem bare_ok {x : In} (h : x.OK) : (bareK x).OK := by
  refine ⟨h.c, ?_, ?_, ?_⟩
  · show U8 (if _ then 0 else x.a); split; exact ⟨by omega, by omega⟩; exact h.a
  · show U8 (if _ then 0 else x.b); split; exact ⟨by omega, by omega⟩; exact h.b
  · show 0 ≤ (if _ then (0 : Int) else x.k) ∧ (if _ then (0 : Int) else x.k) < 4294967296; split; exact ⟨by omega, by omega⟩; exact h.k
theorem k4 (x : In) (hx : x.OK) : ACall PA 4 [x.av] [] (.bool true) [] := by
  refine ACall.ofS S21ok hmA h4 (by kernel_rfl) (Nat.le_of_ble_eq_true rfl) ownH_nil (own_solid (by simp [solid_bool])) (aS_den ?_)
  have hc : U16 x.c := hx.c
  have hK : InOK x.c x.a x.b x.k := hx
  obtain ⟨b1, b2, b3⟩ := backFacts hc
  obtain ⟨y, hy⟩ : ∃ y, y = bareK x := ⟨_, rfl⟩
  have hyo : y.OK := hy ▸ bare_ok hx
  have ex : (⟨x.c, x.a, x.b, x.k⟩ : In) = x := rfl
  have yy : bareK y = y := by rw [hy, bare_bare]
  have yc : y.c = x.c := by rw [hy]; rfl
  have hyK : InOK x.c y.a y.b y.k := yc ▸ hyo
  have ey : (⟨x.c, y.a, y.b, y.k⟩ : In) = y := by rw [← yc]
  have q1 : (x.c == x.c) = true := by simp
  have q2 : (y.a == y.a) = true := by simp
  have q3 : (y.b == y.b) = true := by simp
  have q4 : (y.k == y.k) = true := by simp
  by_cases f0 : 0 ≤ formK x.c
  · have n2 : (nameK x.c).2 = true := by rw [b1]; simpa using f0
    rw [n2] at b2
    have b4 := b3 n2
    simp only [WK, simprocAttr, c4, n4, S21, S20, S19, S17, S16, S15, S14, S13, S11, S10, S9, S8, S7, S6, S5, S4, S3, S2, S1, In.av, inV, hc, hK, n2, sb_back, b2, b4, ex, ← hy, yc, hyK, ey, yy, f0, ge_iff_le, aeqs, aeq1, q1, q2, q3, q4]
    simp only [WK, simprocAttr, EW, r4]
  · have n2 : (nameK x.c).2 = false := by rw [b1]; simpa using f0
    rw [n2] at b2
    have yx : y = x := by rw [hy]; exact bare_not (by omega)
    subst yx
    have q5 : (y.c == y.c) = true := by simp
    have qx : bareK y = y := hy.symm
    simp only [WK, simprocAttr, c4, n4, S21, S20, S19, S17, S16, S15, S14, S13, S11, S10, S9, S8, S7, S6, S5, S4, S3, S2, S1, In.av, inV, hc, hK, n2, sb_back, b2, ex, qx, f0, ge_iff_le, aeqs, aeq1, q5, q2, q3, q4]
    simp only [WK, simprocAttr, EW, r4]
end Go.Av
