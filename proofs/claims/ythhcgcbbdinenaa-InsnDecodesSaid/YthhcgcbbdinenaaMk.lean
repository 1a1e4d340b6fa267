/- CheckEnds: whichever way is gone, it ends. -/
import Derived.Test.YthhcgcbbdinenaaMj
import Derived.Test.YthhcgcbbdinenaaMh
set_option linter.unusedVariables false
set_option linter.unusedSimpArgs false
namespace Go.Av
open Go Go.Proofs
set_option maxRecDepth 100000
set_option maxHeartbeats 2000000
/-! ### The plain law -/
theorem stK_stable (l : List In) (j : Nat) : ∀ j', j ≤ j' → j' ≤ l.length → ∀ k, l.length - j ≤ k → (stK l j').getD k 0 = (stK l j).getD k 0 := by
  intro j' hj hj'
  induction j' with
  | zero => intro k hk; rw [show j = 0 by omega]
  | succ j' ih =>
    intro k hk
    rcases Nat.lt_or_ge j (j' + 1) with c | c
    · rw [← ih (by omega) (by omega) k hk]
      simp only [stK, List.getD]
      rw [List.getElem?_set_ne (by omega)]
    · rw [show j = j' + 1 by omega]
def finK (l : List In) : List Int := stK l l.length
theorem gmax_congr {x : In} {i : Int} {s s' : List Int} (h : ∀ k ∈ nextL x i, s.getD k.toNat 0 = s'.getD k.toNat 0) : gmax x i s = gmax x i s' := by
  unfold gmax
  rw [List.map_congr_left h]
theorem fin_eq {l : List In} (hl : ∀ x ∈ l, x.OK) (h : (checkK l).2 = 0) {i : Nat} (hi : i < l.length) : (finK l).getD i 0 = 1 + gmax l[i] i (finK l) := by
  obtain ⟨j, hj⟩ : ∃ j, j = l.length - 1 - i := ⟨_, rfl⟩
  have e1 : l.length - 1 - j = i := by omega
  have e2 : l.getD i default = l[i] := by simp [hi]
  have := stK_stable l (j + 1) l.length (by omega) (Nat.le_refl _) i (by omega)
  unfold finK
  rw [this, stK, e1, e2, List.getD, List.getElem?_set_self (by rw [stK_len]; exact hi)]
  simp only [Option.getD_some]
  congr 1
  refine gmax_congr fun k hk => ?_
  obtain ⟨k1, k2⟩ := ok_next hl h hi k hk
  rw [stK_stable l j l.length (by omega) (Nat.le_refl _) k.toNat (by omega)]
theorem fold_mem_le {vs : List Int} : ∀ {a v : Int}, v ∈ vs → v ≤ vs.foldl mx2 a := by
  induction vs with
  | nil => intro a v h; simp at h
  | cons w vs ih =>
    intro a v h
    simp only [List.foldl_cons]
    rcases List.mem_cons.1 h with rfl | h
    · exact Int.le_trans (mx2_ge a v).2 fold_ge
    · exact ih h
theorem fin_step {l : List In} (hl : ∀ x ∈ l, x.OK) (h : (checkK l).2 = 0) {i : Nat} (hi : i < l.length) {k : Int} (hk : k ∈ nextL l[i] i) : (finK l).getD k.toNat 0 + 1 ≤ (finK l).getD i 0 := by
  rw [fin_eq hl h hi]
  have : (finK l).getD k.toNat 0 ≤ gmax l[i] i (finK l) := fold_mem_le (List.mem_map.2 ⟨k, hk, rfl⟩)
  omega
theorem fin_one {l : List In} (hl : ∀ x ∈ l, x.OK) (h : (checkK l).2 = 0) {i : Nat} (hi : i < l.length) : 1 ≤ (finK l).getD i 0 := by
  rw [fin_eq hl h hi]
  have : (0 : Int) ≤ gmax l[i] i (finK l) := fold_ge
  omega
theorem rK_mono (l : List In) {x : Int} {i : Nat} : ∀ j, i ≤ j → x ∈ (rK l i).1 → x ∈ (rK l j).1
  | 0, h, hx => by rw [show i = 0 by omega] at hx; exact hx
  | j + 1, h, hx => by
    rcases Nat.lt_or_ge i (j + 1) with c | c
    · have := rK_mono l j (by omega) hx
      rw [rK]
      split
      · exact fold_mset_mem.2 (.inl this)
      · exact this
    · rw [show j + 1 = i by omega]; exact hx
theorem rK_mem (l : List In) {x : Int} : ∀ i, x ∈ (rK l i).2 ↔ ∃ j : Nat, j < i ∧ x = j ∧ (j : Int) ∈ (rK l j).1
  | 0 => by simp [rK]
  | i + 1 => by
    have ih := rK_mem l (x := x) i
    rw [rK]
    split
    · rename_i hc
      rw [List.mem_append, ih]
      constructor
      · rintro (⟨j, h1, h2, h3⟩ | h)
        · exact ⟨j, by omega, h2, h3⟩
        · simp at h; exact ⟨i, by omega, h, hc⟩
      · rintro ⟨j, h1, h2, h3⟩
        rcases Nat.lt_or_ge j i with c | c
        · exact .inl ⟨j, c, h2, h3⟩
        · right; rw [show j = i by omega] at h2; simp [h2]
    · rename_i hc
      rw [ih]
      constructor
      · rintro ⟨j, h1, h2, h3⟩; exact ⟨j, by omega, h2, h3⟩
      · rintro ⟨j, h1, h2, h3⟩
        rcases Nat.lt_or_ge j i with c | c
        · exact ⟨j, c, h2, h3⟩
        · rw [show j = i by omega] at h3; exact absurd h3 hc
theorem reach_mem {l : List In} {i : Nat} : (i : Int) ∈ reachK l ↔ i < l.length ∧ (i : Int) ∈ (rK l i).1 := by
  unfold reachK
  rw [rK_mem]
  constructor
  · rintro ⟨j, h1, h2, h3⟩
    have : j = i := by omega
    subst this; exact ⟨h1, h3⟩
  · rintro ⟨h1, h2⟩; exact ⟨i, h1, rfl, h2⟩
theorem reach_step {l : List In} (hl : ∀ x ∈ l, x.OK) (h : (checkK l).2 = 0) {i : Nat} (hi : i < l.length) (hr : (i : Int) ∈ reachK l) {k : Int} (hk : k ∈ nextL l[i] i) : k ∈ reachK l := by
  obtain ⟨k1, k2⟩ := ok_next hl h hi k hk
  obtain ⟨m, rfl⟩ := Int.eq_ofNat_of_zero_le (by omega : 0 ≤ k)
  rw [reach_mem] at hr ⊢
  refine ⟨by omega, rK_mono l (i := i + 1) m (by omega) ?_⟩
  rw [rK, if_pos hr.2, show l.getD i default = l[i] by simp [hi]]
  exact fold_mset_mem.2 (.inr hk)
theorem rK_le (l : List In) {i : Nat} : ∀ j, i ≤ j → (rK l i).2.length ≤ (rK l j).2.length
  | 0, h => by rw [show i = 0 by omega]; exact Nat.le_refl _
  | j + 1, h => by
    rcases Nat.lt_or_ge i (j + 1) with c | c
    · have := rK_le l j (i := i) (by omega)
      rw [rK]
      split
      · simp; omega
      · exact this
    · rw [show j + 1 = i by omega]; exact Nat.le_refl _
theorem fin_reach {l : List In} (hl : ∀ x ∈ l, x.OK) (h : (checkK l).2 = 0) : ∀ (d i : Nat), l.length - i = d → (i : Int) ∈ reachK l → (finK l).getD i 0 + (rK l i).2.length ≤ (reachK l).length := by
  intro d
  induction d using Nat.strongRecOn with
  | _ d ih =>
    intro i hd hr
    obtain ⟨hi, hm⟩ := reach_mem.1 hr
    have hs : (rK l (i + 1)).2.length = (rK l i).2.length + 1 := by rw [rK, if_pos hm]; simp
    have hle := rK_le l (i := i + 1) l.length (by omega)
    rw [fin_eq hl h hi]
    have : gmax l[i] i (finK l) ≤ (reachK l).length - (rK l (i + 1)).2.length := by
      refine fold_le (by unfold reachK; omega) fun v hv => ?_
      obtain ⟨k, hk, rfl⟩ := List.mem_map.1 hv
      obtain ⟨k1, k2⟩ := ok_next hl h hi k hk
      have hkr := reach_step hl h hi hr hk
      obtain ⟨m, rfl⟩ := Int.eq_ofNat_of_zero_le (by omega : 0 ≤ k)
      have := ih (l.length - m) (by omega) m rfl hkr
      have h2 := rK_le l (i := i + 1) m (by omega)
      simp only [Int.toNat_natCast] at this ⊢
      omega
    omega
theorem reach_zero {l : List In} (h : 1 ≤ l.length) : (0 : Int) ∈ reachK l := by
  have : ((0 : Nat) : Int) ∈ reachK l := reach_mem.2 ⟨by omega, by simp [rK]⟩
  simpa using this
theorem reach_head {l : List In} (h : 1 ≤ l.length) : (reachK l)[0]? = some 0 := by
  have key : ∀ i, (rK l (i + 1)).2[0]? = some 0 := by
    intro i
    induction i with
    | zero => simp [rK]
    | succ i ih =>
      rw [rK]
      split
      · rw [List.getElem?_append_left (by have := rK_one l i; omega)]; exact ih
      · exact ih
  obtain ⟨m, hm⟩ : ∃ m, l.length = m + 1 := ⟨l.length - 1, by omega⟩
  unfold reachK
  rw [hm]; exact key m
theorem most_fin (l : List In) : mostK l = (finK l).getD 0 0 := rfl
theorem most_reach {l : List In} (hl : ∀ x ∈ l, x.OK) (h : (checkK l).2 = 0) : 1 ≤ mostK l ∧ mostK l ≤ (reachK l).length ∧ (reachK l).length ≤ l.length := by
  obtain ⟨h1, _⟩ := check_ok h
  rw [most_fin]
  refine ⟨fin_one hl h (by omega), ?_, rK_len l l.length⟩
  have := fin_reach hl h _ 0 rfl (by simpa using reach_zero h1)
  omega
theorem next_nil_ret {l : List In} (hl : ∀ x ∈ l, x.OK) (h : (checkK l).2 = 0) {i : Nat} (hi : i < l.length) (hn : nextL l[i] i = []) : rets l[i] = true := by
  obtain ⟨h1, h2, h3, h4, h5⟩ := check_ok h
  rw [fb_none] at h3
  have ho := h3 i l[i] (List.getElem?_eq_getElem hi)
  rw [Nat.zero_add] at ho
  cases hr : rets l[i] with
  | true => rfl
  | false =>
    exfalso
    have hc : ¬ formK l[i].c < 0 := by
      intro c; unfold oneK at ho; rw [if_pos c] at ho; exact absurd ho (by decide)
    have hk := (hl _ (List.getElem_mem hi)).k
    rw [next_of (by omega) (by omega) (by simp [hc, hr])] at hn
    split at hn
    · rename_i f4
      split at hn
      · simp at hn
      · rename_i h255
        unfold oneK at ho
        rw [if_neg hc] at ho
        by_cases e1 : l[i].c = 32 ∧ (l[i].k % 4 ≠ 0 ∨ 64 ≤ l[i].k)
        · rw [if_pos e1] at ho; exact absurd ho (by decide)
        rw [if_neg e1] at ho
        by_cases e2 : l[i].c = 52 ∧ l[i].k = 0
        · rw [if_pos e2] at ho; exact absurd ho (by decide)
        rw [if_neg e2] at ho
        by_cases e3 : (l[i].c = 100 ∨ l[i].c = 116) ∧ 32 ≤ l[i].k
        · rw [if_pos e3] at ho; exact absurd ho (by decide)
        rw [if_neg e3] at ho
        by_cases e4 : formK l[i].c = 3 ∧ 16 ≤ l[i].k
        · rw [if_pos e4] at ho; exact absurd ho (by decide)
        rw [if_neg e4] at ho
        by_cases d5 : formK l[i].c = 4 ∧ behindN i l.length ≤ l[i].k
        · rw [if_pos d5] at ho; exact absurd ho (by decide)
        have : behindN i l.length ≤ 255 := by unfold behindN; split <;> omega
        exact d5 ⟨f4, by omega⟩
    · split at hn
      · split at hn <;> simp at hn
      · simp at hn
end Go.Av

/- CheckEnds: the walk. -/
namespace Go.Av
open Go Go.Proofs
set_option maxRecDepth 100000
set_option maxHeartbeats 2000000
def idxK (l : List Int) (v : Int) : Int := if v ∈ l then (l.idxOf v : Int) else -1
def i71 (t : Bool) (l : List Int) (v : Int) (m : Nat) (τ : AFr) (h : AHeap) : Prop :=
  ∃ i : Nat, i ≤ l.length ∧ m = l.length - i ∧ v ∉ l.take i ∧ τ = { n := 19, s := [(0, .sl t (ints l)), (1, .int .i64 v), (6, .sl t (ints l)), (7, .int .i64 l.length), (8, .int .i64 i)], dfr := [] }
theorem idx_at {l : List Int} {v : Int} {i : Nat} (hi : i < l.length) (hn : v ∉ l.take i) (e : v = l[i]) : idxK l v = i := by
  have hm : v ∈ l := e ▸ List.getElem_mem hi
  unfold idxK
  rw [if_pos hm]
  have h1 : l = l.take i ++ (v :: l.drop (i + 1)) := by
    rw [e, ← List.drop_eq_getElem_cons hi, List.take_append_drop]
  have : l.idxOf v = (l.take i).length := by
    have h2 := congrArg (List.idxOf v) h1
    rw [List.idxOf_append, if_neg hn] at h2
    rw [h2]
    simp
  rw [this, List.length_take]; omega
theorem k71 (t : Bool) (l : List Int) (v : Int) (hb : l.length ≤ 1000000000) : ACall PA 71 [.sl t (ints l), .int .i64 v] [] (.int .i64 (idxK l v)) [] := by
  refine ACall.ofS S13ok hmA h71 (by kernel_rfl) (Nat.le_of_ble_eq_true rfl) ownH_nil (own_solid (by simp [solid_int])) (aS_den ?_)
  simp only [WK, simprocAttr, c71, n71, ints_len]
  refine x_loop (i71 t l v) ⟨l.length, _, ⟨0, by omega, by omega, by simp, rfl⟩, ⟨rfl, rfl, by simp [alook]⟩⟩ ?_
  rintro m τ h ⟨i, hi, rfl, hn, rfl⟩
  have i0 : (0 : Int) ≤ (i : Int) := by omega
  by_cases b1 : (i : Int) < (l.length : Int)
  · have hil : i < l.length := by omega
    have g := ints_get hil
    by_cases e : v = l[i]
    · have q : (v == l[i]) = true := by simp [e]
      simp only [WK, simprocAttr, b1, i0, g, q]
      simp only [WK, simprocAttr, EW, r71]
      rw [idx_at hil hn e]
    · have q : (v == l[i]) = false := by simp [e]
      have w : IntKind.i64.wrap ((i : Int) + 1) = ((i + 1 : Nat) : Int) := by rw [wrI64 (by omega) (by omega)]; omega
      simp only [WK, simprocAttr, b1, i0, g, q]
      refine ⟨l.length - (i + 1), _, by omega, ⟨i + 1, by omega, rfl, ?_, rfl⟩, ⟨rfl, rfl, by simp [alook, w]⟩⟩
      rw [List.take_add_one, List.getElem?_eq_getElem hil, List.mem_append]
      rintro (c | c)
      · exact hn c
      · simp at c; exact e c
  · have ei : i = l.length := by omega
    subst ei
    rw [List.take_length] at hn
    have e : idxK l v = -1 := by unfold idxK; rw [if_neg hn]
    simp only [WK, simprocAttr, b1]
    simp only [WK, simprocAttr, EW, r71, e]
def S14 : Spec := fun f args => match f, args with
  | 71, [.sl _ xs, .int .i64 v] => match decInts xs with
    | some l => if l.length ≤ 1000000000 then some (.int .i64 (idxK l v), []) else none
    | none => none
  | f, args => S13 f args
theorem S14ok : SpecOK PA S14 := by
  refine ⟨fun f args r l h => ?_⟩
  unfold S14 at h
  split at h
  · split at h
    · rename_i hd
      obtain rfl := decInts_inv hd
      split at h
      · rename_i hc
        cases h
        exact ⟨k71 _ _ _ hc, by intro x hx; simp only [List.mem_cons, List.not_mem_nil, or_false] at hx; rcases hx with rfl | rfl; exact ints_bel _ _ _; exact .int _ _, own_solid (by simp [solid_int]), ownH_nil⟩
      · cases h
    · cases h
  · exact S13ok.ok _ _ _ _ h
theorem idx_ge (l : List Int) (v : Int) : decide (0 ≤ idxK l v) = decide (v ∈ l) := by
  unfold idxK
  split
  · rename_i h; simp [h]
  · rename_i h; simp [h]
theorem k46 (t : Bool) (l : List Int) (v : Int) (hb : l.length ≤ 1000000000) : ACall PA 46 [.sl t (ints l), .int .i64 v] [] (.bool (decide (v ∈ l))) [] := by
  refine ACall.ofS S14ok hmA h46 (by kernel_rfl) (Nat.le_of_ble_eq_true rfl) ownH_nil (own_solid (by simp [solid_bool])) (aS_den ?_)
  simp only [WK, simprocAttr, c46, n46, S14, decInts_ints, hb, ge_iff_le, idx_ge]
  simp only [WK, simprocAttr, EW, r46]
def S15 : Spec := fun f args => match f, args with
  | 46, [.sl _ xs, .int .i64 v] => match decInts xs with
    | some l => if l.length ≤ 1000000000 then some (.bool (decide (v ∈ l)), []) else none
    | none => none
  | f, args => S14 f args
theorem S15ok : SpecOK PA S15 := by
  refine ⟨fun f args r l h => ?_⟩
  unfold S15 at h
  split at h
  · split at h
    · rename_i hd
      obtain rfl := decInts_inv hd
      split at h
      · rename_i hc
        cases h
        exact ⟨k46 _ _ _ hc, by intro x hx; simp only [List.mem_cons, List.not_mem_nil, or_false] at hx; rcases hx with rfl | rfl; exact ints_bel _ _ _; exact .int _ _, own_solid (by simp [solid_bool]), ownH_nil⟩
      · cases h
    · cases h
  · exact S14ok.ok _ _ _ _ h
def bls (l : List Bool) : List AV := l.map AV.bool
theorem bls_len (l : List Bool) : (bls l).length = l.length := by simp [bls]
theorem bls_get {l : List Bool} {i : Nat} (h : i < l.length) : (bls l)[i]? = some (.bool l[i]) := by simp [bls, h]
/-- The loop: at a place that is reached, with steps enough. -/
def i11 (u : Bool) (L : List In) (turns : List Bool) (m : Nat) (τ : AFr) (h : AHeap) : Prop :=
  ∃ (i at' : Nat) (g : AHeap), i ≤ L.length ∧ m = L.length - i ∧ (at' : Int) ∈ reachK L ∧ (i : Int) + (finK L).getD at' 0 ≤ mostK L ∧
    h = .row 0 4 (avs L) :: .row ((reachK L).length - 1) 1 (ints (reachK L)) :: g ∧
    τ = { n := 134, s := [(66, .int .i64 L.length), (67, .int .i64 i), (0, .rf 0 0 0 L.length), (1, .sl u (bls turns)), (7, .rf 1 ((reachK L).length - 1) 0 (reachK L).length), (9, .int .i64 (mostK L)), (11, .int .i64 at')], dfr := [] }
theorem k11 (t : Bool) (l : List In) (hok : ∀ x ∈ l, x.OK) (u : Bool) (turns : List Bool) : ACall PA 11 [.sl t (avs l), .sl u (bls turns)] [] (.bool true) [] := by
  refine ACall.ofS S15ok hmA h11 (by kernel_rfl) (Nat.le_of_ble_eq_true rfl) ownH_nil (own_solid (by simp [solid_bool])) (aS_den ?_)
  have hd := decIns_avs hok
  obtain ⟨L, hL⟩ : ∃ L, L = l.take 65 := ⟨_, rfl⟩
  have hLok : ∀ y ∈ L, y.OK := fun y hy => hok y (List.mem_of_mem_take (hL ▸ hy))
  have hdL := decIns_avs hLok
  by_cases e : L = []
  · have ea : avs ([] : List In) = [] := rfl
    have c2 : checkK [] = (0, 140) := by kernel_rfl
    have hd0 : decIns [] = some [] := rfl
    subst e
    simp only [WK, simprocAttr, S15, S14, S13, S11, S10, S9, S8, S7, S6, S5, S4, S3, S2, S1, c11, n11, hd, ← hL, ownRow, ea, c2, hd0]
    simp only [WK, simprocAttr, EW, r11]
  · have e' : ¬ avs L = [] := by rw [avs_nil]; exact e
    have el : (avs L).take L.length = avs L := by rw [avs_take, List.take_length]
    by_cases c0 : (checkK L).2 = 0
    · obtain ⟨h1, h2, h3, h4, h5⟩ := check_ok c0
      have rn := reach_ne h1
      have rv : reachV L = (.tup [.rf 0 ((reachK L).length - 1) 0 (reachK L).length, .int .i64 0], [.row ((reachK L).length - 1) 1 (ints (reachK L))]) := by simp [reachV, c0, ownV, rn]
      have it : (ints (reachK L)).take (reachK L).length = ints (reachK L) := List.take_of_length_le (by rw [ints_len]; omega)
      obtain ⟨m1, m2, m3⟩ := most_reach hLok c0
      have q1 : ¬ mostK L < 1 := by omega
      have q2 : ¬ ((reachK L).length : Int) < mostK L := by omega
      have q3 : ¬ (L.length : Int) < ((reachK L).length : Int) := by omega
      have q4 : 0 < (reachK L).length := by omega
      have q5 : (ints (reachK L))[0]? = some (.int .i64 0) := by
        have := reach_head (l := L) (by omega)
        simp [ints, this]
      simp only [WK, simprocAttr, S15, S14, S13, S11, S10, S9, S8, S7, S6, S5, S4, S3, S2, S1, c11, n11, hd, ← hL, ownRow, e', hdL, el, avs_len, h5, rv, q1, q2, q3, q4, q5, gt_iff_lt]
      refine x_loop (i11 u L turns) ⟨L.length, _, ⟨0, 0, [], by omega, by omega, by simpa using reach_zero h1, by rw [most_fin]; omega, rfl, rfl⟩, ⟨rfl, rfl, by simp [alook]⟩⟩ ?_
      rintro m τ h ⟨i, at', g, hi, rfl, hr, hst, rfl, rfl⟩
      have i0 : (0 : Int) ≤ (i : Int) := by omega
      obtain ⟨hal, _⟩ := reach_mem.1 hr
      have f1 := fin_one hLok c0 hal
      have b1 : (i : Int) < (L.length : Int) := by omega
      have a0 : (0 : Int) ≤ (at' : Int) := by omega
      have gx := avs_getq hal
      have hxo := hLok _ (List.getElem_mem hal)
      have hret := next_nil_ret hLok c0 hal
      have hnx := fun k hk => ok_next hLok c0 hal k hk
      have hrs := fun k (hk : k ∈ nextL L[at'] at') => reach_step hLok c0 hal hr hk
      have hfs := fun k (hk : k ∈ nextL L[at'] at') => fin_step hLok c0 hal hk
      obtain ⟨x, hx⟩ : ∃ x, x = L[at'] := ⟨_, rfl⟩
      rw [← hx] at gx hxo hret hnx hrs hfs
      have hxK : InOK x.c x.a x.b x.k := hxo
      have ib1 : -1000 ≤ (at' : Int) := by omega
      have ib2 : (at' : Int) ≤ 1000 := by omega
      have ex : (⟨x.c, x.a, x.b, x.k⟩ : In) = x := rfl
      have nl2 := nextL_len x at'
      obtain ⟨ns, hns⟩ : ∃ ns, ns = nextL x at' := ⟨_, rfl⟩
      rw [← hns] at hret hnx hrs hfs nl2
      by_cases en : ns = []
      · have ov : ownV ns = (.sl true [], []) := by simp [ownV, en]
        have im : (i : Int) < mostK L := by omega
        have rt := hret en
        have rt' : x.c = 6 ∨ x.c = 22 := by simpa [rets] using rt
        by_cases c6 : x.c = 6
        · have q6 : (x.c == 6) = true := by simp [c6]
          simp only [WK, simprocAttr, S15, S14, S13, S11, S10, S9, S8, S7, S6, S5, S4, S3, S2, S1, b1, a0, hal, gx, In.av, inV, hxK, ib1, ib2, and_self, ex, ← hns, ov, im, q6]
          simp only [WK, simprocAttr, EW, r11]
        · have q6 : (x.c == 6) = false := by simp [c6]
          have q22 : (x.c == 22) = true := by simp; omega
          simp only [WK, simprocAttr, S15, S14, S13, S11, S10, S9, S8, S7, S6, S5, S4, S3, S2, S1, b1, a0, hal, gx, In.av, inV, hxK, ib1, ib2, and_self, ex, ← hns, ov, im, q6, q22]
          simp only [WK, simprocAttr, EW, r11]
      · have nl1 : 1 ≤ ns.length := by
          rcases Nat.eq_zero_or_pos ns.length with c | c
          · exact absurd (List.length_eq_zero_iff.1 c) en
          · exact c
        have ov : ownV ns = (.rf 0 (ns.length - 1) 0 ns.length, [.row (ns.length - 1) 1 (ints ns)]) := by simp [ownV, en]
        have z0 : ((ns.length : Int) == 0) = false := by simp; omega
        have z1 : 0 < ns.length := by omega
        have z2 := ints_get (l := ns) (i := 0) (by omega)
        have w : IntKind.i64.wrap ((i : Int) + 1) = ((i + 1 : Nat) : Int) := by rw [wrI64 (by omega) (by omega)]; omega
        have w1 : IntKind.i64.wrap ((ns.length : Int) - 1) = (ns.length : Int) - 1 := wrI64 (by omega) (by omega)
        have rl : (reachK L).length ≤ 1000000000 := by omega
        have z3 : (0 : Int) ≤ (ns.length : Int) - 1 := by omega
        have z4 : ((ns.length : Int) - 1).toNat = ns.length - 1 := by omega
        have z5 : ns.length - 1 < ns.length := by omega
        have z6 := ints_get (l := ns) (i := ns.length - 1) (by omega)
        have fin : ∀ k : Int, k ∈ ns → ¬ k ≤ (at' : Int) ∧ ¬ (L.length : Int) ≤ k ∧ k ∈ reachK L ∧ ∃ j : Nat, k = j ∧ ((i + 1 : Nat) : Int) + (finK L).getD j 0 ≤ mostK L := fun k hk => by
          obtain ⟨k1, k2⟩ := hnx k hk
          have := hfs k hk
          obtain ⟨j, rfl⟩ := Int.eq_ofNat_of_zero_le (by omega : 0 ≤ k)
          refine ⟨by omega, by omega, hrs _ hk, j, rfl, ?_⟩
          simp only [Int.toNat_natCast] at this
          omega
        have done : ∀ (k : Int), k ∈ ns → ∀ τ : AFr, τ.n = 134 → τ.dfr = [] → alook τ.s 66 = .int .i64 L.length → alook τ.s 67 = .int .i64 (i + 1 : Nat) → alook τ.s 0 = .rf 0 0 0 L.length → alook τ.s 1 = .sl u (bls turns) → alook τ.s 7 = .rf 1 ((reachK L).length - 1) 0 (reachK L).length → alook τ.s 9 = .int .i64 (mostK L) → alook τ.s 11 = .int .i64 k →
            ∀ g' : AHeap, Again (i11 u L turns) (L.length - i) τ (.row 0 4 (avs L) :: .row ((reachK L).length - 1) 1 (ints (reachK L)) :: g') := fun k hk τ t1 t2 t3 t4 t5 t6 t7 t8 t9 g' => by
          obtain ⟨p1, p2, p3, j, rfl, p4⟩ := fin k hk
          refine ⟨L.length - (i + 1), _, by omega, ⟨i + 1, j, g', by omega, rfl, p3, p4, rfl, rfl⟩, ⟨t1.symm, t2.symm, ?_⟩⟩
          simp [t3, t4, t5, t6, t7, t8, t9]
        by_cases tu : ∃ h : i < turns.length, turns[i] = true
        · obtain ⟨ht, htt⟩ := tu
          have b2 : (i : Int) < (turns.length : Int) := by omega
          have gt := bls_get ht
          obtain ⟨p1, p2, p3, _⟩ := fin ns[ns.length - 1] (List.getElem_mem z5)
          simp only [WK, simprocAttr, S15, S14, S13, S11, S10, S9, S8, S7, S6, S5, S4, S3, S2, S1, b1, a0, hal, gx, In.av, inV, hxK, ib1, ib2, and_self, ex, ← hns, ov, z0, z1, z2, bls_len, b2, i0, gt, htt, w1, z3, z4, z5, z6, ge_iff_le, p1, p2, it, decInts_ints, rl, p3]
          exact done _ (List.getElem_mem z5) _ rfl rfl rfl (by simp [alook, w]) rfl rfl rfl rfl rfl _
        · obtain ⟨p1, p2, p3, _⟩ := fin ns[0] (List.getElem_mem z1)
          by_cases ht : i < turns.length
          · have htt : turns[i] = false := by
              cases c : turns[i] with
              | true => exact absurd ⟨ht, c⟩ tu
              | false => rfl
            have b2 : (i : Int) < (turns.length : Int) := by omega
            have gt := bls_get ht
            simp only [WK, simprocAttr, S15, S14, S13, S11, S10, S9, S8, S7, S6, S5, S4, S3, S2, S1, b1, a0, hal, gx, In.av, inV, hxK, ib1, ib2, and_self, ex, ← hns, ov, z0, z1, z2, bls_len, b2, i0, gt, htt, ge_iff_le, p1, p2, it, decInts_ints, rl, p3]
            exact done _ (List.getElem_mem z1) _ rfl rfl rfl (by simp [alook, w]) rfl rfl rfl rfl rfl _
          · have b2 : ¬ (i : Int) < (turns.length : Int) := by omega
            simp only [WK, simprocAttr, S15, S14, S13, S11, S10, S9, S8, S7, S6, S5, S4, S3, S2, S1, b1, a0, hal, gx, In.av, inV, hxK, ib1, ib2, and_self, ex, ← hns, ov, z0, z1, z2, bls_len, b2, ge_iff_le, p1, p2, it, decInts_ints, rl, p3]
            exact done _ (List.getElem_mem z1) _ rfl rfl rfl (by simp [alook, w]) rfl rfl rfl rfl rfl _
    · have c1 : ((checkK L).2 != 0) = true := by simp [c0]
      simp only [WK, simprocAttr, S15, S14, S13, S11, S10, S9, S8, S7, S6, S5, S4, S3, S2, S1, c11, n11, hd, ← hL, ownRow, e', hdL, el, avs_len, c1]
      simp only [WK, simprocAttr, EW, r11]
end Go.Av

/- More arguments opened. -/
set_option maxRecDepth 100000
namespace Go.Av
open Go Go.Proofs
section
variable {H : Type} {enc : TypeId × Value → H} {ρ : Nat → Nat} {w : World} {sp : Nat → Bool} {held : Bool}
theorem u74 : PA.underlying 74 = some (.slice 4) := by kernel_rfl
theorem u4 : PA.underlying 4 = some .bool := by kernel_rfl
theorem ce4 : PA.cellsOf 4 = 1 := by kernel_rfl
theorem open_bools {fuel : Nat} {cs : List Value} {x : DataW H × List MemPlace} (h : DataW.trod enc PA w 0 sp held fuel 74 cs = some x) : ∃ (v : Value) (l : List Bool), cs = [v] ∧ VR ρ [] w (.sl false (bls l)) v ∧ ∀ b ∈ l, True :=
  open_list (f := AV.bool) (p := fun _ => True) u74 ce4 (by omega) (fun u => rfl) (fun fuel cs x h => by
    obtain ⟨b, rfl⟩ := open_bl u4 h
    exact ⟨b, VRs.one (.bool b), trivial⟩) h
end
end Go.Av
