/- Contracts: a program checked. -/
import Derived.Test.YthhcgcbbdinenaaMc
set_option linter.unusedVariables false
set_option linter.unusedSimpArgs false
namespace Go.Av
open Go Go.Proofs
set_option maxRecDepth 100000
set_option maxHeartbeats 2000000
def S7 : Spec := fun f args => match f, args with
  | 28, [.agg [.int .u16 c, .int .u8 a, .int .u8 b, .int .u32 k], .int .i64 i, .int .i64 n] => if InOK c a b k ∧ Sm i ∧ Sm n then some ((.int .i64 (oneK c a b k i n)), []) else none
  | 53, [.agg [.int .u16 c, .int .u8 a, .int .u8 b, .int .u32 k], .int .i64 i, .int .i64 n] => if InOK c a b k ∧ Sm i ∧ Sm n ∧ i < n then some ((.int .i64 (oneK c a b k i n)), []) else none
  | f, args => S6 f args
theorem S7ok : SpecOK PA S7 := by
  refine ⟨fun f args r l h => ?_⟩
  unfold S7 at h
  split at h
  · split at h
    · rename_i hc; cases h; exact ⟨k28 _ _ _ _ _ _ hc.1 hc.2.1 hc.2.2, by simp [bel_int, bel_agg, bel_sl, bel_str], own_solid (by simp [solid_int, solid_bool, solid_str, solid_agg, solid_tup, solid_nilsl]), ownH_nil⟩
    · cases h
  · split at h
    · rename_i hc; cases h; exact ⟨k53 _ _ _ _ _ _ hc.1 hc.2.1 hc.2.2.1 hc.2.2.2, by simp [bel_int, bel_agg, bel_sl, bel_str], own_solid (by simp [solid_int, solid_bool, solid_str, solid_agg, solid_tup, solid_nilsl]), ownH_nil⟩
    · cases h
  · exact S6ok.ok _ _ _ _ h
structure In where
  c : Int
  a : Int
  b : Int
  k : Int
  deriving DecidableEq, Inhabited
def In.av (x : In) : AV := inV x.c x.a x.b x.k
def In.OK (x : In) : Prop := InOK x.c x.a x.b x.k
instance (x : In) : Decidable x.OK := by unfold In.OK; infer_instance
def avs (l : List In) : List AV := l.map In.av
def fb (n : Int) : Nat → List In → Option (Int × Int)
  | _, [] => none
  | i, x :: r => if oneK x.c x.a x.b x.k i n = 0 then fb n (i + 1) r else some ((i : Int), oneK x.c x.a x.b x.k i n)
def rets (x : In) : Bool := decide (x.c = 6 ∨ x.c = 22)
def checkK (l : List In) : Int × Int :=
  if l.length < 1 ∨ 64 < l.length then (0, 140) else
  match fb l.length 0 l with
  | some p => p
  | none => if rets (l.getD (l.length - 1) default) = true then (0, 0) else ((l.length : Int) - 1, 147)
theorem avs_len (l : List In) : (avs l).length = l.length := by simp [avs]
theorem avs_get {l : List In} {i : Nat} (h : i < l.length) : (avs l)[i]? = some (inV l[i].c l[i].a l[i].b l[i].k) := by
  simp [avs, In.av, h]
theorem fb_drop {n : Int} {l : List In} {i : Nat} (h : i < l.length) : fb n i (l.drop i) = if oneK l[i].c l[i].a l[i].b l[i].k i n = 0 then fb n (i + 1) (l.drop (i + 1)) else some ((i : Int), oneK l[i].c l[i].a l[i].b l[i].k i n) := by
  rw [List.drop_eq_getElem_cons h, fb]
theorem avs_bel (n : Nat) (t : Bool) (l : List In) : Bel n (.sl t (avs l)) := by
  rw [bel_sl]
  intro x hx u hu
  obtain ⟨y, _, rfl⟩ := List.mem_map.1 hx
  simp only [In.av, inV, AV.cells, List.mem_cons, List.not_mem_nil, or_false] at hu
  rcases hu with rfl | rfl | rfl | rfl <;> exact .int _ _
def chkI (t : Bool) (l : List In) (m : Nat) (τ : AFr) (h : AHeap) : Prop :=
  ∃ i : Nat, i ≤ l.length ∧ m = l.length - i ∧ fb l.length 0 l = fb l.length i (l.drop i) ∧
    τ = { n := 41, s := [(0, .sl t (avs l)), (4, .int .i64 l.length), (16, .sl t (avs l)), (17, .int .i64 l.length), (18, .int .i64 i)], dfr := [] }
theorem k25 (t : Bool) (l : List In) (hl : ∀ x ∈ l, x.OK) : ACall PA 25 [.sl t (avs l)] [] (.tup [.int .i64 (checkK l).1, .int .i64 (checkK l).2]) [] := by
  refine ACall.ofS S7ok hmA h25 (by kernel_rfl) (Nat.le_of_ble_eq_true rfl) ownH_nil (own_solid (by simp [solid_int, solid_bool, solid_str, solid_agg, solid_tup, solid_nilsl, solid_nilp])) (aS_den ?_)
  by_cases a1 : (l.length : Int) < 1
  · have a1' : l.length < 1 := by omega
    simp only [WK, simprocAttr, c25, n25, S7, S6, S5, ge_iff_le, gt_iff_lt, inV, avs_len, a1, a1']
    simp only [WK, simprocAttr, EW, r25, S7, S6, S5, ge_iff_le, gt_iff_lt, inV, avs_len, a1, a1']
    all_goals simp [checkK, a1, a1']
  · by_cases a2 : (64 : Int) < l.length
    · have a2' : 64 < l.length := by omega
      simp only [WK, simprocAttr, c25, n25, S7, S6, S5, ge_iff_le, gt_iff_lt, inV, avs_len, a1, a2, a1, a2']
      simp only [WK, simprocAttr, EW, r25, S7, S6, S5, ge_iff_le, gt_iff_lt, inV, avs_len, a1, a2, a1, a2']
      all_goals simp [checkK, a1, a2, a1, a2']
    · have a1' : ¬ l.length < 1 := by omega
      have a2' : ¬ 64 < l.length := by omega
      simp only [WK, simprocAttr, c25, n25, S7, S6, S5, ge_iff_le, gt_iff_lt, inV, avs_len, a1, a2]
      refine x_loop (chkI t l) ⟨l.length, { n := 41, s := [(0, .sl t (avs l)), (4, .int .i64 l.length), (16, .sl t (avs l)), (17, .int .i64 l.length), (18, .int .i64 0)], dfr := [] }, ⟨0, by omega, by omega, by simp, rfl⟩, ⟨rfl, rfl, by simp [alook]⟩⟩ ?_
      rintro m τ h ⟨i, hi, rfl, hf, rfl⟩
      have i0 : (0 : Int) ≤ (i : Int) := by omega
      by_cases b1 : (i : Int) < (l.length : Int)
      · have hlt : i < l.length := by omega
        have hx := avs_get hlt
        have hok : InOK l[i].c l[i].a l[i].b l[i].k := hl _ (List.getElem_mem hlt)
        have s1 : Sm (i : Int) := ⟨by omega, by omega⟩
        have s2 : Sm (l.length : Int) := ⟨by omega, by omega⟩
        have hfd := fb_drop (n := l.length) hlt
        by_cases b2 : oneK l[i].c l[i].a l[i].b l[i].k i l.length = 0
        · simp only [WK, simprocAttr, c25, n25, S7, S6, S5, ge_iff_le, gt_iff_lt, inV, avs_len, a1, a2, b1, i0, hx, hok, s1, s2, b2, and_self, b1]
          refine ⟨l.length - (i + 1), _, by omega, ⟨i + 1, by omega, rfl, ?_, rfl⟩, ⟨rfl, rfl, ?_⟩⟩
          · rw [hf, hfd, if_pos b2]
          · have w : IntKind.i64.wrap ((i : Int) + 1) = ((i + 1 : Nat) : Int) := by rw [wrI64 (by omega) (by omega)]; omega
            simp [alook, w]
        · have hfb : fb l.length 0 l = some ((i : Int), oneK l[i].c l[i].a l[i].b l[i].k i l.length) := by rw [hf, hfd, if_neg b2]
          simp only [WK, simprocAttr, c25, n25, S7, S6, S5, ge_iff_le, gt_iff_lt, inV, avs_len, a1, a2, b1, i0, hx, hok, s1, s2, b2, and_self, b1]
          simp only [WK, simprocAttr, EW, r25, S7, S6, S5, ge_iff_le, gt_iff_lt, inV, avs_len]
          all_goals simp [checkK, a1', a2', hfb]
      · have hi' : i = l.length := by omega
        have hfb : fb l.length 0 l = none := by rw [hf, hi', List.drop_length]; rfl
        have hlt : l.length - 1 < l.length := by omega
        have hx := avs_get hlt
        have e1 : ((l.length : Int) - 1).toNat = l.length - 1 := by omega
        have e2 : IntKind.i64.wrap ((l.length : Int) - 1) = (l.length : Int) - 1 := wrI64 (by omega) (by omega)
        have e3 : (0 : Int) ≤ (l.length : Int) - 1 := by omega
        have e4 : l[l.length - 1]? = some l[l.length - 1] := List.getElem?_eq_getElem hlt
        by_cases b3 : l[l.length - 1].c = 6 ∨ l[l.length - 1].c = 22
        · simp only [WK, simprocAttr, c25, n25, S7, S6, S5, ge_iff_le, gt_iff_lt, inV, avs_len, a1, a2, b1, hx, e1, e2, e3, b3]
          simp only [WK, simprocAttr, EW, r25, S7, S6, S5, ge_iff_le, gt_iff_lt, inV, avs_len]
          all_goals simp [checkK, a1', a2', hfb, rets, e4, b3]
        · simp only [WK, simprocAttr, c25, n25, S7, S6, S5, ge_iff_le, gt_iff_lt, inV, avs_len, a1, a2, b1, hx, e1, e2, e3, b3]
          simp only [WK, simprocAttr, EW, r25, S7, S6, S5, ge_iff_le, gt_iff_lt, inV, avs_len]
          all_goals simp [checkK, a1', a2', hfb, rets, e4, b3]
theorem k26 (t : Bool) (l : List In) (hl : ∀ x ∈ l, x.OK) : ACall PA 26 [.sl t (avs l)] [] (.tup [.int .i64 (checkK l).1, .int .i64 (checkK l).2]) [] := by
  refine ACall.ofS S7ok hmA h26 (by kernel_rfl) (Nat.le_of_ble_eq_true rfl) ownH_nil (own_solid (by simp [solid_int, solid_bool, solid_str, solid_agg, solid_tup, solid_nilsl, solid_nilp])) (aS_den ?_)
  by_cases a1 : (l.length : Int) < 1
  · have a1' : l.length < 1 := by omega
    simp only [WK, simprocAttr, c26, n26, S7, S6, S5, ge_iff_le, gt_iff_lt, inV, avs_len, a1, a1']
    simp only [WK, simprocAttr, EW, r26, S7, S6, S5, ge_iff_le, gt_iff_lt, inV, avs_len, a1, a1']
    all_goals simp [checkK, a1, a1']
  · by_cases a2 : (64 : Int) < l.length
    · have a2' : 64 < l.length := by omega
      simp only [WK, simprocAttr, c26, n26, S7, S6, S5, ge_iff_le, gt_iff_lt, inV, avs_len, a1, a2, a1, a2']
      simp only [WK, simprocAttr, EW, r26, S7, S6, S5, ge_iff_le, gt_iff_lt, inV, avs_len, a1, a2, a1, a2']
      all_goals simp [checkK, a1, a2, a1, a2']
    · have a1' : ¬ l.length < 1 := by omega
      have a2' : ¬ 64 < l.length := by omega
      simp only [WK, simprocAttr, c26, n26, S7, S6, S5, ge_iff_le, gt_iff_lt, inV, avs_len, a1, a2]
      refine x_loop (chkI t l) ⟨l.length, { n := 41, s := [(0, .sl t (avs l)), (4, .int .i64 l.length), (16, .sl t (avs l)), (17, .int .i64 l.length), (18, .int .i64 0)], dfr := [] }, ⟨0, by omega, by omega, by simp, rfl⟩, ⟨rfl, rfl, by simp [alook]⟩⟩ ?_
      rintro m τ h ⟨i, hi, rfl, hf, rfl⟩
      have i0 : (0 : Int) ≤ (i : Int) := by omega
      by_cases b1 : (i : Int) < (l.length : Int)
      · have hlt : i < l.length := by omega
        have hx := avs_get hlt
        have hok : InOK l[i].c l[i].a l[i].b l[i].k := hl _ (List.getElem_mem hlt)
        have s1 : Sm (i : Int) := ⟨by omega, by omega⟩
        have s2 : Sm (l.length : Int) := ⟨by omega, by omega⟩
        have hfd := fb_drop (n := l.length) hlt
        by_cases b2 : oneK l[i].c l[i].a l[i].b l[i].k i l.length = 0
        · simp only [WK, simprocAttr, c26, n26, S7, S6, S5, ge_iff_le, gt_iff_lt, inV, avs_len, a1, a2, b1, i0, hx, hok, s1, s2, b2, and_self, b1]
          refine ⟨l.length - (i + 1), _, by omega, ⟨i + 1, by omega, rfl, ?_, rfl⟩, ⟨rfl, rfl, ?_⟩⟩
          · rw [hf, hfd, if_pos b2]
          · have w : IntKind.i64.wrap ((i : Int) + 1) = ((i + 1 : Nat) : Int) := by rw [wrI64 (by omega) (by omega)]; omega
            simp [alook, w]
        · have hfb : fb l.length 0 l = some ((i : Int), oneK l[i].c l[i].a l[i].b l[i].k i l.length) := by rw [hf, hfd, if_neg b2]
          simp only [WK, simprocAttr, c26, n26, S7, S6, S5, ge_iff_le, gt_iff_lt, inV, avs_len, a1, a2, b1, i0, hx, hok, s1, s2, b2, and_self, b1]
          simp only [WK, simprocAttr, EW, r26, S7, S6, S5, ge_iff_le, gt_iff_lt, inV, avs_len]
          all_goals simp [checkK, a1', a2', hfb]
      · have hi' : i = l.length := by omega
        have hfb : fb l.length 0 l = none := by rw [hf, hi', List.drop_length]; rfl
        have hlt : l.length - 1 < l.length := by omega
        have hx := avs_get hlt
        have e1 : ((l.length : Int) - 1).toNat = l.length - 1 := by omega
        have e2 : IntKind.i64.wrap ((l.length : Int) - 1) = (l.length : Int) - 1 := wrI64 (by omega) (by omega)
        have e3 : (0 : Int) ≤ (l.length : Int) - 1 := by omega
        have e4 : l[l.length - 1]? = some l[l.length - 1] := List.getElem?_eq_getElem hlt
        by_cases b3 : l[l.length - 1].c = 6 ∨ l[l.length - 1].c = 22
        · simp only [WK, simprocAttr, c26, n26, S7, S6, S5, ge_iff_le, gt_iff_lt, inV, avs_len, a1, a2, b1, hx, e1, e2, e3, b3]
          simp only [WK, simprocAttr, EW, r26, S7, S6, S5, ge_iff_le, gt_iff_lt, inV, avs_len]
          all_goals simp [checkK, a1', a2', hfb, rets, e4, b3]
        · simp only [WK, simprocAttr, c26, n26, S7, S6, S5, ge_iff_le, gt_iff_lt, inV, avs_len, a1, a2, b1, hx, e1, e2, e3, b3]
          simp only [WK, simprocAttr, EW, r26, S7, S6, S5, ge_iff_le, gt_iff_lt, inV, avs_len]
          all_goals simp [checkK, a1', a2', hfb, rets, e4, b3]
end Go.Av

/- Contracts: few, Same; the table of the checks. -/
namespace Go.Av
open Go Go.Proofs
set_option maxRecDepth 100000
set_option maxHeartbeats 2000000
def decIn : AV → Option In
  | .agg [.int .u16 c, .int .u8 a, .int .u8 b, .int .u32 k] => if InOK c a b k then some ⟨c, a, b, k⟩ else none
  | _ => none
def decIns : List AV → Option (List In)
  | [] => some []
  | x :: r => match decIn x, decIns r with
    | some y, some l => some (y :: l)
    | _, _ => none
theorem decIn_av {x : In} (h : x.OK) : decIn x.av = some x := by
  have h' : InOK x.c x.a x.b x.k := h
  simp [In.av, inV, decIn, h']
theorem decIn_inv {v : AV} {x : In} (h : decIn v = some x) : v = x.av ∧ x.OK := by
  unfold decIn at h
  split at h
  · split at h
    · rename_i hok; cases h; exact ⟨rfl, hok⟩
    · cases h
  · cases h
theorem decIns_avs : ∀ {l : List In}, (∀ x ∈ l, x.OK) → decIns (avs l) = some l
  | [], _ => rfl
  | x :: l, h => by
    have e : avs (x :: l) = x.av :: avs l := rfl
    rw [e, decIns, decIn_av (h x (by simp)), decIns_avs fun y hy => h y (by simp [hy])]
theorem decIns_inv : ∀ {vs : List AV} {l : List In}, decIns vs = some l → vs = avs l ∧ ∀ x ∈ l, x.OK
  | [], l, h => by simp [decIns] at h; subst h; exact ⟨rfl, by simp⟩
  | v :: vs, l, h => by
    simp only [decIns] at h
    split at h
    · rename_i y l' h1 h2
      cases h
      obtain ⟨rfl, hy⟩ := decIn_inv h1
      obtain ⟨rfl, hl⟩ := decIns_inv h2
      refine ⟨rfl, fun x hx => ?_⟩
      rcases List.mem_cons.1 hx with rfl | hx
      · exact hy
      · exact hl x hx
    · cases h
/-- A slice of our own: nil where it is empty. -/
def ownRow (sz : Nat) (xs : List AV) : AV × AHeap := if xs = [] then (.sl true [], []) else (.rf 0 0 0 xs.length, [.row 0 sz xs])
theorem ownRow_own (sz : Nat) {xs : List AV} (h : ∀ x ∈ xs, ∀ u ∈ x.cells, Solid u) : Own (ownRow sz xs).2 (ownRow sz xs).1 ∧ OwnH (ownRow sz xs).2 := by
  unfold ownRow
  split
  · exact ⟨own_solid (.nilsl _), ownH_nil⟩
  · exact ⟨own_rf _ _ _ _, ownH_row _ _ _ h⟩
theorem avs_solid (l : List In) : ∀ x ∈ avs l, ∀ u ∈ x.cells, Solid u := by
  intro x hx u hu
  obtain ⟨y, _, rfl⟩ := List.mem_map.1 hx
  simp only [In.av, inV, AV.cells, List.mem_cons, List.not_mem_nil, or_false] at hu
  rcases hu with rfl | rfl | rfl | rfl <;> exact .int _ _
theorem avs_take (l : List In) (n : Nat) : (avs l).take n = avs (l.take n) := by simp [avs, List.map_take]
theorem avs_drop (l : List In) (n : Nat) : (avs l).drop n = avs (l.drop n) := by simp [avs, List.map_drop]
theorem avs_okE (l : List In) : (avs l).all (okE 4) = true := by
  rw [List.all_eq_true]
  intro x hx
  obtain ⟨y, _, rfl⟩ := List.mem_map.1 hx
  rfl
theorem avs_w (l : List In) : (avs l).all (fun x => x.cells.length == 4) = true := by
  rw [List.all_eq_true]
  intro x hx
  obtain ⟨y, _, rfl⟩ := List.mem_map.1 hx
  rfl
theorem avs_nil {l : List In} : avs l = [] ↔ l = [] := by simp [avs]
theorem k24 (t : Bool) (l : List In) : ACall PA 24 [.sl t (avs l)] [] (ownRow 4 (avs (l.take 65))).1 (ownRow 4 (avs (l.take 65))).2 := by
  have ho := ownRow_own 4 (avs_solid (l.take 65))
  refine ACall.ofS S7ok hmA h24 (by kernel_rfl) (Nat.le_of_ble_eq_true rfl) ho.2 ho.1 (aS_den ?_)
  have l0 : (0 : Int) ≤ (l.length : Int) := by omega
  by_cases a1 : (65 : Int) < (l.length : Int)
  · have e2 : (l.take 65).length = 65 := by rw [List.length_take]; omega
    have e1 : ¬ l.take 65 = [] := by intro e; rw [e] at e2; simp at e2
    have e3 : (65 : Int) ≤ (l.length : Int) := by omega
    simp only [WK, simprocAttr, c24, n24, S7, S6, S5, ge_iff_le, gt_iff_lt, avs_len, aslc, appR, avs_take, avs_drop, avs_okE, avs_w, avs_nil, Int.sub_zero, List.take_length, most, a1, l0, e1, e2, e3]
    simp only [WK, simprocAttr, EW, r24, S7, S6, S5, ge_iff_le, gt_iff_lt, avs_len, aslc, appR, avs_take, avs_drop, avs_okE, avs_w, avs_nil, Int.sub_zero, List.take_length, most]
    all_goals simp [ownRow, e1, e2, avs_nil, avs_len]
  · have e2 : l.take 65 = l := List.take_of_length_le (by omega)
    by_cases a2 : l = []
    · subst a2
      simp only [WK, simprocAttr, c24, n24, S7, S6, S5, ge_iff_le, gt_iff_lt, avs_len, aslc, appR, avs_take, avs_drop, avs_okE, avs_w, avs_nil, Int.sub_zero, List.take_length, most, a1, l0, e2]
      simp only [WK, simprocAttr, EW, r24, S7, S6, S5, ge_iff_le, gt_iff_lt, avs_len, aslc, appR, avs_take, avs_drop, avs_okE, avs_w, avs_nil, Int.sub_zero, List.take_length, most]
      all_goals simp [ownRow, avs]
    · have m1 : l.length * 8 ≤ 140737488355328 := by omega
      simp only [WK, simprocAttr, c24, n24, S7, S6, S5, ge_iff_le, gt_iff_lt, avs_len, aslc, appR, avs_take, avs_drop, avs_okE, avs_w, avs_nil, Int.sub_zero, List.take_length, most, a1, l0, e2, a2, m1]
      simp only [WK, simprocAttr, EW, r24, S7, S6, S5, ge_iff_le, gt_iff_lt, avs_len, aslc, appR, avs_take, avs_drop, avs_okE, avs_w, avs_nil, Int.sub_zero, List.take_length, most]
      all_goals simp [ownRow, e2, a2, avs_nil, avs_len]
theorem k29 (t : Bool) (l : List In) : ACall PA 29 [.sl t (avs l)] [] (ownRow 4 (avs (l.take 256))).1 (ownRow 4 (avs (l.take 256))).2 := by
  have ho := ownRow_own 4 (avs_solid (l.take 256))
  refine ACall.ofS S7ok hmA h29 (by kernel_rfl) (Nat.le_of_ble_eq_true rfl) ho.2 ho.1 (aS_den ?_)
  have l0 : (0 : Int) ≤ (l.length : Int) := by omega
  by_cases a1 : (256 : Int) < (l.length : Int)
  · have e2 : (l.take 256).length = 256 := by rw [List.length_take]; omega
    have e1 : ¬ l.take 256 = [] := by intro e; rw [e] at e2; simp at e2
    have e3 : (256 : Int) ≤ (l.length : Int) := by omega
    simp only [WK, simprocAttr, c29, n29, S7, S6, S5, ge_iff_le, gt_iff_lt, avs_len, aslc, appR, avs_take, avs_drop, avs_okE, avs_w, avs_nil, Int.sub_zero, List.take_length, most, a1, l0, e1, e2, e3]
    simp only [WK, simprocAttr, EW, r29, S7, S6, S5, ge_iff_le, gt_iff_lt, avs_len, aslc, appR, avs_take, avs_drop, avs_okE, avs_w, avs_nil, Int.sub_zero, List.take_length, most]
    all_goals simp [ownRow, e1, e2, avs_nil, avs_len]
  · have e2 : l.take 256 = l := List.take_of_length_le (by omega)
    by_cases a2 : l = []
    · subst a2
      simp only [WK, simprocAttr, c29, n29, S7, S6, S5, ge_iff_le, gt_iff_lt, avs_len, aslc, appR, avs_take, avs_drop, avs_okE, avs_w, avs_nil, Int.sub_zero, List.take_length, most, a1, l0, e2]
      simp only [WK, simprocAttr, EW, r29, S7, S6, S5, ge_iff_le, gt_iff_lt, avs_len, aslc, appR, avs_take, avs_drop, avs_okE, avs_w, avs_nil, Int.sub_zero, List.take_length, most]
      all_goals simp [ownRow, avs]
    · have m1 : l.length * 8 ≤ 140737488355328 := by omega
      simp only [WK, simprocAttr, c29, n29, S7, S6, S5, ge_iff_le, gt_iff_lt, avs_len, aslc, appR, avs_take, avs_drop, avs_okE, avs_w, avs_nil, Int.sub_zero, List.take_length, most, a1, l0, e2, a2, m1]
      simp only [WK, simprocAttr, EW, r29, S7, S6, S5, ge_iff_le, gt_iff_lt, avs_len, aslc, appR, avs_take, avs_drop, avs_okE, avs_w, avs_nil, Int.sub_zero, List.take_length, most]
      all_goals simp [ownRow, e2, a2, avs_nil, avs_len]
end Go.Av

/- Contracts: Same, and the table of the checks. -/
namespace Go.Av
open Go Go.Proofs
set_option maxRecDepth 100000
set_option maxHeartbeats 2000000
def eqB (x y : In) : Bool := x.c == y.c && (x.a == y.a && (x.b == y.b && x.k == y.k))
theorem eqB_iff (x y : In) : eqB x y = decide (x = y) := by
  cases x; cases y
  rw [Bool.eq_iff_iff]
  simp [eqB]
def sameI (t u : Bool) (l r : List In) (n : Nat) (m : Nat) (τ : AFr) (h : AHeap) : Prop :=
  ∃ i : Nat, i ≤ l.length ∧ m = l.length - i ∧ l.take i = r.take i ∧
    τ = { n := n, s := [(0, .sl t (avs l)), (1, .sl u (avs r)), (11, .sl t (avs l)), (12, .int .i64 l.length), (13, .int .i64 i)], dfr := [] }
theorem take_succ_eq {l r : List In} {i : Nat} (hl : i < l.length) (hr : i < r.length) (h : l.take i = r.take i) : l.take (i + 1) = r.take (i + 1) ↔ l[i] = r[i] := by
  rw [List.take_add_one (l := l), List.take_add_one (l := r), h, List.getElem?_eq_getElem hl, List.getElem?_eq_getElem hr]
  simp only [Option.toList_some, List.append_cancel_left_eq, List.cons.injEq, and_true]
theorem k27 (t u : Bool) (l r : List In) (hbig : l.length ≤ 1000000000) : ACall PA 27 [.sl t (avs l), .sl u (avs r)] [] (.bool (decide (l = r))) [] := by
  refine ACall.ofS S7ok hmA h27 (by kernel_rfl) (Nat.le_of_ble_eq_true rfl) ownH_nil (own_solid (by simp [solid_bool])) (aS_den ?_)
  by_cases hlen : (l.length : Int) = (r.length : Int)
  · have hln : l.length = r.length := by omega
    have hbn : ((l.length : Int) != (r.length : Int)) = false := by simp [hln]
    simp only [WK, simprocAttr, c27, n27, S7, S6, S5, ge_iff_le, gt_iff_lt, avs_len, inV, aeqs, aeq1, and_self, hbn]
    refine x_loop (sameI t u l r n27) ⟨l.length, _, ⟨0, by omega, by omega, by simp, rfl⟩, ⟨rfl, rfl, by simp [alook]⟩⟩ ?_
    rintro m τ h ⟨i, hi, rfl, ht, rfl⟩
    have i0 : (0 : Int) ≤ (i : Int) := by omega
    by_cases b1 : (i : Int) < (l.length : Int)
    · have hlt : i < l.length := by omega
      have hrt : i < r.length := by omega
      have hx := avs_get hlt
      have hy := avs_get hrt
      have hb := eqB_iff l[i] r[i]
      unfold eqB at hb
      have hts := take_succ_eq hlt hrt ht
      by_cases e : l[i] = r[i]
      · rw [decide_eq_true e] at hb
        simp only [WK, simprocAttr, c27, n27, S7, S6, S5, ge_iff_le, gt_iff_lt, avs_len, inV, aeqs, aeq1, and_self, hbn, b1, i0, hx, hy, hb]
        refine ⟨l.length - (i + 1), _, by omega, ⟨i + 1, by omega, rfl, hts.2 e, rfl⟩, ⟨rfl, rfl, ?_⟩⟩
        have w : IntKind.i64.wrap ((i : Int) + 1) = ((i + 1 : Nat) : Int) := by rw [wrI64 (by omega) (by omega)]; omega
        simp [alook, w]
      · rw [decide_eq_false e] at hb
        have hlr : ¬ l = r := fun c => e (by subst c; rfl)
        simp only [WK, simprocAttr, c27, n27, S7, S6, S5, ge_iff_le, gt_iff_lt, avs_len, inV, aeqs, aeq1, and_self, hbn, b1, i0, hx, hy, hb]
        simp only [WK, simprocAttr, EW, r27, S7, S6, S5, ge_iff_le, gt_iff_lt, avs_len, inV, aeqs, aeq1, and_self]
        all_goals simp [hlr]
    · have hi' : i = l.length := by omega
      have hlr : l = r := by
        rw [hi', List.take_length, List.take_of_length_le (by omega)] at ht
        exact ht
      simp only [WK, simprocAttr, c27, n27, S7, S6, S5, ge_iff_le, gt_iff_lt, avs_len, inV, aeqs, aeq1, and_self, hbn, b1]
      simp only [WK, simprocAttr, EW, r27, S7, S6, S5, ge_iff_le, gt_iff_lt, avs_len, inV, aeqs, aeq1, and_self]
      all_goals simp [hlr]
  · have hlr : ¬ l = r := fun c => hlen (by rw [c])
    have hbn : ((l.length : Int) != (r.length : Int)) = true := by simp; omega
    simp only [WK, simprocAttr, c27, n27, S7, S6, S5, ge_iff_le, gt_iff_lt, avs_len, inV, aeqs, aeq1, and_self, hbn]
    simp only [WK, simprocAttr, EW, r27, S7, S6, S5, ge_iff_le, gt_iff_lt, avs_len, inV, aeqs, aeq1, and_self]
    all_goals simp [hlr]
theorem k47 (t u : Bool) (l r : List In) (hbig : l.length ≤ 1000000000) : ACall PA 47 [.sl t (avs l), .sl u (avs r)] [] (.bool (decide (l = r))) [] := by
  refine ACall.ofS S7ok hmA h47 (by kernel_rfl) (Nat.le_of_ble_eq_true rfl) ownH_nil (own_solid (by simp [solid_bool])) (aS_den ?_)
  by_cases hlen : (l.length : Int) = (r.length : Int)
  · have hln : l.length = r.length := by omega
    have hbn : ((l.length : Int) != (r.length : Int)) = false := by simp [hln]
    simp only [WK, simprocAttr, c47, n47, S7, S6, S5, ge_iff_le, gt_iff_lt, avs_len, inV, aeqs, aeq1, and_self, hbn]
    refine x_loop (sameI t u l r n47) ⟨l.length, _, ⟨0, by omega, by omega, by simp, rfl⟩, ⟨rfl, rfl, by simp [alook]⟩⟩ ?_
    rintro m τ h ⟨i, hi, rfl, ht, rfl⟩
    have i0 : (0 : Int) ≤ (i : Int) := by omega
    by_cases b1 : (i : Int) < (l.length : Int)
    · have hlt : i < l.length := by omega
      have hrt : i < r.length := by omega
      have hx := avs_get hlt
      have hy := avs_get hrt
      have hb := eqB_iff l[i] r[i]
      unfold eqB at hb
      have hts := take_succ_eq hlt hrt ht
      by_cases e : l[i] = r[i]
      · rw [decide_eq_true e] at hb
        simp only [WK, simprocAttr, c47, n47, S7, S6, S5, ge_iff_le, gt_iff_lt, avs_len, inV, aeqs, aeq1, and_self, hbn, b1, i0, hx, hy, hb]
        refine ⟨l.length - (i + 1), _, by omega, ⟨i + 1, by omega, rfl, hts.2 e, rfl⟩, ⟨rfl, rfl, ?_⟩⟩
        have w : IntKind.i64.wrap ((i : Int) + 1) = ((i + 1 : Nat) : Int) := by rw [wrI64 (by omega) (by omega)]; omega
        simp [alook, w]
      · rw [decide_eq_false e] at hb
        have hlr : ¬ l = r := fun c => e (by subst c; rfl)
        simp only [WK, simprocAttr, c47, n47, S7, S6, S5, ge_iff_le, gt_iff_lt, avs_len, inV, aeqs, aeq1, and_self, hbn, b1, i0, hx, hy, hb]
        simp only [WK, simprocAttr, EW, r47, S7, S6, S5, ge_iff_le, gt_iff_lt, avs_len, inV, aeqs, aeq1, and_self]
        all_goals simp [hlr]
    · have hi' : i = l.length := by omega
      have hlr : l = r := by
        rw [hi', List.take_length, List.take_of_length_le (by omega)] at ht
        exact ht
      simp only [WK, simprocAttr, c47, n47, S7, S6, S5, ge_iff_le, gt_iff_lt, avs_len, inV, aeqs, aeq1, and_self, hbn, b1]
      simp only [WK, simprocAttr, EW, r47, S7, S6, S5, ge_iff_le, gt_iff_lt, avs_len, inV, aeqs, aeq1, and_self]
      all_goals simp [hlr]
  · have hlr : ¬ l = r := fun c => hlen (by rw [c])
    have hbn : ((l.length : Int) != (r.length : Int)) = true := by simp; omega
    simp only [WK, simprocAttr, c47, n47, S7, S6, S5, ge_iff_le, gt_iff_lt, avs_len, inV, aeqs, aeq1, and_self, hbn]
    simp only [WK, simprocAttr, EW, r47, S7, S6, S5, ge_iff_le, gt_iff_lt, avs_len, inV, aeqs, aeq1, and_self]
    all_goals simp [hlr]
end Go.Av

/- Contracts: where a program goes on. -/
namespace Go.Av
open Go Go.Proofs
set_option maxRecDepth 100000
set_option maxHeartbeats 2000000
def S8 : Spec := fun f args => match f, args with
  | 24, [.sl _ xs] => match decIns xs with
    | some l => some (ownRow 4 (avs (l.take 65)))
    | none => none
  | 29, [.sl _ xs] => match decIns xs with
    | some l => some (ownRow 4 (avs (l.take 256)))
    | none => none
  | 25, [.sl _ xs] => match decIns xs with
    | some l => some (.tup [.int .i64 (checkK l).1, .int .i64 (checkK l).2], [])
    | none => none
  | 26, [.sl _ xs] => match decIns xs with
    | some l => some (.tup [.int .i64 (checkK l).1, .int .i64 (checkK l).2], [])
    | none => none
  | 27, [.sl _ xs, .sl _ ys] => match decIns xs, decIns ys with
    | some l, some r => if l.length ≤ 1000000000 then some (.bool (decide (l = r)), []) else none
    | _, _ => none
  | 47, [.sl _ xs, .sl _ ys] => match decIns xs, decIns ys with
    | some l, some r => if l.length ≤ 1000000000 then some (.bool (decide (l = r)), []) else none
    | _, _ => none
  | f, args => S7 f args
theorem S8ok : SpecOK PA S8 := by
  refine ⟨fun f args r l h => ?_⟩
  unfold S8 at h
  split at h
  · rename_i tt xs
    split at h
    · rename_i l' hd
      obtain ⟨rfl, _⟩ := decIns_inv hd
      have e : ownRow 4 (avs (l'.take 65)) = (r, l) := by injection h
      have k := k24 tt l'
      have o := ownRow_own 4 (avs_solid (l'.take 65))
      rw [e] at k o
      exact ⟨k, by simp only [List.mem_singleton, forall_eq]; exact avs_bel _ _ _, o.1, o.2⟩
    · cases h
  · rename_i tt xs
    split at h
    · rename_i l' hd
      obtain ⟨rfl, _⟩ := decIns_inv hd
      have e : ownRow 4 (avs (l'.take 256)) = (r, l) := by injection h
      have k := k29 tt l'
      have o := ownRow_own 4 (avs_solid (l'.take 256))
      rw [e] at k o
      exact ⟨k, by simp only [List.mem_singleton, forall_eq]; exact avs_bel _ _ _, o.1, o.2⟩
    · cases h
  · split at h
    · rename_i hd
      obtain ⟨rfl, hok⟩ := decIns_inv hd
      cases h
      exact ⟨k25 _ _ hok, by simp only [List.mem_singleton, forall_eq]; exact avs_bel _ _ _, own_solid (by simp [solid_tup, solid_int]), ownH_nil⟩
    · cases h
  · split at h
    · rename_i hd
      obtain ⟨rfl, hok⟩ := decIns_inv hd
      cases h
      exact ⟨k26 _ _ hok, by simp only [List.mem_singleton, forall_eq]; exact avs_bel _ _ _, own_solid (by simp [solid_tup, solid_int]), ownH_nil⟩
    · cases h
  · split at h
    · rename_i l' r' hd hd'
      obtain ⟨rfl, _⟩ := decIns_inv hd
      obtain ⟨rfl, _⟩ := decIns_inv hd'
      split at h
      · rename_i hb
        cases h
        exact ⟨k27 _ _ _ _ hb, by intro x hx; simp only [List.mem_cons, List.not_mem_nil, or_false] at hx; rcases hx with rfl | rfl <;> exact avs_bel _ _ _, own_solid (by simp [solid_bool]), ownH_nil⟩
      · cases h
    · cases h
  · split at h
    · rename_i l' r' hd hd'
      obtain ⟨rfl, _⟩ := decIns_inv hd
      obtain ⟨rfl, _⟩ := decIns_inv hd'
      split at h
      · rename_i hb
        cases h
        exact ⟨k47 _ _ _ _ hb, by intro x hx; simp only [List.mem_cons, List.not_mem_nil, or_false] at hx; rcases hx with rfl | rfl <;> exact avs_bel _ _ _, own_solid (by simp [solid_bool]), ownH_nil⟩
      · cases h
    · cases h
  · exact S7ok.ok _ _ _ _ h
theorem ACall.ofGT {P : Program} {S : Tab} (hS : TabOK P S) (hm : P.follows .mixedOrders = true) {f : FuncId} {ac : AC} {rs : List RV} {n : Nat} (hk : chk P f = some (ac, rs, n)) (hd : okD S.loud ac = true) {args : List AV} {r : AV} {h hR : AHeap} (hn : args.length ≤ n) (hst : Hstay h hR)
    (H : HB h → aS P S none ac (Fin P h rs r hR) { n := n, s := argS 0 args, dfr := [] } h) : ACall P f args h r hR :=
  ACall.of hm hk hn hst fun hb => aS_aw hS none ac hd _ _ (fun _ _ _ k => k) _ _ (H hb)
theorem ACall.ofG {P : Program} {S : Spec} (hS : SpecOK P S) (hm : P.follows .mixedOrders = true) {f : FuncId} {ac : AC} {rs : List RV} {n : Nat} (hk : chk P f = some (ac, rs, n)) (hd : okD S.tab.loud ac = true) {args : List AV} {r : AV} {h hR : AHeap} (hn : args.length ≤ n) (hst : Hstay h hR)
    (H : HB h → aS P S none ac (Fin P h rs r hR) { n := n, s := argS 0 args, dfr := [] } h) : ACall P f args h r hR := ACall.ofGT hS.tab hm hk hd hn hst H
/-- The end of a function that leaves its memory as it stands. -/
theorem Fin.plain {P : Program} {h : AHeap} {rs : List RV} {r : AV} {hR : AHeap} {j : Jump} {τ : AFr} {xs : List AV} (hj : j = .none ∨ j = .ret) (hd : τ.dfr = []) (hx : aresl τ.s hR rs = some xs) (hr : r = resv xs) : Fin P h rs r hR j τ hR := by
  refine ⟨hj, by rw [hd]; exact List.nodup_nil, by rw [hd]; intro i L _ hm; simp at hm, xs, by rw [hd]; exact hx, ?_⟩
  rw [hd, hr]
  exact Gst.refl _ _ _
abbrev rowI (x : In) : AObj := .row 0 4 [x.av]
abbrev rowN (i : Int) : AObj := .row 0 1 [.int .i64 i]
theorem k62 (x : In) (i : Int) (h : AHeap) : ACall PA 62 [x.av, .int .i64 i] h (.fn (.func 78) [] [.rp h.length 0 0 0, .rp (h.length + 1) 0 0 0]) (h ++ [rowI x, rowN i]) := by
  refine ACall.ofG S8ok hmA h62 (by kernel_rfl) (Nat.le_of_ble_eq_true rfl) (Hstay.app _ _) fun _ => aS_den ?_
  simp only [WK, simprocAttr, c62, n62, S8, S7, S6, S5, ge_iff_le, gt_iff_lt, inV, In.av, List.append_assoc]
  exact Fin.plain (.inr rfl) rfl rfl rfl
end Go.Av

/- Contracts: where an instruction goes on: the tool's. -/
namespace Go.Av
open Go Go.Proofs
set_option maxRecDepth 100000
set_option maxHeartbeats 2000000
def lo (x : In) : Int := if x.b < x.a then x.b else x.a
def hi (x : In) : Int := if x.a < x.b then x.b else x.a
def nextL (x : In) (i : Int) : List Int :=
  if i < 0 ∨ 255 < i ∨ formK x.c < 0 ∨ rets x = true then [] else
  if formK x.c = 4 then (if x.k ≤ 255 then [i + 1 + x.k] else []) else
  if formK x.c = 5 ∨ formK x.c = 6 then (if lo x = hi x then [i + 1 + lo x] else [i + 1 + lo x, i + 1 + hi x]) else [i + 1]
structure Gen78 (x : In) (i : Int) (p q id : Nat) (Hs : Nat → AHeap) : Prop where
  p : ∀ j, rowAt (Hs j) p 0 = some (4, [x.av])
  q : ∀ j, rowAt (Hs j) q 0 = some (1, [.int .i64 i])
  y : ∀ j v, (nextL x i)[j]? = some v → AYield PA id [.int .i64 v] (Hs j) (.bool true) (Hs (j + 1))
  st : Hstay (Hs 0) (Hs (nextL x i).length)
theorem k78 (x : In) (hx : x.OK) (i : Int) (hi' : -1000 ≤ i ∧ i ≤ 1000) (p q id : Nat) (Hs : Nat → AHeap) (G : Gen78 x i p q id Hs) : ACall PA 78 [.yld id, .rp p 0 0 0, .rp q 0 0 0] (Hs 0) (.tup []) (Hs (nextL x i).length) := by
  refine ACall.ofG S8ok hmA h78 (by kernel_rfl) (Nat.le_of_ble_eq_true rfl) G.st fun _ => aS_den ?_
  have hIc : U16 x.c := hx.c
  have px := G.p 0
  have qx := G.q 0
  by_cases a1 : i < 0
  · have e : nextL x i = [] := by simp [nextL, rets, a1]
    rw [e]
    simp only [WN, simprocAttr, c78, n78, S8, S7, S6, S5, S4, S3, ge_iff_le, gt_iff_lt, px, qx, hIc, inV, In.av, a1]
    exact Fin.plain (.inl rfl) rfl rfl rfl
  · by_cases a2 : 255 < i
    · have e : nextL x i = [] := by simp [nextL, rets, a1, a2]
      rw [e]
      simp only [WN, simprocAttr, c78, n78, S8, S7, S6, S5, S4, S3, ge_iff_le, gt_iff_lt, px, qx, hIc, inV, In.av, a1, a2]
      exact Fin.plain (.inl rfl) rfl rfl rfl
    · by_cases f0 : formK x.c < 0
      · have e : nextL x i = [] := by simp [nextL, rets, a1, a2, f0]
        rw [e]
        simp only [WN, simprocAttr, c78, n78, S8, S7, S6, S5, S4, S3, ge_iff_le, gt_iff_lt, px, qx, hIc, inV, In.av, a1, a2, f0]
        exact Fin.plain (.inl rfl) rfl rfl rfl
      · by_cases rr : x.c = 6 ∨ x.c = 22
        · have e : nextL x i = [] := by simp [nextL, rets, a1, a2, f0, rr]
          rw [e]
          simp only [WN, simprocAttr, c78, n78, S8, S7, S6, S5, S4, S3, ge_iff_le, gt_iff_lt, px, qx, hIc, inV, In.av, a1, a2, f0, rr]
          exact Fin.plain (.inl rfl) rfl rfl rfl
        · have hk := hx.k
          have ha := hx.a
          have hb := hx.b
          have w1 : IntKind.i64.wrap (i + 1) = i + 1 := wrI64 (by omega) (by omega)
          have hl1 : 0 ≤ lo x ∧ lo x < 256 := by unfold lo; have := ha.1; have := ha.2; have := hb.1; have := hb.2; split <;> omega
          have hh1 : 0 ≤ hi x ∧ hi x < 256 := by unfold hi; have := ha.1; have := ha.2; have := hb.1; have := hb.2; split <;> omega
          have w2 : IntKind.i64.wrap x.k = x.k := wrI64 (by omega) (by omega)
          have w3 : IntKind.i64.wrap (i + 1 + x.k) = i + 1 + x.k := wrI64 (by omega) (by omega)
          have w4 : IntKind.i64.wrap (lo x) = lo x := wrI64 (by omega) (by omega)
          have w5 : IntKind.i64.wrap (hi x) = hi x := wrI64 (by omega) (by omega)
          have w6 : IntKind.i64.wrap (i + 1 + lo x) = i + 1 + lo x := wrI64 (by omega) (by omega)
          have w7 : IntKind.i64.wrap (i + 1 + hi x) = i + 1 + hi x := wrI64 (by omega) (by omega)
          have hlo : (if x.b < x.a then x.b else x.a) = lo x := rfl
          have hhi : (if x.a < x.b then x.b else x.a) = hi x := rfl
          by_cases f4 : formK x.c = 4
          · by_cases m : x.k ≤ 255
            · have e : nextL x i = [i + 1 + x.k] := by simp [nextL, rets, a1, a2, f0, rr, f4, m]
              have y0 := G.y 0 (i + 1 + x.k) (by rw [e]; rfl)
              have px1 := G.p 1
              have qx1 := G.q 1
              rw [e]
              simp only [WN, simprocAttr, c78, n78, S8, S7, S6, S5, S4, S3, ge_iff_le, gt_iff_lt, px, qx, hIc, inV, In.av, a1, a2, f0, rr, f4, m, w1, w2, w3, w4, w5, w6, w7, hlo, hhi, px1, qx1]
              refine ⟨_, _, y0, ?_⟩
              simp only [WN, simprocAttr, c78, n78, S8, S7, S6, S5, S4, S3, ge_iff_le, gt_iff_lt, px, qx, hIc, inV, In.av, a1, a2, f0, rr, f4, m, w1, w2, w3, w4, w5, w6, w7, hlo, hhi, px1, qx1]
              exact Fin.plain (.inl rfl) rfl rfl rfl
            · have e : nextL x i = [] := by simp [nextL, rets, a1, a2, f0, rr, f4, m]
              rw [e]
              simp only [WN, simprocAttr, c78, n78, S8, S7, S6, S5, S4, S3, ge_iff_le, gt_iff_lt, px, qx, hIc, inV, In.av, a1, a2, f0, rr, f4, m]
              exact Fin.plain (.inl rfl) rfl rfl rfl
          · by_cases f5 : formK x.c = 5
            · by_cases e5 : hi x = lo x
              · have e : nextL x i = [i + 1 + lo x] := by simp [nextL, rets, a1, a2, f0, rr, f5, e5]
                have y0 := G.y 0 (i + 1 + lo x) (by rw [e]; rfl)
                have px1 := G.p 1
                have qx1 := G.q 1
                rw [e]
                simp only [WN, simprocAttr, c78, n78, S8, S7, S6, S5, S4, S3, ge_iff_le, gt_iff_lt, px, qx, hIc, inV, In.av, a1, a2, f0, rr, f5, e5, w1, w2, w3, w4, w5, w6, w7, hlo, hhi, px1, qx1]
                refine ⟨_, _, y0, ?_⟩
                simp only [WN, simprocAttr, c78, n78, S8, S7, S6, S5, S4, S3, ge_iff_le, gt_iff_lt, px, qx, hIc, inV, In.av, a1, a2, f0, rr, f5, e5, w1, w2, w3, w4, w5, w6, w7, hlo, hhi, px1, qx1]
                exact Fin.plain (.inl rfl) rfl rfl rfl
              · have e6 : ¬ lo x = hi x := fun h => e5 h.symm
                have e : nextL x i = [i + 1 + lo x, i + 1 + hi x] := by simp [nextL, rets, a1, a2, f0, rr, f5, e5, e6]
                have y0 := G.y 0 (i + 1 + lo x) (by rw [e]; rfl)
                have y1 := G.y 1 (i + 1 + hi x) (by rw [e]; rfl)
                have px1 := G.p 1
                have qx1 := G.q 1
                rw [e]
                simp only [WN, simprocAttr, c78, n78, S8, S7, S6, S5, S4, S3, ge_iff_le, gt_iff_lt, px, qx, hIc, inV, In.av, a1, a2, f0, rr, f5, e5, e6, w1, w2, w3, w4, w5, w6, w7, hlo, hhi, px1, qx1]
                refine ⟨_, _, y0, ?_⟩
                simp only [WN, simprocAttr, c78, n78, S8, S7, S6, S5, S4, S3, ge_iff_le, gt_iff_lt, px, qx, hIc, inV, In.av, a1, a2, f0, rr, f5, e5, e6, w1, w2, w3, w4, w5, w6, w7, hlo, hhi, px1, qx1]
                refine ⟨_, _, y1, ?_⟩
                simp only [WN, simprocAttr, c78, n78, S8, S7, S6, S5, S4, S3, ge_iff_le, gt_iff_lt, px, qx, hIc, inV, In.av, a1, a2, f0, rr, f5, e5, e6, w1, w2, w3, w4, w5, w6, w7, hlo, hhi, px1, qx1]
                exact Fin.plain (.inl rfl) rfl rfl rfl
            · by_cases f6 : formK x.c = 6
              · by_cases e5 : hi x = lo x
                · have e : nextL x i = [i + 1 + lo x] := by simp [nextL, rets, a1, a2, f0, rr, f6, e5]
                  have y0 := G.y 0 (i + 1 + lo x) (by rw [e]; rfl)
                  have px1 := G.p 1
                  have qx1 := G.q 1
                  rw [e]
                  simp only [WN, simprocAttr, c78, n78, S8, S7, S6, S5, S4, S3, ge_iff_le, gt_iff_lt, px, qx, hIc, inV, In.av, a1, a2, f0, rr, f6, e5, w1, w2, w3, w4, w5, w6, w7, hlo, hhi, px1, qx1]
                  refine ⟨_, _, y0, ?_⟩
                  simp only [WN, simprocAttr, c78, n78, S8, S7, S6, S5, S4, S3, ge_iff_le, gt_iff_lt, px, qx, hIc, inV, In.av, a1, a2, f0, rr, f6, e5, w1, w2, w3, w4, w5, w6, w7, hlo, hhi, px1, qx1]
                  exact Fin.plain (.inl rfl) rfl rfl rfl
                · have e6 : ¬ lo x = hi x := fun h => e5 h.symm
                  have e : nextL x i = [i + 1 + lo x, i + 1 + hi x] := by simp [nextL, rets, a1, a2, f0, rr, f6, e5, e6]
                  have y0 := G.y 0 (i + 1 + lo x) (by rw [e]; rfl)
                  have y1 := G.y 1 (i + 1 + hi x) (by rw [e]; rfl)
                  have px1 := G.p 1
                  have qx1 := G.q 1
                  rw [e]
                  simp only [WN, simprocAttr, c78, n78, S8, S7, S6, S5, S4, S3, ge_iff_le, gt_iff_lt, px, qx, hIc, inV, In.av, a1, a2, f0, rr, f6, e5, e6, w1, w2, w3, w4, w5, w6, w7, hlo, hhi, px1, qx1]
                  refine ⟨_, _, y0, ?_⟩
                  simp only [WN, simprocAttr, c78, n78, S8, S7, S6, S5, S4, S3, ge_iff_le, gt_iff_lt, px, qx, hIc, inV, In.av, a1, a2, f0, rr, f6, e5, e6, w1, w2, w3, w4, w5, w6, w7, hlo, hhi, px1, qx1]
                  refine ⟨_, _, y1, ?_⟩
                  simp only [WN, simprocAttr, c78, n78, S8, S7, S6, S5, S4, S3, ge_iff_le, gt_iff_lt, px, qx, hIc, inV, In.av, a1, a2, f0, rr, f6, e5, e6, w1, w2, w3, w4, w5, w6, w7, hlo, hhi, px1, qx1]
                  exact Fin.plain (.inl rfl) rfl rfl rfl
              · have e : nextL x i = [i + 1] := by simp [nextL, rets, a1, a2, f0, rr, f4, f5, f6]
                have y0 := G.y 0 (i + 1) (by rw [e]; rfl)
                have px1 := G.p 1
                have qx1 := G.q 1
                rw [e]
                simp only [WN, simprocAttr, c78, n78, S8, S7, S6, S5, S4, S3, ge_iff_le, gt_iff_lt, px, qx, hIc, inV, In.av, a1, a2, f0, rr, f4, f5, f6, w1, w2, w3, w4, w5, w6, w7, hlo, hhi, px1, qx1]
                refine ⟨_, _, y0, ?_⟩
                simp only [WN, simprocAttr, c78, n78, S8, S7, S6, S5, S4, S3, ge_iff_le, gt_iff_lt, px, qx, hIc, inV, In.av, a1, a2, f0, rr, f4, f5, f6, w1, w2, w3, w4, w5, w6, w7, hlo, hhi, px1, qx1]
                exact Fin.plain (.inl rfl) rfl rfl rfl
end Go.Av

/- Contracts: a range over a function, collected. -/
namespace Go.Av
open Go Go.Proofs
set_option maxRecDepth 100000
set_option maxHeartbeats 2000000
section
variable (h l : AHeap)
theorem get0 : (h ++ l)[h.length]? = l[0]? := by rw [List.getElem?_append_right (Nat.le_refl _), Nat.sub_self]
theorem getk (k : Nat) : (h ++ l)[h.length + k]? = l[k]? := by rw [List.getElem?_append_right (Nat.le_add_right _ _), Nat.add_sub_cancel_left]
theorem rowAt0 (v : Nat) : rowAt (h ++ l) h.length v = rowAt l 0 v := by unfold rowAt; rw [get0]
theorem rowAtk (k v : Nat) : rowAt (h ++ l) (h.length + k) v = rowAt l k v := by unfold rowAt; rw [getk]
theorem set0 (o : AObj) : (h ++ l).set h.length o = h ++ l.set 0 o := by rw [List.set_append_right _ _ (Nat.le_refl _), Nat.sub_self]
theorem setk (k : Nat) (o : AObj) : (h ++ l).set (h.length + k) o = h ++ l.set k o := by rw [List.set_append_right _ _ (Nat.le_add_right _ _), Nat.add_sub_cancel_left]
end
def RQ2 (id : Nat) (r : AV) (h' : AHeap) (j : Jump) (τ2 : AFr) (h2 : AHeap) : Prop :=
  ∃ L2, h2[id]? = some (.loop L2) ∧ r = .bool (decide (j = .none)) ∧ h' = h2.set id (.loop { L2 with st := if j = .none then .ready else .done, pend := j })
def RQ1 (P : Program) (S : Tab) (id : Nat) (body : AC) (r : AV) (h' : AHeap) (j : Jump) (τ1 : AFr) (h1 : AHeap) : Prop :=
  j = .none ∧ ∃ L1, h1[id]? = some (.loop L1) ∧ L1.st = .ready ∧ aS P S (some id) body (RQ2 id r h') τ1 (h1.set id (.loop { L1 with st := .busy }))
theorem AYield.ofT {P : Program} {S : Tab} (hS : TabOK P S) (hm : P.follows .mixedOrders = true) {id : Nat} {L : ALoop} {args : List AV} {r : AV} {h h' : AHeap} (hL : h[id]? = some (.loop L)) (hlen : args.length = L.ps.length) (hps : ∀ p ∈ L.ps, p < L.n) (hd : Hstay h h')
    (d1 : okD S.loud L.assign = true) (d2 : okD S.loud L.body = true) (H : aS P S (some id) L.assign (RQ1 P S id L.body r h') { n := L.n, s := putArgs L.slots L.ps args, dfr := [] } h) : AYield P id args h r h' := by
  refine AYield.of hm hL hlen hps hd (aS_aw hS (some id) _ d1 _ _ (fun j τ1 h1 k => ?_) _ _ H)
  obtain ⟨k1, L1, k2, k3, k4⟩ := k
  exact ⟨k1, L1, k2, k3, aS_aw hS (some id) _ d2 _ _ (fun j τ2 h2 k => k) _ _ k4⟩
theorem AYield.ofS {P : Program} {S : Spec} (hS : SpecOK P S) (hm : P.follows .mixedOrders = true) {id : Nat} {L : ALoop} {args : List AV} {r : AV} {h h' : AHeap} (hL : h[id]? = some (.loop L)) (hlen : args.length = L.ps.length) (hps : ∀ p ∈ L.ps, p < L.n) (hd : Hstay h h')
    (d1 : okD S.tab.loud L.assign = true) (d2 : okD S.tab.loud L.body = true) (H : aS P S (some id) L.assign (RQ1 P S id L.body r h') { n := L.n, s := putArgs L.slots L.ps args, dfr := [] } h) : AYield P id args h r h' := AYield.ofT hS.tab hm hL hlen hps hd d1 d2 H
def ints (l : List Int) : List AV := l.map (AV.int .i64)
def asg82 : AC := (.ops [o 5 (.mov (.t 7))])
def bod82 : AC := (.block 1 (.ops [o 8 (.ld none (.t 2)), o 9 (.mov (.t 5)), o 10 (.bsl 1 [.t 9]), o 11 (.app 1 8 (.t 8) (.t 10)), u (.st 1 (.t 2) (.t 11))]))
def loop82 (b : Nat) (s : List (Nat × AV)) : ALoop := { st := .ready, pend := .none, slots := s, n := 13, ps := [7], assign := asg82, body := bod82, dfr := b + 1 }
def T82 (b : Nat) (s : List (Nat × AV)) (vs : List Int) : Nat → AHeap
  | 0 => [.row 0 1 [.sl true []], .dfr, .loop (loop82 b s)]
  | j + 1 => [.row 0 1 [.rf (b + 3) j 0 (j + 1)], .dfr, .loop (loop82 b s), .row j 1 (ints (vs.take (j + 1)))]
theorem stay_loop (h l l' : AHeap) (e : ∀ k : Nat, l[k]? = some .dfr → l'[k]? = some .dfr) : Hstay (h ++ l) (h ++ l') := by
  intro d hd
  rcases Nat.lt_or_ge d h.length with c | c
  · rw [List.getElem?_append_left c] at hd ⊢; exact hd
  · rw [List.getElem?_append_right c] at hd ⊢; exact e _ hd
theorem ints_okE (l : List Int) : (ints l).all (okE 1) = true := by
  rw [List.all_eq_true]
  intro x hx
  obtain ⟨y, _, rfl⟩ := List.mem_map.1 hx
  rfl
theorem y82 (h : AHeap) (s : List (Nat × AV)) (hs : alook s 2 = .rp h.length 0 0 0) (vs : List Int) (hb : vs.length ≤ 1000000000) (j : Nat) (v : Int) (hv : vs[j]? = some v) : AYield PA (h.length + 2) [.int .i64 v] (h ++ T82 h.length s vs j) (.bool true) (h ++ T82 h.length s vs (j + 1)) := by
  have hlt : j < vs.length := getElem?_lt hv
  have ht : ints (vs.take (j + 1)) = ints (vs.take j) ++ [.int .i64 v] := by
    rw [List.take_add_one, hv]; simp [ints]
  cases j with
  | zero =>
    have ht1 : ints (vs.take 1) = [.int .i64 v] := by simpa [ints] using ht
    refine AYield.ofS S8ok hmA (L := loop82 h.length s) (by simp only [T82, getk]; rfl) rfl (by simp [loop82]) (stay_loop _ _ _ ?_) (by kernel_rfl) (by kernel_rfl) (aS_den ?_)
    · intro k hk
      rcases k with _ | _ | _ | _ | k <;> first | rfl | (simp [T82] at hk)
    · simp only [T82, loop82, asg82, bod82, putArgs]
      simp only [WK, simprocAttr, S8, S7, get0, getk, rowAt0, rowAtk, set0, setk, List.append_assoc, hs]
      refine ⟨rfl, _, (by simp only [getk]; rfl), rfl, aS_den ?_⟩
      simp only [WK, simprocAttr, S8, S7, appR, most, get0, getk, rowAt0, rowAtk, set0, setk, List.append_assoc, hs]
      refine ⟨_, (by simp only [getk]; rfl), rfl, ?_⟩
      simp [setk, ht1]
  | succ j =>
    have htl : (vs.take (j + 1)).length = j + 1 := by rw [List.length_take]; omega
    have htl' : (ints (vs.take (j + 1))).length = j + 1 := by simp only [ints, List.length_map]; exact htl
    have htt : (ints (vs.take (j + 1))).take (j + 1) = ints (vs.take (j + 1)) := List.take_of_length_le (by omega)
    have hm : (j + 1 + 1) * 8 ≤ 140737488355328 := by omega
    refine AYield.ofS S8ok hmA (L := loop82 h.length s) (by simp only [T82, getk]; rfl) rfl (by simp [loop82]) (stay_loop _ _ _ ?_) (by kernel_rfl) (by kernel_rfl) (aS_den ?_)
    · intro k hk
      rcases k with _ | _ | _ | _ | k <;> first | rfl | (simp [T82] at hk)
    · simp only [T82, loop82, asg82, bod82, putArgs]
      simp only [WK, simprocAttr, S8, S7, get0, getk, rowAt0, rowAtk, set0, setk, List.append_assoc, hs]
      refine ⟨rfl, _, (by simp only [getk]; rfl), rfl, aS_den ?_⟩
      simp only [WK, simprocAttr, S8, S7, appR, most, htl, htl', htt, hm, Nat.le_refl, get0, getk, rowAt0, rowAtk, set0, setk, List.append_assoc, hs]
      refine ⟨_, (by simp only [getk]; rfl), rfl, ?_⟩
      simp [setk, ht]
def Gens (g : FuncId) (caps : List AV) (h : AHeap) (vs : List Int) : Prop :=
  ∀ (id : Nat) (T : Nat → AHeap), (∀ j v, vs[j]? = some v → AYield PA id [.int .i64 v] (h ++ T j) (.bool true) (h ++ T (j + 1))) → Hstay (h ++ T 0) (h ++ T vs.length) → ACall PA g ([.yld id] ++ caps) (h ++ T 0) (.tup []) (h ++ T vs.length)
def res82 (h : AHeap) (vs : List Int) : AV := if vs = [] then .sl true [] else .rf (h.length + 3) (vs.length - 1) 0 vs.length
def heap82 (h : AHeap) (vs : List Int) : AHeap := if vs = [] then h else h ++ [.dead, .dead, .dead, .row (vs.length - 1) 1 (ints vs)]
theorem x_range {P : Program} {S : Tab} {rd : Option Nat} {k : List It} {Q : Jump → AFr → AHeap → Prop} {τ : AFr} {h : AHeap} (g : Opd) (ps : List Nat) (x y : AC) : aS P S rd (.rangeF g ps x y) (den P S rd k Q) τ h = awRange P rd g ps x y (den P S rd k Q) τ h := rfl
theorem k82 (g : FuncId) (caps : List AV) (h : AHeap) (vs : List Int) (hb : vs.length ≤ 1000000000) (G : Gens g caps h vs) : ACall PA 82 [.sl true [], .fn (.func g) [] caps] h (res82 h vs) (heap82 h vs) := by
  refine ACall.ofG S8ok hmA h82 (by kernel_rfl) (Nat.le_of_ble_eq_true rfl) ?_ fun hbel => aS_den ?_
  · unfold heap82
    split
    · exact Hstay.refl _
    · exact Hstay.app _ _
  simp only [WK, simprocAttr, c82, n82, S8, S7, get0, getk, rowAt0, rowAtk, set0, setk, List.append_assoc]
  rw [x_range]
  simp only [awRange, ev, alook, Nat.reduceEqDiff, reduceIte]
  obtain ⟨s, hs⟩ : ∃ s : List (Nat × AV), s = [(6, .fn (.func g) [] caps), (4, .sl true []), (2, .rp h.length 0 0 0), (0, .sl true []), (1, .fn (.func g) [] caps)] := ⟨_, rfl⟩
  have h2 : alook s 2 = .rp h.length 0 0 0 := by rw [hs]; rfl
  have hl : (h ++ [AObj.row 0 1 [AV.sl true []]]).length = h.length + 1 := by simp
  have hst : Hstay (h ++ T82 h.length s vs 0) (h ++ T82 h.length s vs vs.length) := by
    refine stay_loop _ _ _ fun k hk => ?_
    have : k = 1 := by
      rcases k with _ | _ | _ | k <;> first | rfl | (simp [T82] at hk)
    subst this
    cases vs.length <;> rfl
  have hc := G (h.length + 2) (T82 h.length s vs) (fun j v hv => y82 h s h2 vs hb j v hv) hst
  rw [← hs, hl, show h.length + 1 + 1 = h.length + 2 from rfl]
  refine ⟨.tup [], h ++ T82 h.length s vs vs.length, loop82 h.length s, ?_, ?_, by simp [loop82], ?_⟩
  · have e : h ++ [AObj.row 0 1 [AV.sl true []]] ++ [AObj.dfr, AObj.loop { st := LoopState.ready, pend := Jump.none, slots := s, n := 13, ps := [7], assign := asg82, body := bod82, dfr := h.length + 1 }] = h ++ T82 h.length s vs 0 := by simp [T82, loop82]
    show ACall PA g ([] ++ [AV.yld (h.length + 2)] ++ caps) (h ++ [AObj.row 0 1 [AV.sl true []]] ++ [AObj.dfr, AObj.loop { st := LoopState.ready, pend := Jump.none, slots := s, n := 13, ps := [7], assign := asg82, body := bod82, dfr := h.length + 1 }]) _ _
    rw [e]
    exact hc
  · rw [getk]
    cases vs.length <;> rfl
  · show den PA S8 none _ _ Jump.none _ _
    rw [hs]
    cases vs with
    | nil =>
      simp only [T82, List.length_nil]
      simp only [WK, simprocAttr, S8, S7, get0, getk, rowAt0, rowAtk, set0, setk, List.append_assoc]
      refine ⟨.inr rfl, by simp, ?_, [.sl true []], ?_, ?_⟩
      · intro i L hi hm
        have hlt : L.dfr < h.length := by
          rcases Nat.lt_or_ge i h.length with c | c
          · rw [List.getElem?_append_left c] at hi
            exact (hbel i _ hi).2
          · rw [List.getElem?_append_right c] at hi
            exfalso
            generalize i - h.length = k at hi
            rcases k with _ | _ | _ | k <;> simp at hi
        simp at hm
        omega
      · simp [kills, setk, r82, aresl, ares, alook]
      · simp only [kills, List.foldl_cons, List.foldl_nil, setk, resv, res82, heap82, if_true]
        exact Gst.drop (Nat.le_refl _) hbel (by simp [bel_sl])
    | cons w vs' =>
      simp only [T82, List.length_cons]
      simp only [WK, simprocAttr, S8, S7, get0, getk, rowAt0, rowAtk, set0, setk, List.append_assoc]
      refine ⟨.inr rfl, by simp, ?_, [.rf (h.length + 3) vs'.length 0 (vs'.length + 1)], ?_, ?_⟩
      · intro i L hi hm
        have hlt : L.dfr < h.length := by
          rcases Nat.lt_or_ge i h.length with c | c
          · rw [List.getElem?_append_left c] at hi
            exact (hbel i _ hi).2
          · rw [List.getElem?_append_right c] at hi
            exfalso
            generalize i - h.length = k at hi
            rcases k with _ | _ | _ | _ | k <;> simp at hi
        simp at hm
        omega
      · simp [kills, setk, r82, aresl, ares, alook]
      · have ht : List.take (vs'.length + 1) (w :: vs') = w :: vs' := List.take_of_length_le (by simp)
        have hr : res82 h (w :: vs') = .rf (h.length + 3) vs'.length 0 (vs'.length + 1) := by simp [res82]
        have hh : heap82 h (w :: vs') = (h ++ [AObj.row 0 1 [AV.rf (h.length + 3) vs'.length 0 (vs'.length + 1)], AObj.dead, AObj.dead, AObj.row vs'.length 1 (ints (w :: vs'))]).set h.length .dead := by
          rw [set0]; simp [heap82]
        rw [hr, hh]
        simp only [kills, List.foldl_cons, List.foldl_nil, setk, resv, ht, List.set_cons_succ, List.set_cons_zero, List.take_length]
        refine Gst.kill (o := .row 0 1 [AV.rf (h.length + 3) vs'.length 0 (vs'.length + 1)]) ?_ (by simp)
        rw [get0]; rfl
end Go.Av

/- Contracts: Next. -/
namespace Go.Av
open Go Go.Proofs
set_option maxRecDepth 100000
set_option maxHeartbeats 2000000
theorem k70 (g : FuncId) (caps : List AV) (h : AHeap) (vs : List Int) (hb : vs.length ≤ 1000000000) (G : Gens g caps h vs) : ACall PA 70 [.fn (.func g) [] caps] h (res82 h vs) (heap82 h vs) := by
  refine ACall.ofG S8ok hmA h70 (by kernel_rfl) (Nat.le_of_ble_eq_true rfl) ?_ fun hbel => aS_den ?_
  · unfold heap82
    split
    · exact Hstay.refl _
    · exact Hstay.app _ _
  simp only [WK, simprocAttr, c70, n70, S8, S7, S6, S5, S4, S3, S2, S1]
  refine ⟨_, _, k82 g caps h vs hb G, ?_⟩
  try simp only [WK, simprocAttr, S8, S7]
  exact Fin.plain (.inr rfl) rfl rfl rfl
def ownV (vs : List Int) : AV × AHeap := if vs = [] then (.sl true [], []) else (.rf 0 (vs.length - 1) 0 vs.length, [.row (vs.length - 1) 1 (ints vs)])
theorem ints_solid (l : List Int) : ∀ x ∈ ints l, ∀ u ∈ x.cells, Solid u := by
  intro x hx u hu
  obtain ⟨y, _, rfl⟩ := List.mem_map.1 hx
  simp only [cells_int, List.mem_singleton] at hu
  subst hu
  exact .int _ _
theorem ownV_own (vs : List Int) : Own (ownV vs).2 (ownV vs).1 ∧ OwnH (ownV vs).2 := by
  unfold ownV
  split
  · exact ⟨own_solid (.nilsl _), ownH_nil⟩
  · exact ⟨own_rf _ _ _ _, ownH_row _ _ _ (ints_solid _)⟩
theorem nextL_len (x : In) (i : Int) : (nextL x i).length ≤ 2 := by
  unfold nextL
  repeat' split
  all_goals simp
theorem gens78 (x : In) (hx : x.OK) (i : Int) (hi : -1000 ≤ i ∧ i ≤ 1000) : Gens 78 [.rp 1 0 0 0, .rp 2 0 0 0] [rowI x, rowI x, rowN i] (nextL x i) := by
  intro id T hy hst
  exact k78 x hx i hi 1 2 id (fun j => [rowI x, rowI x, rowN i] ++ T j) ⟨fun j => rfl, fun j => rfl, hy, hst⟩
theorem k45 (x : In) (hx : x.OK) (i : Int) (hi : -1000 ≤ i ∧ i ≤ 1000) : ACall PA 45 [x.av, .int .i64 i] [] (ownV (nextL x i)).1 (ownV (nextL x i)).2 := by
  have ho := ownV_own (nextL x i)
  refine ACall.ofS S8ok hmA h45 (by kernel_rfl) (Nat.le_of_ble_eq_true rfl) ho.2 ho.1 (aS_den ?_)
  have k1 := k62 x i [rowI x]
  have k2 := k70 78 _ _ _ (by have := nextL_len x i; omega) (gens78 x hx i hi)
  simp only [WK, simprocAttr, c45, n45, S8, S7, S6, S5, S4, S3, S2, S1, In.av, inV]
  refine ⟨_, _, k1, ?_⟩
  try simp only [WK, simprocAttr, S8, S7, S6, S5, S4, S3, S2, S1, In.av, inV]
  refine ⟨_, _, k2, ?_⟩
  by_cases e : nextL x i = []
  · simp only [res82, heap82, e, if_true]
    try simp only [WK, simprocAttr, S8, S7]
    simp only [WK, simprocAttr, EW, r45]
    all_goals simp [ownV]
  · simp only [res82, heap82, e, if_false]
    try simp only [WK, simprocAttr, S8, S7]
    simp only [WK, simprocAttr, EW, r45]
    all_goals simp [ownV, e, List.idxOf]
end Go.Av

/- Contracts: whole numbers compared; the tool is awake. -/
namespace Go.Av
open Go Go.Proofs
set_option maxRecDepth 100000
set_option maxHeartbeats 2000000
theorem ints_len (l : List Int) : (ints l).length = l.length := by simp [ints]
theorem ints_get {l : List Int} {i : Nat} (h : i < l.length) : (ints l)[i]? = some (.int .i64 l[i]) := by simp [ints, h]
def decInts : List AV → Option (List Int)
  | [] => some []
  | .int .i64 n :: r => match decInts r with
    | some l => some (n :: l)
    | none => none
  | _ => none
theorem decInts_ints : ∀ (l : List Int), decInts (ints l) = some l
  | [] => rfl
  | x :: l => by
    have e : ints (x :: l) = .int .i64 x :: ints l := rfl
    rw [e, decInts, decInts_ints l]
theorem decInts_inv : ∀ {vs : List AV} {l : List Int}, decInts vs = some l → vs = ints l
  | [], l, h => by simp [decInts] at h; subst h; rfl
  | v :: vs, l, h => by
    unfold decInts at h
    split at h
    · rename_i heq; cases heq
    · rename_i n r heq
      cases heq
      split at h
      · rename_i l' hl
        cases h
        rw [decInts_inv hl]; rfl
      · cases h
    · cases h
theorem ints_bel (n : Nat) (t : Bool) (l : List Int) : Bel n (.sl t (ints l)) := by
  rw [bel_sl]
  intro x hx u hu
  obtain ⟨y, _, rfl⟩ := List.mem_map.1 hx
  simp only [cells_int, List.mem_singleton] at hu
  subst hu
  exact .int _ _
def sameV (t u : Bool) (l r : List Int) (n : Nat) (m : Nat) (τ : AFr) (h : AHeap) : Prop :=
  ∃ i : Nat, i ≤ l.length ∧ m = l.length - i ∧ l.take i = r.take i ∧
    τ = { n := n, s := [(0, .sl t (ints l)), (1, .sl u (ints r)), (11, .sl t (ints l)), (12, .int .i64 l.length), (13, .int .i64 i)], dfr := [] }
theorem take_succ_int {l r : List Int} {i : Nat} (hl : i < l.length) (hr : i < r.length) (h : l.take i = r.take i) : l.take (i + 1) = r.take (i + 1) ↔ l[i] = r[i] := by
  rw [List.take_add_one (l := l), List.take_add_one (l := r), h, List.getElem?_eq_getElem hl, List.getElem?_eq_getElem hr]
  simp only [Option.toList_some, List.append_cancel_left_eq, List.cons.injEq, and_true]
theorem k38 (t u : Bool) (l r : List Int) (hbig : l.length ≤ 1000000000) : ACall PA 38 [.sl t (ints l), .sl u (ints r)] [] (.bool (decide (l = r))) [] := by
  refine ACall.ofS S7ok hmA h38 (by kernel_rfl) (Nat.le_of_ble_eq_true rfl) ownH_nil (own_solid (by simp [solid_bool])) (aS_den ?_)
  by_cases hlen : (l.length : Int) = (r.length : Int)
  · have hln : l.length = r.length := by omega
    have hbn : ((l.length : Int) != (r.length : Int)) = false := by simp [hln]
    simp only [WK, simprocAttr, c38, n38, S7, S6, S5, ge_iff_le, gt_iff_lt, ints_len, and_self, hbn]
    refine x_loop (sameV t u l r n38) ⟨l.length, _, ⟨0, by omega, by omega, by simp, rfl⟩, ⟨rfl, rfl, by simp [alook]⟩⟩ ?_
    rintro m τ h ⟨i, hi, rfl, ht, rfl⟩
    have i0 : (0 : Int) ≤ (i : Int) := by omega
    by_cases b1 : (i : Int) < (l.length : Int)
    · have hlt : i < l.length := by omega
      have hrt : i < r.length := by omega
      have hx := ints_get hlt
      have hy := ints_get hrt
      have hts := take_succ_int hlt hrt ht
      by_cases e : l[i] = r[i]
      · have hb : (l[i] != r[i]) = false := by simp [e]
        simp only [WK, simprocAttr, c38, n38, S7, S6, S5, ge_iff_le, gt_iff_lt, ints_len, and_self, hbn, b1, i0, hx, hy, hb]
        refine ⟨l.length - (i + 1), _, by omega, ⟨i + 1, by omega, rfl, hts.2 e, rfl⟩, ⟨rfl, rfl, ?_⟩⟩
        have w : IntKind.i64.wrap ((i : Int) + 1) = ((i + 1 : Nat) : Int) := by rw [wrI64 (by omega) (by omega)]; omega
        simp [alook, w]
      · have hb : (l[i] != r[i]) = true := by simp [e]
        have hlr : ¬ l = r := fun c => e (by subst c; rfl)
        simp only [WK, simprocAttr, c38, n38, S7, S6, S5, ge_iff_le, gt_iff_lt, ints_len, and_self, hbn, b1, i0, hx, hy, hb]
        simp only [WK, simprocAttr, EW, r38, S7, S6, S5, ge_iff_le, gt_iff_lt, ints_len, and_self]
        all_goals simp [hlr]
    · have hi' : i = l.length := by omega
      have hlr : l = r := by
        rw [hi', List.take_length, List.take_of_length_le (by omega)] at ht
        exact ht
      simp only [WK, simprocAttr, c38, n38, S7, S6, S5, ge_iff_le, gt_iff_lt, ints_len, and_self, hbn, b1]
      simp only [WK, simprocAttr, EW, r38, S7, S6, S5, ge_iff_le, gt_iff_lt, ints_len, and_self]
      all_goals simp [hlr]
  · have hlr : ¬ l = r := fun c => hlen (by rw [c])
    have hbn : ((l.length : Int) != (r.length : Int)) = true := by simp; omega
    simp only [WK, simprocAttr, c38, n38, S7, S6, S5, ge_iff_le, gt_iff_lt, ints_len, and_self, hbn]
    simp only [WK, simprocAttr, EW, r38, S7, S6, S5, ge_iff_le, gt_iff_lt, ints_len, and_self]
    all_goals simp [hlr]
def S9 : Spec := fun f args => match f, args with
  | 45, [.agg [.int .u16 c, .int .u8 a, .int .u8 b, .int .u32 k], .int .i64 i] => if InOK c a b k ∧ -1000 ≤ i ∧ i ≤ 1000 then some (ownV (nextL ⟨c, a, b, k⟩ i)) else none
  | 38, [.sl _ xs, .sl _ ys] => match decInts xs, decInts ys with
    | some l, some r => if l.length ≤ 1000000000 then some (.bool (decide (l = r)), []) else none
    | _, _ => none
  | f, args => S8 f args
theorem S9ok : SpecOK PA S9 := by
  refine ⟨fun f args r l h => ?_⟩
  unfold S9 at h
  split at h
  · rename_i c a b k i
    split at h
    · rename_i hc
      have e : ownV (nextL ⟨c, a, b, k⟩ i) = (r, l) := by injection h
      have k' := k45 ⟨c, a, b, k⟩ hc.1 i hc.2
      have o := ownV_own (nextL ⟨c, a, b, k⟩ i)
      rw [e] at k' o
      exact ⟨k', by simp [bel_int, bel_agg], o.1, o.2⟩
    · cases h
  · split at h
    · rename_i l' r' hd hd'
      have := decInts_inv hd
      subst this
      have := decInts_inv hd'
      subst this
      split at h
      · rename_i hb
        cases h
        exact ⟨k38 _ _ _ _ hb, by intro x hx; simp only [List.mem_cons, List.not_mem_nil, or_false] at hx; rcases hx with rfl | rfl <;> exact ints_bel _ _ _, own_solid (by simp [solid_bool]), ownH_nil⟩
      · cases h
    · cases h
  · exact S8ok.ok _ _ _ _ h
theorem k23 : ACall PA 23 [] [] (.bool true) [] := by
  refine ACall.ofS S9ok hmA h23 (by kernel_rfl) (Nat.le_of_ble_eq_true rfl) ownH_nil (own_solid (by simp [solid_bool])) (aS_den ?_)
  have i1 : InOK 6 0 0 0 := by decide
  have i2 : InOK 21 0 1 0 := by decide
  have i3 : InOK 4 0 0 0 := by decide
  have c1 : checkK [⟨6, 0, 0, 0⟩] = (0, 0) := by kernel_rfl
  have c2 : checkK [] = (0, 140) := by kernel_rfl
  have c3 : checkK [⟨21, 0, 1, 0⟩, ⟨6, 0, 0, 0⟩, ⟨4, 0, 0, 0⟩] = (2, 147) := by kernel_rfl
  have m1 : nextL ⟨21, 0, 1, 0⟩ 0 = [1, 2] := by kernel_rfl
  simp only [WK, simprocAttr, c23, n23, S9, S8, S7, S6, S5, S4, S3, S2, S1, decIns, decIn, decInts, i1, i2, i3, c1, c2, c3, m1, ownV, ints, Nat.le_refl, and_self]
  simp only [WK, simprocAttr, EW, r23]
end Go.Av

/- CheckChecks. -/
namespace Go.Av
open Go Go.Proofs
set_option maxRecDepth 100000
set_option maxHeartbeats 2000000
def S10 : Spec := fun f args => match f, args with
  | 23, [] => some (.bool true, [])
  | f, args => S9 f args
theorem S10ok : SpecOK PA S10 := by
  refine ⟨fun f args r l h => ?_⟩
  unfold S10 at h
  split at h
  · cases h; exact ⟨k23, by simp, own_solid (by simp [solid_bool]), ownH_nil⟩
  · exact S9ok.ok _ _ _ _ h
def rowsV (rows : List (List In)) : List AV := rows.map fun l => .sl false (avs l)
theorem rows_len (rows : List (List In)) : (rowsV rows).length = rows.length := by simp [rowsV]
theorem rows_get {rows : List (List In)} {i : Nat} (h : i < rows.length) : (rowsV rows)[i]? = some (.sl false (avs rows[i])) := by simp [rowsV, h]
def ccI (t : Bool) (rows : List (List In)) (m : Nat) (τ : AFr) (h : AHeap) : Prop :=
  ∃ i : Nat, i ≤ rows.length ∧ i ≤ 8 ∧ m = rows.length - i ∧ τ = { n := 51, s := [(13, .sl t (rowsV rows)), (14, .int .i64 rows.length), (15, .int .i64 i)], dfr := [] }
theorem avs_take_all (l : List In) : (avs l).take l.length = avs l := by rw [avs_take, List.take_length]
theorem k5 (t : Bool) (rows : List (List In)) (hok : ∀ l ∈ rows, ∀ x ∈ l, x.OK) : ACall PA 5 [.sl t (rowsV rows)] [] (.bool true) [] := by
  refine ACall.ofS S10ok hmA h5 (by kernel_rfl) (Nat.le_of_ble_eq_true rfl) ownH_nil (own_solid (by simp [solid_bool])) (aS_den ?_)
  simp only [WK, simprocAttr, S10, S9, S8, S7, S6, S5, S4, S3, S2, S1, ge_iff_le, gt_iff_lt, get0, getk, rowAt0, rowAtk, List.append_assoc, avs_drop, rows_len, c5, n5]
  refine x_loop (ccI t rows) ⟨rows.length, _, ⟨0, by omega, by omega, by omega, rfl⟩, ⟨rfl, rfl, by simp [alook]⟩⟩ ?_
  rintro m τ h ⟨i, hi, hi8, rfl, rfl⟩
  have i0 : (0 : Int) ≤ (i : Int) := by omega
  by_cases b1 : (i : Int) < (rows.length : Int)
  · have hlt : i < rows.length := by omega
    have hr := rows_get hlt
    by_cases b2 : (i : Int) = 8
    · have b3 : ((i : Int) == 8) = true := by simp [b2]
      simp only [WK, simprocAttr, S10, S9, S8, S7, S6, S5, S4, S3, S2, S1, ge_iff_le, gt_iff_lt, get0, getk, rowAt0, rowAtk, List.append_assoc, avs_drop, rows_len, b1, i0, hr, b3]
      simp only [WK, simprocAttr, EW, r5]
    · have b3 : ((i : Int) == 8) = false := by simp [b2]
      have hl : ∀ x ∈ rows[i], x.OK := hok _ (List.getElem_mem hlt)
      obtain ⟨l, hle⟩ : ∃ l, l = rows[i] := ⟨_, rfl⟩
      rw [← hle] at hr hl
      have hd := decIns_avs hl
      have hl65 : ∀ x ∈ l.take 65, x.OK := fun x hx => hl x (List.mem_of_mem_take hx)
      have hd65 := decIns_avs hl65
      have w : IntKind.i64.wrap ((i : Int) + 1) = ((i + 1 : Nat) : Int) := by rw [wrI64 (by omega) (by omega)]; omega
      by_cases e : l = []
      · subst e
        have ea : avs ([] : List In) = [] := rfl
        have c2 : checkK [] = (0, 140) := by kernel_rfl
        simp only [WK, simprocAttr, S10, S9, S8, S7, S6, S5, S4, S3, S2, S1, ge_iff_le, gt_iff_lt, get0, getk, rowAt0, rowAtk, List.append_assoc, avs_drop, rows_len, b1, i0, hr, b3, decIns, ownRow, ea, c2]
        refine ⟨rows.length - (i + 1), _, by omega, ⟨i + 1, by omega, by omega, rfl, rfl⟩, ⟨rfl, rfl, by simp [alook, w]⟩⟩
      · have e' : ¬ avs (l.take 65) = [] := by rw [avs_nil]; intro c; rw [List.take_eq_nil_iff] at c; rcases c with c | c; simp at c; exact e c
        have hbig : (l.take 65).length ≤ 1000000000 := by rw [List.length_take]; omega
        obtain ⟨u, hu⟩ : ∃ u, u = l.take 65 := ⟨_, rfl⟩
        have el : (avs u).take u.length = avs u := avs_take_all u
        rw [← hu] at e' hbig hd65
        simp only [WK, simprocAttr, S10, S9, S8, S7, S6, S5, S4, S3, S2, S1, ge_iff_le, gt_iff_lt, get0, getk, rowAt0, rowAtk, List.append_assoc, avs_drop, rows_len, b1, i0, hr, b3, hd, ← hu, ownRow, e', hd65, hbig, avs_len, el, Nat.le_refl]
        refine ⟨rows.length - (i + 1), _, by omega, ⟨i + 1, by omega, by omega, rfl, rfl⟩, ⟨rfl, rfl, by simp [alook, w]⟩⟩
  · simp only [WK, simprocAttr, S10, S9, S8, S7, S6, S5, S4, S3, S2, S1, ge_iff_le, gt_iff_lt, get0, getk, rowAt0, rowAtk, List.append_assoc, avs_drop, rows_len, b1]
    simp only [WK, simprocAttr, EW, r5]
end Go.Av
