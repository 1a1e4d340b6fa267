/- Contracts: lists' sizes. -/
import Derived.Test.YtgpaipedklilkaaGreatKl
import Derived.Test.YtgpaipedklilkaaGreatMx
import Derived.Test.YtgpaipedklilkaaGreatWa
set_option linter.unusedVariables false
set_option linter.unusedSimpArgs false
namespace Go.Av
open Go Go.Proofs
set_option maxRecDepth 100000
set_option maxHeartbeats 2000000
def S00 : Spec := fun _ _ => none
theorem S00ok {P : Program} : SpecOK P S00 := ⟨fun _ _ _ _ h => by cases h⟩
theorem filV_len (l : List Fil) : (filV l).length = l.length := by simp [filV]
theorem filV_get {l : List Fil} {i : Nat} (h : i < l.length) : (filV l)[i]? = some (.agg [.int .i64 l[i].num, .sl false l[i].prog]) := by simp [filV, Fil.av, h]
def sumP (l : List Fil) : Nat := (l.map fun f => f.prog.length).sum
theorem sumP_take {l : List Fil} {i : Nat} (h : i < l.length) : sumP (l.take (i + 1)) = sumP (l.take i) + l[i].prog.length := by
  rw [List.take_add_one, List.getElem?_eq_getElem h]
  simp only [sumP, List.map_append, List.sum_append, Option.toList, List.map_cons, List.map_nil, List.sum_cons, List.sum_nil, Nat.add_zero]
theorem sumP_le {l : List Fil} (hp : ∀ f ∈ l, f.prog.length ≤ 65) : sumP l ≤ 65 * l.length := by
  induction l with
  | nil => simp [sumP]
  | cons f r ih =>
    have := hp f (by simp)
    have := ih fun g hg => hp g (by simp [hg])
    simp only [sumP, List.map_cons, List.sum_cons, List.length_cons] at this ⊢
    omega
structure FSm (l : List Fil) : Prop where
  len : l.length ≤ 26
  prog : ∀ f ∈ l, f.prog.length ≤ 65
def Over (h H : AHeap) : Prop := ∃ g, H = h ++ g
theorem Over.refl (h : AHeap) : Over h h := ⟨[], by simp⟩
theorem Over.app {h H : AHeap} (o : Over h H) (l : AHeap) : Over h (H ++ l) := by obtain ⟨g, rfl⟩ := o; exact ⟨g ++ l, by simp⟩
theorem Fin.over {P : Program} {h H : AHeap} (o : Over h H) {rs : List RV} {r : AV} {j : Jump} {τ : AFr} {xs : List AV} (hbel : HB h) (hj : j = .none ∨ j = .ret) (hd : τ.dfr = [])
    (hx : aresl τ.s H rs = some xs) (hr : r = resv xs) (hrb : Bel h.length r) : Fin P h rs r h j τ H := by
  obtain ⟨g, rfl⟩ := o
  exact Fin.lost hbel hj hd hx hr hrb
def sizeI (l : List Fil) (h : AHeap) (m : Nat) (τ : AFr) (H : AHeap) : Prop :=
  ∃ i : Nat, i ≤ l.length ∧ m = l.length - i ∧ Over h H ∧ τ = { n := 22, s := [(3, .int .i64 ((4 * l.length + sumP (l.take i) : Nat) : Int)), (9, .sl false (filV l)), (10, .int .i64 l.length), (11, .int .i64 i)], dfr := [] }
theorem k28 (l : List Fil) (sm : FSm l) (h : AHeap) : ACall PA 28 [.sl false (filV l)] h (.int .i64 ((4 * l.length + sumP l : Nat) : Int)) h := by
  refine ACall.ofG S00ok hmA h28 (by kernel_rfl) (Nat.le_of_ble_eq_true rfl) (Hstay.refl h) fun hbel => aS_den ?_
  have hl := sm.len
  have w1 : IntKind.i64.wrap (4 * (l.length : Int)) = ((4 * l.length : Nat) : Int) := by
    simp [IntKind.wrap, IntKind.bits, IntKind.signed]; omega
  simp only [WK, simprocAttr, c28, n28, S00, filV_len, w1]
  refine x_loop (sizeI l h) ⟨l.length, { n := 22, s := [(3, .int .i64 ((4 * l.length + sumP (l.take 0) : Nat) : Int)), (9, .sl false (filV l)), (10, .int .i64 l.length), (11, .int .i64 0)], dfr := [] }, ⟨0, by omega, by omega, Over.refl h, rfl⟩, ⟨rfl, rfl, by simp [alook, sumP]⟩⟩ ?_
  rintro m τ H ⟨i, hi, rfl, ho, rfl⟩
  have i0 : (0 : Int) ≤ (i : Int) := by omega
  by_cases b1 : (i : Int) < (l.length : Int)
  · have hlt : i < l.length := by omega
    have hx := filV_get hlt
    have hp := sm.prog _ (List.getElem_mem hlt)
    have hs := sumP_le (l := l.take i) fun f hf => sm.prog f (List.mem_of_mem_take hf)
    rw [List.length_take] at hs
    have hn := sumP_take hlt
    have w2 : IntKind.i64.wrap ((i : Int) + 1) = ((i + 1 : Nat) : Int) := by
      simp [IntKind.wrap, IntKind.bits, IntKind.signed]; omega
    have w3 : IntKind.i64.wrap (((4 * l.length + sumP (l.take i) : Nat) : Int) + (l[i].prog.length : Int)) = ((4 * l.length + sumP (l.take (i + 1)) : Nat) : Int) := by
      rw [hn]; simp [IntKind.wrap, IntKind.bits, IntKind.signed]; omega
    simp only [WK, simprocAttr, S00, filV_len, b1, i0, hx, w2, w3, Int.toNat_natCast]
    exact ⟨_, _, by omega, ⟨i + 1, by omega, rfl, ho.app _, rfl⟩, ⟨rfl, rfl, by simp [alook]⟩⟩
  · have b2 : i = l.length := by omega
    subst b2
    simp only [WK, simprocAttr, S00, filV_len, b1]
    exact Fin.over ho hbel (.inr rfl) rfl rfl (by rw [List.take_length]; rfl) (.int _ _)
def sizeJ (l : List Fil) (h : AHeap) (m : Nat) (τ : AFr) (H : AHeap) : Prop :=
  ∃ i : Nat, i ≤ l.length ∧ m = l.length - i ∧ Over h H ∧ τ = { n := 20, s := [(3, .int .i64 ((4 * i + sumP (l.take i) : Nat) : Int)), (6, .sl false (filV l)), (7, .int .i64 l.length), (8, .int .i64 i)], dfr := [] }
theorem k29 (l : List Fil) (sm : FSm l) (h : AHeap) : ACall PA 29 [.sl false (filV l)] h (.int .i64 ((4 * l.length + sumP l : Nat) : Int)) h := by
  refine ACall.ofG S00ok hmA h29 (by kernel_rfl) (Nat.le_of_ble_eq_true rfl) (Hstay.refl h) fun hbel => aS_den ?_
  have hl := sm.len
  simp only [WK, simprocAttr, c29, n29, S00, filV_len]
  refine x_loop (sizeJ l h) ⟨l.length, { n := 20, s := [(3, .int .i64 ((4 * 0 + sumP (l.take 0) : Nat) : Int)), (6, .sl false (filV l)), (7, .int .i64 l.length), (8, .int .i64 0)], dfr := [] }, ⟨0, by omega, by omega, Over.refl h, rfl⟩, ⟨rfl, rfl, by simp [alook, sumP]⟩⟩ ?_
  rintro m τ H ⟨i, hi, rfl, ho, rfl⟩
  have i0 : (0 : Int) ≤ (i : Int) := by omega
  by_cases b1 : (i : Int) < (l.length : Int)
  · have hlt : i < l.length := by omega
    have hx := filV_get hlt
    have hp := sm.prog _ (List.getElem_mem hlt)
    have hs := sumP_le (l := l.take i) fun f hf => sm.prog f (List.mem_of_mem_take hf)
    rw [List.length_take] at hs
    have hn := sumP_take hlt
    have w2 : IntKind.i64.wrap ((i : Int) + 1) = ((i + 1 : Nat) : Int) := by
      simp [IntKind.wrap, IntKind.bits, IntKind.signed]; omega
    have w4 : IntKind.i64.wrap ((l[i].prog.length : Int) + 4) = ((l[i].prog.length + 4 : Nat) : Int) := by
      simp [IntKind.wrap, IntKind.bits, IntKind.signed]; omega
    have w3 : IntKind.i64.wrap (((4 * i + sumP (l.take i) : Nat) : Int) + ((l[i].prog.length + 4 : Nat) : Int)) = ((4 * (i + 1) + sumP (l.take (i + 1)) : Nat) : Int) := by
      rw [hn]; simp [IntKind.wrap, IntKind.bits, IntKind.signed]; omega
    simp only [WK, simprocAttr, S00, filV_len, b1, i0, hx, w2, w4, w3, Int.toNat_natCast]
    exact ⟨_, _, by omega, ⟨i + 1, by omega, rfl, ho.app _, rfl⟩, ⟨rfl, rfl, by simp [alook]⟩⟩
  · have b2 : i = l.length := by omega
    subst b2
    simp only [WK, simprocAttr, S00, filV_len, b1]
    exact Fin.over ho hbel (.inr rfl) rfl rfl (by rw [List.take_length]; rfl) (.int _ _)
theorem k80 (a b : Int) (p q : AV) (hp : p.one = true) (hq : q.one = true) (h : AHeap) : ACall PA 80 [.agg [.int .i64 a, p], .agg [.int .i64 b, q]] h (.bool (a == b)) h := by
  refine ACall.ofG S00ok hmA h80 (by kernel_rfl) (Nat.le_of_ble_eq_true rfl) (Hstay.refl h) fun hbel => aS_den ?_
  simp only [WK, simprocAttr, c80, n80, S00, hp, hq, get0, getk, rowAt0, rowAtk, set0, setk, List.append_assoc]
  exact Fin.lost hbel (.inr rfl) rfl rfl rfl (.bool _)
end Go.Av

/- Contracts: which list is behind which. -/
set_option linter.unusedVariables false
set_option linter.unusedSimpArgs false
namespace Go.Av
open Go Go.Proofs
set_option maxRecDepth 100000
set_option maxHeartbeats 2000000
def numsEq : List Fil → List Fil → Bool
  | [], [] => true
  | a :: r, b :: s => (a.num == b.num) && numsEq r s
  | _, _ => false
theorem numsEq_len : ∀ {a b : List Fil}, a.length ≠ b.length → numsEq a b = false
  | [], [], h => absurd rfl h
  | [], _ :: _, _ => rfl
  | _ :: _, [], _ => rfl
  | a :: r, b :: s, h => by
    rw [numsEq, numsEq_len (a := r) (b := s) (by simpa using h), Bool.and_false]
theorem numsEq_drop {a b : List Fil} {i : Nat} (h1 : i < a.length) (h2 : i < b.length) : numsEq (a.drop i) (b.drop i) = ((a[i].num == b[i].num) && numsEq (a.drop (i + 1)) (b.drop (i + 1))) := by
  rw [List.drop_eq_getElem_cons h1, List.drop_eq_getElem_cons h2, numsEq]
theorem filV_take (l : List Fil) (n : Nat) : (filV l).take n = filV (l.take n) := by simp [filV, List.map_take]
theorem filV_drop (l : List Fil) (n : Nat) : (filV l).drop n = filV (l.drop n) := by simp [filV, List.map_drop]
theorem filV_w (l : List Fil) : (filV l).all (fun x => x.cells.length == 2) = true := by
  rw [List.all_eq_true]
  intro x hx
  obtain ⟨y, _, rfl⟩ := List.mem_map.1 hx
  rfl
def eqfI (a b : List Fil) (h : AHeap) (m : Nat) (τ : AFr) (H : AHeap) : Prop :=
  ∃ i : Nat, i ≤ a.length ∧ m = a.length - i ∧ Over h H ∧ numsEq a b = numsEq (a.drop i) (b.drop i) ∧ τ = { n := 32, s := [(1, .sl false (filV b)), (2, .fn (.func 80) [] []), (15, .sl false (filV a)), (16, .int .i64 a.length), (17, .int .i64 i)], dfr := [] }
theorem k79 (a b : List Fil) (ha : a.length ≤ 26) (h : AHeap) : ACall PA 79 [.sl false (filV a), .sl false (filV b), .fn (.func 80) [] []] h (.bool (numsEq a b)) h := by
  refine ACall.ofG S00ok hmA h79 (by kernel_rfl) (Nat.le_of_ble_eq_true rfl) (Hstay.refl h) fun hbel => aS_den ?_
  by_cases e : a.length = b.length
  · have e1 : ((a.length : Int) != (b.length : Int)) = false := by simp [e]
    simp only [WK, simprocAttr, c79, n79, S00, filV_len, e1]
    refine x_loop (eqfI a b h) ⟨a.length, { n := 32, s := [(1, .sl false (filV b)), (2, .fn (.func 80) [] []), (15, .sl false (filV a)), (16, .int .i64 a.length), (17, .int .i64 0)], dfr := [] }, ⟨0, by omega, by omega, Over.refl h, rfl, rfl⟩, ⟨rfl, rfl, by simp [alook]⟩⟩ ?_
    rintro m τ H ⟨i, hi, rfl, ho, hn, rfl⟩
    have i0 : (0 : Int) ≤ (i : Int) := by omega
    by_cases b1 : (i : Int) < (a.length : Int)
    · have hlt : i < a.length := by omega
      have hlt' : i < b.length := by omega
      have hx := filV_get hlt
      have hy := filV_get hlt'
      have w2 : IntKind.i64.wrap ((i : Int) + 1) = ((i + 1 : Nat) : Int) := by
        simp [IntKind.wrap, IntKind.bits, IntKind.signed]; omega
      rw [numsEq_drop hlt hlt'] at hn
      simp only [WK, simprocAttr, S00, filV_len, b1, i0, hx, hy, w2, Int.toNat_natCast, get0, getk, rowAt0, rowAtk, set0, setk, List.append_assoc]
      refine ⟨_, _, k80 _ _ _ _ rfl rfl _, ?_⟩
      by_cases q : (a[i].num == b[i].num) = true
      · simp only [WK, simprocAttr, S00, filV_len, b1, i0, w2, q]
        exact ⟨_, _, by omega, ⟨i + 1, by omega, rfl, ho.app _, by rw [hn, q]; rfl, rfl⟩, ⟨rfl, rfl, by simp [alook]⟩⟩
      · have q' : (a[i].num == b[i].num) = false := by simpa using q
        simp only [WK, simprocAttr, S00, filV_len, b1, i0, w2, q']
        exact Fin.over (ho.app _) hbel (.inr rfl) rfl rfl (by rw [hn, q']; rfl) (.bool _)
    · have b2 : i = a.length := by omega
      subst b2
      simp only [WK, simprocAttr, S00, filV_len, b1]
      exact Fin.over ho hbel (.inr rfl) rfl rfl (by rw [hn, List.drop_length, e, List.drop_length]; rfl) (.bool _)
  · have e1 : ((a.length : Int) != (b.length : Int)) = true := by simp; omega
    simp only [WK, simprocAttr, c79, n79, S00, filV_len, e1]
    exact Fin.plain (.inr rfl) rfl rfl (by rw [numsEq_len e]; rfl)
def behV (l old : List Fil) : Bool := decide (old.length ≤ l.length) && numsEq (l.drop (l.length - old.length)) old
theorem k30 (l old : List Fil) (hl : l.length ≤ 26) (h : AHeap) : ACall PA 30 [.sl false (filV l), .sl false (filV old)] h (.bool (behV l old)) h := by
  refine ACall.ofG S00ok hmA h30 (by kernel_rfl) (Nat.le_of_ble_eq_true rfl) (Hstay.refl h) fun hbel => aS_den ?_
  by_cases e : (old.length : Int) ≤ (l.length : Int)
  · have w1 : IntKind.i64.wrap ((l.length : Int) - (old.length : Int)) = ((l.length - old.length : Nat) : Int) := by
      simp [IntKind.wrap, IntKind.bits, IntKind.signed]; omega
    have i0 : (0 : Int) ≤ ((l.length - old.length : Nat) : Int) := by omega
    have i1 : ((l.length - old.length : Nat) : Int) ≤ (l.length : Int) := by omega
    have t1 : (filV (l.drop (l.length - old.length))).take ((l.length : Int) - ((l.length - old.length : Nat) : Int)).toNat = filV (l.drop (l.length - old.length)) := by
      rw [List.take_of_length_le]
      rw [filV_len, List.length_drop]; omega
    simp only [WK, simprocAttr, c30, n30, S00, filV_len, e, w1, aslc, i0, i1, filV_w, filV_drop, Int.toNat_natCast, t1, Int.le_refl]
    refine ⟨_, _, k79 _ _ (by rw [List.length_drop]; omega) h, ?_⟩
    exact Fin.plain (.inr rfl) rfl rfl (by have : old.length ≤ l.length := by omega
                                           simp [behV, this]; rfl)
  · simp only [WK, simprocAttr, c30, n30, S00, filV_len, e]
    exact Fin.plain (.inr rfl) rfl rfl (by have : ¬ old.length ≤ l.length := by omega
                                           simp [behV, this]; rfl)
def behI (l old : List Fil) (h : AHeap) (m : Nat) (τ : AFr) (H : AHeap) : Prop :=
  ∃ i : Nat, i ≤ old.length ∧ m = old.length - i ∧ H = h ∧ behV l old = numsEq ((l.drop (l.length - old.length)).drop i) (old.drop i) ∧ τ = { n := 34, s := [(0, .sl false (filV l)), (1, .sl false (filV old)), (11, .sl false (filV old)), (12, .int .i64 old.length), (13, .int .i64 i)], dfr := [] }
theorem k31 (l old : List Fil) (hl : l.length ≤ 26) (ho : old.length ≤ 26) (h : AHeap) : ACall PA 31 [.sl false (filV l), .sl false (filV old)] h (.bool (behV l old)) h := by
  refine ACall.ofG S00ok hmA h31 (by kernel_rfl) (Nat.le_of_ble_eq_true rfl) (Hstay.refl h) fun hbel => aS_den ?_
  by_cases e : (old.length : Int) > (l.length : Int)
  · have e' : (l.length : Int) < (old.length : Int) := e
    simp only [WK, simprocAttr, c31, n31, S00, filV_len, gt_iff_lt, e']
    exact Fin.plain (.inr rfl) rfl rfl (by have : ¬ old.length ≤ l.length := by omega
                                           simp [behV, this]; rfl)
  · have e' : ¬ (l.length : Int) < (old.length : Int) := e
    have e2 : old.length ≤ l.length := by omega
    simp only [WK, simprocAttr, c31, n31, S00, filV_len, gt_iff_lt, e']
    refine x_loop (behI l old h) ⟨old.length, { n := 34, s := [(0, .sl false (filV l)), (1, .sl false (filV old)), (11, .sl false (filV old)), (12, .int .i64 old.length), (13, .int .i64 0)], dfr := [] }, ⟨0, by omega, by omega, rfl, by simp [behV, e2], rfl⟩, ⟨rfl, rfl, by simp [alook]⟩⟩ ?_
    rintro m τ H ⟨i, hi, rfl, rfl, hn, rfl⟩
    have i0 : (0 : Int) ≤ (i : Int) := by omega
    by_cases b1 : (i : Int) < (old.length : Int)
    · have hlt : i < old.length := by omega
      have hlt' : l.length - old.length + i < l.length := by omega
      have hx := filV_get hlt
      have hy := filV_get hlt'
      have w1 : IntKind.i64.wrap ((l.length : Int) - (old.length : Int)) = ((l.length - old.length : Nat) : Int) := by
        simp [IntKind.wrap, IntKind.bits, IntKind.signed]; omega
      have w2 : IntKind.i64.wrap ((i : Int) + 1) = ((i + 1 : Nat) : Int) := by
        simp [IntKind.wrap, IntKind.bits, IntKind.signed]; omega
      have w3 : IntKind.i64.wrap (((l.length - old.length : Nat) : Int) + (i : Int)) = ((l.length - old.length + i : Nat) : Int) := by
        simp [IntKind.wrap, IntKind.bits, IntKind.signed]; omega
      have i1 : (0 : Int) ≤ ((l.length - old.length + i : Nat) : Int) := by omega
      have hd : (l.drop (l.length - old.length))[i]'(by rw [List.length_drop]; omega) = l[l.length - old.length + i] := by rw [List.getElem_drop]
      rw [numsEq_drop (by rw [List.length_drop]; omega) hlt, hd] at hn
      by_cases q : (l[l.length - old.length + i].num == old[i].num) = true
      · have q' : (l[l.length - old.length + i].num != old[i].num) = false := by simp [bne, q]
        simp only [WK, simprocAttr, S00, filV_len, b1, i0, i1, hx, hy, w1, w2, w3, Int.toNat_natCast, q']
        exact ⟨_, _, by omega, ⟨i + 1, by omega, rfl, rfl, by rw [hn, q]; rfl, rfl⟩, ⟨rfl, rfl, by simp [alook]⟩⟩
      · have q0 : (l[l.length - old.length + i].num == old[i].num) = false := by simpa using q
        have q' : (l[l.length - old.length + i].num != old[i].num) = true := by simp [bne, q0]
        simp only [WK, simprocAttr, S00, filV_len, b1, i0, i1, hx, hy, w1, w2, w3, Int.toNat_natCast, q']
        exact Fin.plain (.inr rfl) rfl rfl (by rw [hn, q0]; rfl)
    · have b2 : i = old.length := by omega
      subst b2
      simp only [WK, simprocAttr, S00, filV_len, b1]
      exact Fin.plain (.inr rfl) rfl rfl (by
        rw [hn, List.drop_length, List.drop_of_length_le (by rw [List.length_drop]; omega)]; rfl)
end Go.Av

/- Contracts: a list in memory of its own. -/
set_option linter.unusedVariables false
set_option linter.unusedSimpArgs false
namespace Go.Av
open Go Go.Proofs
set_option maxRecDepth 100000
set_option maxHeartbeats 2000000
theorem set_app {H : AHeap} {id : Nat} (h : id < H.length) (X : AHeap) (o : AObj) : (H ++ X).set id o = H.set id o ++ X := by rw [List.set_append_left _ _ h]
theorem rowAt_lt {H : AHeap} {id v : Nat} {x : Nat × List AV} (e : rowAt H id v = some x) : id < H.length := by
  obtain ⟨sz, es⟩ := x
  exact getElem?_lt (rowAt_eq e)
theorem rowAt_set_ne {H : AHeap} {id j v : Nat} (o : AObj) (h : j ≠ id) : rowAt (H.set id o) j v = rowAt H j v := by
  unfold rowAt
  rw [List.getElem?_set_ne (Ne.symm h)]
theorem rowAt_set_eq {H : AHeap} {id v sz : Nat} {es : List AV} (h : id < H.length) : rowAt (H.set id (.row v sz es)) id v = some (sz, es) := by
  unfold rowAt
  rw [List.getElem?_set_self h]
  exact if_pos rfl
/-- A program in memory of its own. -/
def PRow (b : Nat) (H : AHeap) (p : AV) (prog : List AV) : Prop := (prog = [] ∧ p = .sl true []) ∨ (∃ id, b ≤ id ∧ p = .rf id 0 0 prog.length ∧ rowAt H id 0 = some (4, prog))
def OutQ (b : Nat) (H : AHeap) (out : AV) (d : List Fil) : Prop :=
  (d = [] ∧ out = .sl true []) ∨ (d ≠ [] ∧ ∃ id ver es, b ≤ id ∧ out = .rf id ver 0 d.length ∧ rowAt H id ver = some (2, es) ∧ es.length = d.length ∧ ∀ (j : Nat) (f : Fil), d[j]? = some f → ∃ p, es[j]? = some (.agg [.int .i64 f.num, p]) ∧ PRow b H p f.prog)
theorem PRow.app {b : Nat} {H : AHeap} {p : AV} {prog : List AV} (h : PRow b H p prog) (X : AHeap) : PRow b (H ++ X) p prog := by
  rcases h with h | ⟨id, h1, h2, h3⟩
  · exact .inl h
  · exact .inr ⟨id, h1, h2, rowAt_app h3 X⟩
theorem PRow.set {b : Nat} {H : AHeap} {p : AV} {prog : List AV} (h : PRow b H p prog) {id ver : Nat} {es : List AV} (hr : rowAt H id ver = some (2, es)) (o : AObj) : PRow b (H.set id o) p prog := by
  rcases h with h | ⟨j, h1, h2, h3⟩
  · exact .inl h
  · refine .inr ⟨j, h1, h2, ?_⟩
    rw [rowAt_set_ne]
    · exact h3
    · rintro rfl
      have e1 := rowAt_eq hr
      have e2 := rowAt_eq h3
      rw [e1] at e2
      cases e2
theorem PRow.fz {b : Nat} {H : AHeap} {p : AV} {prog : List AV} (h : PRow b H p prog) (hb : ∀ x ∈ prog, ∀ u ∈ x.cells, Bel b u) : Fz b H p (.sl false prog) := by
  rcases h with ⟨rfl, rfl⟩ | ⟨id, h1, rfl, h3⟩
  · exact .sl true false [] [] rfl (fun c => by cases c) (fun j x y hx => by simp at hx) (fun j u v hu => by simp [flat] at hu)
  · have e : (prog.drop 0).take prog.length = prog := by simp
    refine .rf id 0 0 prog.length 4 prog prog h1 h3 (by rw [e]) (fun j x y hx hy => ?_) (fun j u v hu hv => ?_)
    · rw [e, hy] at hx; cases hx; rfl
    · rw [e] at hu
      have huv : u = v := by rw [hu] at hv; exact Option.some.inj hv
      subst huv
      have := List.mem_of_getElem? hu
      rw [flat, List.mem_flatMap] at this
      obtain ⟨x, x1, x2⟩ := this
      exact .keep _ (hb x x1 u x2)
theorem OutQ.fz {b : Nat} {H : AHeap} {out : AV} {d : List Fil} (h : OutQ b H out d) (hb : ∀ f ∈ d, ∀ x ∈ f.prog, ∀ u ∈ x.cells, Bel b u) : Fz b H out (.sl false (filV d)) := by
  rcases h with ⟨rfl, rfl⟩ | ⟨_, id, ver, es, h1, rfl, h3, h4, h5⟩
  · exact .sl true false [] [] rfl (fun c => by cases c) (fun j x y hx => by simp at hx) (fun j u v hu => by simp [flat] at hu)
  · have e : (es.drop 0).take d.length = es := by rw [List.drop_zero, List.take_of_length_le (by omega)]
    have key : ∀ (j : Nat) (x y : AV), es[j]? = some x → (filV d)[j]? = some y → FzE b H x y := by
      intro j x y hx hy
      have hj : j < d.length := by have := getElem?_lt hx; omega
      obtain ⟨p, e1, e2⟩ := h5 j _ (List.getElem?_eq_getElem hj)
      rw [e1] at hx; cases hx
      rw [filV_get hj] at hy; cases hy
      refine ⟨rfl, fun i u v hu hv => ?_⟩
      match i, hu, hv with
      | 0, hu, hv => simp [AV.cells] at hu hv; subst hu hv; exact .keep _ (.int _ _)
      | 1, hu, hv => simp [AV.cells] at hu hv; subst hu hv; exact e2.fz (hb _ (List.getElem_mem hj))
      | i + 2, hu, hv => simp [AV.cells] at hu
    refine .rf id ver 0 d.length 2 es (filV d) h1 h3 (by rw [e, filV_len, h4]) (fun j x y hx hy => ?_) (fun j u v hu hv => ?_)
    · rw [e] at hx; exact (key j x y hx hy).1
    · rw [e] at hu; exact flat_fz (by rw [filV_len, h4]) key j u v hu hv
theorem okE_all {prog : List AV} (h : ∀ x ∈ prog, okE 4 x = true) : prog.all (okE 4) = true := List.all_eq_true.2 h
def lisI (l : List Fil) (a : AV) (h : AHeap) (m : Nat) (τ : AFr) (H : AHeap) : Prop :=
  ∃ (i : Nat) (out : AV), i ≤ l.length ∧ m = l.length - i ∧ Over h H ∧ OutQ h.length H out (l.take i) ∧ τ = { n := 23, s := [(3, out), (6, a), (7, .int .i64 l.length), (8, .int .i64 i)], dfr := [] }
theorem Over.len {h H : AHeap} (o : Over h H) : h.length ≤ H.length := by obtain ⟨g, rfl⟩ := o; simp
theorem Over.set {h H : AHeap} (o : Over h H) {id : Nat} (hid : h.length ≤ id) (x : AObj) : Over h (H.set id x) := by
  obtain ⟨g, rfl⟩ := o
  rw [List.set_append_right _ _ hid]
  exact ⟨_, rfl⟩
theorem OutQ.nil1 {b : Nat} {H : AHeap} {d : List Fil} (hd : d = []) (f : Fil) (p : AV) (X : AHeap) (k : Nat) (hb : b ≤ H.length) (hk : X[k]? = some (.row 0 2 [.agg [.int .i64 f.num, p]])) (hp : PRow b (H ++ X) p f.prog) : OutQ b (H ++ X) (.rf (H.length + k) 0 0 1) (d ++ [f]) := by
  subst hd
  refine .inr ⟨by simp, H.length + k, 0, [.agg [.int .i64 f.num, p]], by omega, rfl, ?_, rfl, fun j g hj => ?_⟩
  · rw [rowAtk]; simp [rowAt, hk]
  · cases j with
    | zero => simp at hj; subst hj; exact ⟨p, rfl, hp⟩
    | succ j => simp at hj
theorem OutQ.more {b : Nat} {H : AHeap} {d : List Fil} {oid over : Nat} {es : List AV} (q1 : b ≤ oid) (q3 : rowAt H oid over = some (2, es)) (q4 : es.length = d.length) (q5 : ∀ (j : Nat) (f : Fil), d[j]? = some f → ∃ p, es[j]? = some (.agg [.int .i64 f.num, p]) ∧ PRow b H p f.prog)
    (f : Fil) (p : AV) (X : AHeap) (hp : PRow b (H ++ X) p f.prog) : OutQ b (H.set oid (.row (over + 1) 2 (es ++ [.agg [.int .i64 f.num, p]])) ++ X) (.rf oid (over + 1) 0 (d.length + 1)) (d ++ [f]) := by
  have hlt := rowAt_lt q3
  have hs : H.set oid (.row (over + 1) 2 (es ++ [.agg [.int .i64 f.num, p]])) ++ X = (H ++ X).set oid (.row (over + 1) 2 (es ++ [.agg [.int .i64 f.num, p]])) := (set_app hlt X _).symm
  refine .inr ⟨by simp, oid, over + 1, es ++ [.agg [.int .i64 f.num, p]], q1, by simp, ?_, by simp [q4], fun j g hj => ?_⟩
  · exact rowAt_app (rowAt_set_eq hlt) X
  · rw [hs]
    rcases Nat.lt_or_ge j d.length with c | c
    · rw [List.getElem?_append_left c] at hj
      obtain ⟨p', e1, e2⟩ := q5 j g hj
      refine ⟨p', by rw [List.getElem?_append_left (by omega)]; exact e1, ?_⟩
      exact (e2.app X).set (rowAt_app q3 X) _
    · have : j = d.length := by have := getElem?_lt hj; simp at this; omega
      subst this
      rw [List.getElem?_append_right (Nat.le_refl _), Nat.sub_self] at hj
      simp at hj
      subst hj
      refine ⟨p, by rw [List.getElem?_append_right (by omega), q4, Nat.sub_self]; rfl, ?_⟩
      exact hp.set (rowAt_app q3 X) _
theorem k69 (l : List Fil) (hl : l.length ≤ 26) (hok : ∀ f ∈ l, f.OK ∧ f.prog.length ≤ 65) (id ver : Nat) (h : AHeap) (hr : rowAt h id ver = some (2, filV l)) : ACall PA 69 [.rf id ver 0 l.length] h (.sl false (filV l)) h := by
  refine ACall.ofG S00ok hmA h69 (by kernel_rfl) (Nat.le_of_ble_eq_true rfl) (Hstay.refl h) fun hbel => aS_den ?_
  have hg0 := rowAt_eq hr
  simp only [WK, simprocAttr, c69, n69, S00, hg0]
  refine x_loop (lisI l (.rf id ver 0 l.length) h) ⟨l.length, { n := 23, s := [(3, .sl true []), (6, .rf id ver 0 l.length), (7, .int .i64 l.length), (8, .int .i64 0)], dfr := [] }, ⟨0, .sl true [], by omega, by omega, Over.refl h, .inl ⟨rfl, rfl⟩, rfl⟩, ⟨rfl, rfl, by simp [alook]⟩⟩ ?_
  rintro m τ H ⟨i, out, hi, rfl, ho, hq, rfl⟩
  have i0 : (0 : Int) ≤ (i : Int) := by omega
  by_cases b1 : (i : Int) < (l.length : Int)
  · have hlt : i < l.length := by omega
    have hx := filV_get hlt
    obtain ⟨hfo, hp⟩ := hok _ (List.getElem_mem hlt)
    have w2 : IntKind.i64.wrap ((i : Int) + 1) = ((i + 1 : Nat) : Int) := by
      simp [IntKind.wrap, IntKind.bits, IntKind.signed]; omega
    have hrH : rowAt H id ver = some (2, filV l) := by obtain ⟨g, rfl⟩ := ho; exact rowAt_app hr g
    have hgX : ∀ X, (H ++ X)[id]? = some (.row ver 2 (filV l)) := fun X => rowAt_eq (rowAt_app hrH X)
    have hgH := rowAt_eq hrH
    have ok4 := okE_all hfo.prog
    have p1 : l[i].prog.length * 8 ≤ 140737488355328 := by omega
    have ht : l.take (i + 1) = l.take i ++ [l[i]] := by rw [List.take_add_one, List.getElem?_eq_getElem hlt]; rfl
    have hti : (l.take i).length = i := by rw [List.length_take]; omega
    have hH := ho.len
    by_cases hpn : l[i].prog = []
    · rcases hq with ⟨hd, rfl⟩ | ⟨hd, oid, over, es, q1, rfl, q3, q4, q5⟩
      · simp only [WK, simprocAttr, S00, b1, i0, hx, hgH, hgX, hlt, w2, Int.toNat_natCast, hpn, appR, most, ok4, p1, Nat.zero_add, get0, getk, set0, setk, List.append_assoc]
        exact ⟨_, _, by omega, ⟨i + 1, _, by omega, rfl, ho.app _, by rw [ht]; exact OutQ.nil1 hd l[i] (.sl true []) _ 1 hH rfl (.inl ⟨hpn, rfl⟩), rfl⟩, ⟨rfl, rfl, by simp [alook]⟩⟩
      · have u1 : ∀ X, (H ++ X)[oid]? = some (.row over 2 es) := fun X => rowAt_eq (rowAt_app q3 X)
        have u2 := rowAt_eq q3
        have u3 : i ≤ es.length := by omega
        have u4 : (i + 1) * 32 ≤ 140737488355328 := by omega
        have u5 : es.take i = es := List.take_of_length_le (by omega)
        have hso := fun X o => set_app (rowAt_lt q3) X o
        simp only [WK, simprocAttr, S00, b1, i0, hx, hgH, hgX, hlt, w2, Int.toNat_natCast, hpn, appR, most, ok4, p1, Nat.zero_add, get0, getk, set0, setk, List.append_assoc, u1, u2, hti, u3, u4, u5, hso]
        refine ⟨_, _, by omega, ⟨i + 1, .rf oid (over + 1) 0 (i + 1), by omega, rfl, (ho.set q1 _).app _, ?_, rfl⟩, ⟨rfl, rfl, by simp [alook]⟩⟩
        have := OutQ.more q1 q3 q4 q5 l[i] (.sl true []) [.row 0 2 [.agg [.int .i64 l[i].num, .sl true []]]] (.inl ⟨hpn, rfl⟩)
        rw [hti] at this
        rw [ht]
        exact this
    · rcases hq with ⟨hd, rfl⟩ | ⟨hd, oid, over, es, q1, rfl, q3, q4, q5⟩
      · simp only [WK, simprocAttr, S00, b1, i0, hx, hgH, hgX, hlt, w2, Int.toNat_natCast, hpn, appR, most, ok4, p1, Nat.zero_add, get0, getk, set0, setk, List.append_assoc, List.nil_append, List.length_append, List.length_cons, List.length_nil]
        have hpr : ∀ x, PRow h.length (H ++ [x, .row 0 4 l[i].prog, .row 0 2 [.agg [.int .i64 l[i].num, .rf (H.length + 1) 0 0 l[i].prog.length]]]) (.rf (H.length + 1) 0 0 l[i].prog.length) l[i].prog := fun x => .inr ⟨H.length + 1, by omega, rfl, by rw [rowAtk]; rfl⟩
        exact ⟨_, _, by omega, ⟨i + 1, .rf (H.length + 2) 0 0 1, by omega, rfl, ho.app _, by rw [ht]; exact OutQ.nil1 hd l[i] _ _ 2 hH rfl (hpr _), rfl⟩, ⟨rfl, rfl, by simp [alook]⟩⟩
      · have u1 : ∀ X, (H ++ X)[oid]? = some (.row over 2 es) := fun X => rowAt_eq (rowAt_app q3 X)
        have u2 := rowAt_eq q3
        have u3 : i ≤ es.length := by omega
        have u4 : (i + 1) * 32 ≤ 140737488355328 := by omega
        have u5 : es.take i = es := List.take_of_length_le (by omega)
        have hso := fun X o => set_app (rowAt_lt q3) X o
        simp only [WK, simprocAttr, S00, b1, i0, hx, hgH, hgX, hlt, w2, Int.toNat_natCast, hpn, appR, most, ok4, p1, Nat.zero_add, get0, getk, set0, setk, List.append_assoc, u1, u2, hti, u3, u4, u5, hso, List.nil_append, List.length_append, List.length_cons, List.length_nil]
        refine ⟨_, _, by omega, ⟨i + 1, .rf oid (over + 1) 0 (i + 1), by omega, rfl, (ho.set q1 _).app _, ?_, rfl⟩, ⟨rfl, rfl, by simp [alook]⟩⟩
        have := OutQ.more q1 q3 q4 q5 l[i] (.rf (H.length + 1) 0 0 l[i].prog.length) [.row 0 2 [.agg [.int .i64 l[i].num, .rf (H.length + 1) 0 0 l[i].prog.length]], .row 0 4 l[i].prog] (.inr ⟨H.length + 1, by omega, rfl, by rw [rowAtk]; rfl⟩)
        rw [hti] at this
        rw [ht]
        exact this
  · have b2 : i = l.length := by omega
    subst b2
    rw [List.take_length] at hq
    simp only [WK, simprocAttr, S00, b1]
    obtain ⟨g, rfl⟩ := ho
    exact Fin.fz hbel (.inr rfl) rfl rfl (hq.fz fun f hf x hx u hu => (hok f hf).1.bel _ x hx u hu)
end Go.Av

/- Contracts: few filters; the statement's own function. -/
set_option linter.unusedVariables false
set_option linter.unusedSimpArgs false
namespace Go.Av
open Go Go.Proofs
set_option maxRecDepth 100000
set_option maxHeartbeats 2000000
theorem k69n (h : AHeap) : ACall PA 69 [.sl true []] h (.sl false (filV [])) h := by
  refine ACall.ofG S00ok hmA h69 (by kernel_rfl) (Nat.le_of_ble_eq_true rfl) (Hstay.refl h) fun hbel => aS_den ?_
  simp only [WK, simprocAttr, c69, n69, S00, List.length_nil]
  refine x_loop (fun _ τ H => H = h ∧ τ = { n := 23, s := [(3, .sl true []), (6, .sl true []), (7, .int .i64 0), (8, .int .i64 0)], dfr := [] }) ⟨0, { n := 23, s := [(3, .sl true []), (6, .sl true []), (7, .int .i64 0), (8, .int .i64 0)], dfr := [] }, ⟨rfl, rfl⟩, ⟨rfl, rfl, by simp [alook]⟩⟩ ?_
  rintro m τ H ⟨rfl, rfl⟩
  simp only [WK, simprocAttr, S00]
  have := Fin.fz (P := PA) (h := H) (l := []) (rs := r69) (r := .sl false (filV [])) (j := .ret) (τ := { n := 23, s := [(2, .sl true []), (22, .sl true []), (9, .bool false), (3, .sl true []), (6, .sl true []), (7, .int .i64 0), (8, .int .i64 0)], dfr := [] }) (xs := [.sl true []]) hbel (.inr rfl) rfl rfl
    (.sl true false [] [] rfl (fun c => by cases c) (fun j x y hx => by simp at hx) (fun j u v hu => by simp [flat] at hu))
  rw [List.append_nil] at this
  exact this
def clip (f : Fil) : Fil := ⟨f.num, f.prog.take 65⟩
def fewL (l : List Fil) : List Fil := (l.take 26).map clip
def OutF (b : Nat) (H : AHeap) (out : AV) (d : List Fil) : Prop :=
  (d = [] ∧ out = .sl true []) ∨ (d ≠ [] ∧ ∃ id ver, b ≤ id ∧ out = .rf id ver 0 d.length ∧ rowAt H id ver = some (2, filV d))
theorem OutF.app {b : Nat} {H : AHeap} {out : AV} {d : List Fil} (h : OutF b H out d) (X : AHeap) : OutF b (H ++ X) out d := by
  rcases h with h | ⟨h0, id, ver, h1, h2, h3⟩
  · exact .inl h
  · exact .inr ⟨h0, id, ver, h1, h2, rowAt_app h3 X⟩
def fewI (l : List Fil) (t : Bool) (h : AHeap) (m : Nat) (τ : AFr) (H : AHeap) : Prop :=
  ∃ (i : Nat) (out : AV), i ≤ l.length ∧ m = l.length - i ∧ Over h H ∧ OutF h.length H out (fewL (l.take i)) ∧ τ = { n := 30, s := [(3, out), (6, .sl t (filV l)), (7, .int .i64 l.length), (8, .int .i64 i)], dfr := [] }
theorem fewL_sm (l : List Fil) : FSm (fewL l) := by
  refine ⟨by simp only [fewL, List.length_map, List.length_take]; omega, fun f hf => ?_⟩
  obtain ⟨g, _, rfl⟩ := List.mem_map.1 hf
  simp only [clip, List.length_take]; omega
theorem clip_ok {f : Fil} (h : f.OK) : (clip f).OK := ⟨h.num, fun x hx => h.prog x (List.mem_of_mem_take hx), by
  have := h.len
  simp only [clip, List.length_take]; omega, fun n x hx => h.bel n x (List.mem_of_mem_take hx)⟩
theorem fewL_ok {l : List Fil} (h : ∀ f ∈ l, f.OK) : ∀ f ∈ fewL l, f.OK ∧ f.prog.length ≤ 65 := by
  intro f hf
  refine ⟨?_, (fewL_sm l).prog f hf⟩
  obtain ⟨g, hg, rfl⟩ := List.mem_map.1 hf
  exact clip_ok (h g (List.mem_of_mem_take hg))
theorem fewL_next {l : List Fil} {i : Nat} (h : i < l.length) (h26 : i < 26) : fewL (l.take (i + 1)) = fewL (l.take i) ++ [clip l[i]] := by
  simp only [fewL]
  rw [List.take_of_length_le (by rw [List.length_take]; omega), List.take_of_length_le (l := l.take i) (by rw [List.length_take]; omega), List.take_add_one, List.getElem?_eq_getElem h, List.map_append]
  rfl
theorem fewL_stop {l : List Fil} {i : Nat} (h26 : ¬ i < 26) : fewL (l.take (i + 1)) = fewL (l.take i) := by
  simp only [fewL, List.take_take]
  rw [Nat.min_eq_left (by omega), Nat.min_eq_left (by omega)]
theorem fewL_len {l : List Fil} {i : Nat} (h : i ≤ l.length) (h26 : i < 26) : (fewL (l.take i)).length = i := by
  simp only [fewL, List.length_map, List.length_take]; omega
theorem filV_ok2 (l : List Fil) : (filV l).all (okE 2) = true := by
  rw [List.all_eq_true]
  intro x hx
  obtain ⟨y, _, rfl⟩ := List.mem_map.1 hx
  rfl
theorem w4 {prog : List AV} (h : ∀ x ∈ prog, okE 4 x = true) : prog.all (fun x => x.cells.length == 4) = true := by
  rw [List.all_eq_true]
  intro x hx
  have := h x hx
  simp only [okE, Bool.and_eq_true] at this
  exact this.1
theorem OutF.nil1 {b : Nat} {H : AHeap} {d : List Fil} (hd : d = []) (f : Fil) (X : AHeap) (k : Nat) (hb : b ≤ H.length) (hk : X[k]? = some (.row 0 2 [f.av])) : OutF b (H ++ X) (.rf (H.length + k) 0 0 1) (d ++ [f]) := by
  subst hd
  refine .inr ⟨by simp, H.length + k, 0, by omega, rfl, ?_⟩
  rw [rowAtk]; simp [rowAt, hk, filV]
theorem OutF.more {b : Nat} {H : AHeap} {d : List Fil} {oid over : Nat} (q1 : b ≤ oid) (q3 : rowAt H oid over = some (2, filV d)) (f : Fil) (X : AHeap) : OutF b (H.set oid (.row (over + 1) 2 (filV d ++ [f.av])) ++ X) (.rf oid (over + 1) 0 (d.length + 1)) (d ++ [f]) := by
  refine .inr ⟨by simp, oid, over + 1, q1, by simp, ?_⟩
  have : filV (d ++ [f]) = filV d ++ [f.av] := by simp [filV]
  rw [this]
  exact rowAt_app (rowAt_set_eq (rowAt_lt q3)) X
theorem k24 (t : Bool) (l : List Fil) (hl : l.length ≤ maxLen) (hok : ∀ f ∈ l, f.OK) (h : AHeap) : ACall PA 24 [.sl t (filV l)] h (.sl false (filV (fewL l))) h := by
  refine ACall.ofG S00ok hmA h24 (by kernel_rfl) (Nat.le_of_ble_eq_true rfl) (Hstay.refl h) fun hbel => aS_den ?_
  have hl' : l.length ≤ 9223372036854775807 := hl
  simp only [WK, simprocAttr, c24, n24, S00, filV_len]
  refine x_loop (fewI l t h) ⟨l.length, { n := 30, s := [(3, .sl true []), (6, .sl t (filV l)), (7, .int .i64 l.length), (8, .int .i64 0)], dfr := [] }, ⟨0, .sl true [], by omega, by omega, Over.refl h, .inl ⟨rfl, rfl⟩, rfl⟩, ⟨rfl, rfl, by simp [alook]⟩⟩ ?_
  rintro m τ H ⟨i, out, hi, rfl, ho, hq, rfl⟩
  have i0 : (0 : Int) ≤ (i : Int) := by omega
  by_cases b1 : (i : Int) < (l.length : Int)
  · have hlt : i < l.length := by omega
    have hx := filV_get hlt
    have hfo := hok _ (List.getElem_mem hlt)
    have w2 : IntKind.i64.wrap ((i : Int) + 1) = ((i + 1 : Nat) : Int) := by
      simp [IntKind.wrap, IntKind.bits, IntKind.signed]; omega
    have hH := ho.len
    by_cases c26 : (i : Int) < 26
    · have h26 : i < 26 := by omega
      have ht := fewL_next hlt h26
      have hti := fewL_len (l := l) hi h26
      have ok4 := w4 hfo.prog
      have j0 : (0 : Int) ≤ (l[i].prog.length : Int) := by omega
      have hcl : (AV.agg [.int .i64 l[i].num, .sl false (l[i].prog.take 65)]) = (clip l[i]).av := rfl
      by_cases c65 : (65 : Int) < (l[i].prog.length : Int)
      · have j1 : (65 : Int) ≤ (l[i].prog.length : Int) := by omega
        rcases hq with ⟨hd, rfl⟩ | ⟨hd, oid, over, q1, rfl, q3⟩
        · simp only [WK, simprocAttr, S00, b1, i0, hx, w2, Int.toNat_natCast, c26, c65, j0, j1, aslc, filV_len, ok4, appR, most, Nat.zero_add, get0, getk, set0, setk, List.append_assoc, List.drop_zero, Int.sub_zero, List.nil_append, Int.le_refl, Nat.le_refl, Bool.false_and]
          exact ⟨_, _, by omega, ⟨i + 1, .rf (H.length + 1) 0 0 1, by omega, rfl, ho.app _, by rw [ht]; exact OutF.nil1 hd (clip l[i]) _ 1 hH rfl, rfl⟩, ⟨rfl, rfl, by simp [alook]⟩⟩
        · have u1 : ∀ X, (H ++ X)[oid]? = some (.row over 2 (filV (fewL (l.take i)))) := fun X => rowAt_eq (rowAt_app q3 X)
          have u3 : i ≤ (filV (fewL (l.take i))).length := by rw [filV_len]; omega
          have u4 : (i + 1) * 32 ≤ 140737488355328 := by omega
          have u5 : (filV (fewL (l.take i))).take i = filV (fewL (l.take i)) := List.take_of_length_le (by rw [filV_len]; omega)
          have hso := fun X o => set_app (rowAt_lt q3) X o
          simp only [WK, simprocAttr, S00, b1, i0, hx, w2, Int.toNat_natCast, c26, c65, j0, j1, aslc, filV_len, ok4, appR, most, Nat.zero_add, get0, getk, set0, setk, List.append_assoc, List.drop_zero, Int.sub_zero, List.nil_append, Int.le_refl, Nat.le_refl, Bool.false_and, u1, hti, u3, u4, u5, hso]
          refine ⟨_, _, by omega, ⟨i + 1, .rf oid (over + 1) 0 (i + 1), by omega, rfl, (ho.set q1 _).app _, ?_, rfl⟩, ⟨rfl, rfl, by simp [alook]⟩⟩
          have := OutF.more q1 q3 (clip l[i]) [.row 0 2 [(clip l[i]).av]]
          rw [hti] at this
          rw [ht]
          exact this
      · have j1 : True := trivial
        have t65 : l[i].prog.take l[i].prog.length = l[i].prog.take 65 := by rw [List.take_length, List.take_of_length_le (by omega)]
        rcases hq with ⟨hd, rfl⟩ | ⟨hd, oid, over, q1, rfl, q3⟩
        · simp only [WK, simprocAttr, S00, b1, i0, hx, w2, Int.toNat_natCast, c26, c65, j0, aslc, filV_len, ok4, appR, most, Nat.zero_add, get0, getk, set0, setk, List.append_assoc, List.drop_zero, Int.sub_zero, List.nil_append, Int.le_refl, Nat.le_refl, Bool.false_and, t65]
          exact ⟨_, _, by omega, ⟨i + 1, .rf (H.length + 1) 0 0 1, by omega, rfl, ho.app _, by rw [ht]; exact OutF.nil1 hd (clip l[i]) _ 1 hH rfl, rfl⟩, ⟨rfl, rfl, by simp [alook]⟩⟩
        · have u1 : ∀ X, (H ++ X)[oid]? = some (.row over 2 (filV (fewL (l.take i)))) := fun X => rowAt_eq (rowAt_app q3 X)
          have u3 : i ≤ (filV (fewL (l.take i))).length := by rw [filV_len]; omega
          have u4 : (i + 1) * 32 ≤ 140737488355328 := by omega
          have u5 : (filV (fewL (l.take i))).take i = filV (fewL (l.take i)) := List.take_of_length_le (by rw [filV_len]; omega)
          have hso := fun X o => set_app (rowAt_lt q3) X o
          simp only [WK, simprocAttr, S00, b1, i0, hx, w2, Int.toNat_natCast, c26, c65, j0, aslc, filV_len, ok4, appR, most, Nat.zero_add, get0, getk, set0, setk, List.append_assoc, List.drop_zero, Int.sub_zero, List.nil_append, Int.le_refl, Nat.le_refl, Bool.false_and, t65, u1, hti, u3, u4, u5, hso]
          refine ⟨_, _, by omega, ⟨i + 1, .rf oid (over + 1) 0 (i + 1), by omega, rfl, (ho.set q1 _).app _, ?_, rfl⟩, ⟨rfl, rfl, by simp [alook]⟩⟩
          have := OutF.more q1 q3 (clip l[i]) [.row 0 2 [(clip l[i]).av]]
          rw [hti] at this
          rw [ht]
          exact this
    · have h26 : ¬ i < 26 := by omega
      simp only [WK, simprocAttr, S00, b1, i0, hx, w2, Int.toNat_natCast, c26]
      exact ⟨_, _, by omega, ⟨i + 1, out, by omega, rfl, ho.app _, by rw [fewL_stop h26]; exact hq.app _, rfl⟩, ⟨rfl, rfl, by simp [alook]⟩⟩
  · have b2 : i = l.length := by omega
    subst b2
    rw [List.take_length] at hq
    have hbl : Bel h.length (.sl false (filV (fewL l))) := by
      rw [bel_sl]
      intro x hx u hu
      obtain ⟨f, hf, rfl⟩ := List.mem_map.1 hx
      simp only [Fil.av, AV.cells, List.mem_cons, List.not_mem_nil, or_false] at hu
      rcases hu with rfl | rfl
      · exact .int _ _
      · rw [bel_sl]; exact (fewL_ok hok f hf).1.bel _
    rcases hq with ⟨hd, rfl⟩ | ⟨hd, oid, over, q1, rfl, q3⟩
    · simp only [WK, simprocAttr, S00, b1]
      refine ⟨_, _, k69n H, ?_⟩
      rw [hd]
      rw [hd] at hbl
      exact Fin.over ho hbel (.inr rfl) rfl rfl rfl hbl
    · simp only [WK, simprocAttr, S00, b1]
      exact ⟨_, _, k69 (fewL l) (fewL_sm l).len (fewL_ok hok) oid over H q3, Fin.over ho hbel (.inr rfl) rfl rfl rfl hbl⟩
theorem k7 (t t' : Bool) (a b : List Fil) (ha : a.length ≤ maxLen) (hb : b.length ≤ maxLen) (oa : ∀ f ∈ a, f.OK) (ob : ∀ f ∈ b, f.OK) : ACall PA 7 [.sl t (filV a), .sl t' (filV b)] [] (.bool true) [] := by
  refine ACall.ofG S00ok hmA h7 (by kernel_rfl) (Nat.le_of_ble_eq_true rfl) (Hstay.refl []) fun hbel => aS_den ?_
  simp only [WK, simprocAttr, c7, n7, S00]
  refine ⟨_, _, k21, ?_⟩
  try simp only [WK, simprocAttr, S00]
  refine ⟨_, _, k24 t a ha oa [], ?_⟩
  try simp only [WK, simprocAttr, S00]
  refine ⟨_, _, k24 t' b hb ob [], ?_⟩
  try simp only [WK, simprocAttr, S00]
  refine ⟨_, _, k28 _ (fewL_sm a) [], ?_⟩
  try simp only [WK, simprocAttr, S00]
  refine ⟨_, _, k29 _ (fewL_sm a) [], ?_⟩
  try simp only [WK, simprocAttr, S00, beq_self_eq_true]
  refine ⟨_, _, k30 _ _ (fewL_sm a).len [], ?_⟩
  try simp only [WK, simprocAttr, S00]
  refine ⟨_, _, k31 _ _ (fewL_sm a).len (fewL_sm b).len [], ?_⟩
  try simp only [WK, simprocAttr, S00, beq_self_eq_true]
  refine ⟨_, _, k30 _ _ (fewL_sm b).len [], ?_⟩
  try simp only [WK, simprocAttr, S00]
  refine ⟨_, _, k31 _ _ (fewL_sm b).len (fewL_sm a).len [], ?_⟩
  try simp only [WK, simprocAttr, S00, beq_self_eq_true]
  exact Fin.plain (.inr rfl) rfl rfl rfl
end Go.Av
