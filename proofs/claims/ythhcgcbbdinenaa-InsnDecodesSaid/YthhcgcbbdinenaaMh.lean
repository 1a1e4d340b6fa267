/- Arguments of every kind opened; a statement's frame. -/
import Derived.Test.YthhcgcbbdinenaaMe
import Derived.Test.YthhcgcbbdinenaaMd
set_option linter.unusedVariables false
set_option linter.unusedSimpArgs false
set_option maxRecDepth 100000
namespace Go.Av
open Go Go.Proofs Go.ChangeShapes Go.WideShapes Go.ChangeAt Go.RowKit
section
variable {H : Type} {enc : TypeId × Value → H} {ρ : Nat → Nat} {w : World} {sp : Nat → Bool} {held : Bool} {P : Program}
theorem open_int {fuel : Nat} {t : TypeId} {k : IntKind} (ht : P.underlying t = some (.int k)) {cs : List Value} {x : DataW H × List MemPlace} (h : DataW.trod enc P w 0 sp held fuel t cs = some x) : ∃ n, cs = [.int k n] ∧ (Lit.int k n).wf = true := by
  cases fuel with
  | zero => simp [DataW.trod] at h
  | succ fuel => rw [DataW.trod_step] at h; exact open_i ht h
theorem open_bl {fuel : Nat} {t : TypeId} (ht : P.underlying t = some .bool) {cs : List Value} {x : DataW H × List MemPlace} (h : DataW.trod enc P w 0 sp held fuel t cs = some x) : ∃ b, cs = [.bool b] := by
  cases fuel with
  | zero => simp [DataW.trod] at h
  | succ fuel =>
    rw [DataW.trod_step] at h
    unfold DataW.trodStep at h
    rw [ht] at h
    split at h
    all_goals first | (rename_i heq; cases heq; done) | (rename_i heq _; cases heq; done) | (cases h; done) | exact ⟨_, rfl⟩
theorem open_st {fuel : Nat} {t : TypeId} (ht : P.underlying t = some .string) {cs : List Value} {x : DataW H × List MemPlace} (h : DataW.trod enc P w 0 sp held fuel t cs = some x) : ∃ b, cs = [.string b] := by
  cases fuel with
  | zero => simp [DataW.trod] at h
  | succ fuel =>
    rw [DataW.trod_step] at h
    unfold DataW.trodStep at h
    rw [ht] at h
    split at h
    all_goals first | (rename_i heq; cases heq; done) | (rename_i heq _; cases heq; done) | (cases h; done) | exact ⟨_, rfl⟩
/-- A slice of things of one cell. -/
theorem open_list {α : Type} {f : α → AV} {p : α → Prop} {fuel : Nat} {t e : TypeId} {n : Nat} (ht : P.underlying t = some (.slice e)) (hn : P.cellsOf e = n) (hn0 : 0 < n) (hf : ∀ u, (f u).cells.length = n)
    (hr : ∀ fuel cs x, DataW.trod enc P w 0 sp held fuel e cs = some x → ∃ u, VRs ρ [] w (f u).cells cs ∧ p u) {cs : List Value} {x : DataW H × List MemPlace} (h : DataW.trod enc P w 0 sp held fuel t cs = some x) : ∃ (v : Value) (us : List α), cs = [v] ∧ VR ρ [] w (.sl false (us.map f)) v ∧ ∀ u ∈ us, p u := by
  cases fuel with
  | zero => simp [DataW.trod] at h
  | succ fuel =>
    rw [DataW.trod_step] at h
    exact open_sl ht hn hn0 hf (fun cs x h => hr fuel cs x h) h
end
theorem one_of {v x : Value} (hna : ∀ cs, v ≠ .agg cs) {l : List Value} (hl : v.cells.toList = l) (h : l = [x]) : v = x := by
  have : v.cells = #[v] := by cases v <;> first | rfl | exact absurd rfl (hna _)
  rw [this] at hl
  rw [h] at hl
  simpa using hl
theorem agg_of {v : Value} {n : Nat} (h : v.cells.toList.length = n) (hn : n ≠ 1) : v = .agg v.cells := by
  cases v <;> first | rfl | (exfalso; apply hn; rw [← h]; rfl)
theorem VRs.agg {ρ : Nat → Nat} {h : AHeap} {w : World} {cs : List AV} {vals : Array Value} (hv : VRs ρ h w cs vals.toList) : VR ρ h w (.agg cs) (.agg vals) :=
  .agg cs vals (by have := hv.1; simpa using this.symm) fun j u hj => by
    have := hv.2 j u hj
    simpa [List.getD, Array.getD_eq_getD_getElem?] using this
theorem not_agg_sl {P : Program} {w : World} {t e : TypeId} {v : Value} {b : Nat} (hu : P.underlying t = some (.slice e)) (h : Value.okWide P w .any b t v) : ∀ cs, v ≠ .agg cs := by
  rintro cs rfl; simp [Value.okWide, hu, Cell.okWide, Cell.ok] at h
theorem not_agg_int {P : Program} {w : World} {t : TypeId} {k : IntKind} {v : Value} {b : Nat} (hu : P.underlying t = some (.int k)) (h : Value.okWide P w .any b t v) : ∀ cs, v ≠ .agg cs := by
  rintro cs rfl; simp [Value.okWide, hu, Cell.okWide, Cell.ok] at h
theorem below_of {ρ ρ' : Nat → Nat} {w w' : World} (s : Step ρ [] w ρ' [] w') : Below w.heap.size w w' :=
  ⟨s.os, s.tape, s.output, s.size, fun k hk => (s.free k ⟨hk, fun ⟨i, o, hi, _⟩ => by simp at hi⟩).1⟩
theorem walk_of {P : Program} {f : FuncId} {xs : List AV} (k : ACall P f xs [] (.bool true) []) {ρ : Nat → Nat} {w : World} {vs : List Value} (hv : VRs ρ [] w xs vs) :
    Calls P f vs.toArray w fun e w' => e = .returned (.bool true) ∧ Below w.heap.size w w' := by
  refine callsIn_wide.1 (CallsIn.mono (k.run ρ w vs HR.nil hv) fun e w' h => ?_)
  obtain ⟨v', ρ', rfl, h1, h2, h3⟩ := h
  cases h1
  exact ⟨rfl, below_of h3⟩
theorem VRs.cons {ρ : Nat → Nat} {h : AHeap} {w : World} {x : AV} {xs : List AV} {v : Value} {vs : List Value} (a : VR ρ h w x v) (b : VRs ρ h w xs vs) : VRs ρ h w (x :: xs) (v :: vs) :=
  VRs.append (VRs.one a) b
theorem VRs.nil {ρ : Nat → Nat} {h : AHeap} {w : World} : VRs ρ h w [] [] := ⟨rfl, by simp⟩
end Go.Av

/- CheckFirst: what may not stand somewhere is told there. -/
namespace Go.Av
open Go Go.Proofs
set_option maxRecDepth 100000
set_option maxHeartbeats 2000000
/-! ### The plain law -/
theorem fb_none {n : Int} : ∀ {l : List In} {i : Nat}, fb n i l = none ↔ ∀ (j : Nat) (x : In), l[j]? = some x → oneK x.c x.a x.b x.k ((i + j : Nat) : Int) n = 0
  | [], i => by simp [fb]
  | y :: r, i => by
    unfold fb
    by_cases h : oneK y.c y.a y.b y.k i n = 0
    · rw [if_pos h, fb_none (l := r)]
      constructor
      · intro H j x hj
        cases j with
        | zero => simp at hj; subst hj; exact h
        | succ j => have := H j x (by simpa using hj); rw [show i + 1 + j = i + (j + 1) by omega] at this; exact this
      · intro H j x hj
        have := H (j + 1) x (by simpa using hj)
        rw [show i + (j + 1) = i + 1 + j by omega] at this; exact this
    · rw [if_neg h]
      refine ⟨fun c => (by cases c), fun H => absurd (H 0 y rfl) h⟩
theorem fb_first {n : Int} : ∀ {l : List In} {i k : Nat} {x : In}, l[k]? = some x → (∀ (j : Nat) (y : In), j < k → l[j]? = some y → oneK y.c y.a y.b y.k ((i + j : Nat) : Int) n = 0) → oneK x.c x.a x.b x.k ((i + k : Nat) : Int) n ≠ 0 → fb n i l = some (((i + k : Nat) : Int), oneK x.c x.a x.b x.k ((i + k : Nat) : Int) n)
  | [], i, k, x, h, _, _ => by simp at h
  | y :: r, i, 0, x, h, _, h2 => by
    simp at h; subst h
    unfold fb
    rw [if_neg (by simpa using h2)]; rfl
  | y :: r, i, k + 1, x, h, h1, h2 => by
    unfold fb
    rw [if_pos (by have := h1 0 y (by omega) rfl; simpa using this)]
    have := fb_first (n := n) (l := r) (i := i + 1) (k := k) (x := x) (by simpa using h) (fun j z hj hz => by
      have := h1 (j + 1) z (by omega) (by simpa using hz)
      rw [show i + (j + 1) = i + 1 + j by omega] at this; exact this) (by rw [show i + 1 + k = i + (k + 1) by omega]; exact h2)
    rw [this, show i + 1 + k = i + (k + 1) by omega]
theorem fb_nz {n : Int} : ∀ {l : List In} {i : Nat} {p : Int × Int}, fb n i l = some p → p.2 ≠ 0
  | [], i, p, h => by simp [fb] at h
  | y :: r, i, p, h => by
    unfold fb at h
    split at h
    · exact fb_nz h
    · rename_i hne; cases h; exact hne
theorem check_ok {l : List In} (h : (checkK l).2 = 0) : 1 ≤ l.length ∧ l.length ≤ 64 ∧ fb l.length 0 l = none ∧ rets (l.getD (l.length - 1) default) = true ∧ checkK l = (0, 0) := by
  unfold checkK at h ⊢
  split at h
  · simp at h
  · rename_i hl
    split at h
    · rename_i p hp; exact absurd h (fb_nz hp)
    · rename_i hn
      split at h
      · rename_i hr
        rw [if_neg hl, hn]
        exact ⟨by omega, by omega, rfl, hr, by rw [hr]; rfl⟩
      · simp at h
theorem first_law {l : List In} (h : (checkK l).2 = 0) {k : Nat} (hk : k < l.length) (x : In) :
    (oneK x.c x.a x.b x.k (k : Int) l.length ≠ 0 → checkK (l.set k x) = ((k : Int), oneK x.c x.a x.b x.k (k : Int) l.length)) ∧
    (oneK x.c x.a x.b x.k (k : Int) l.length = 0 → k = l.length - 1 → rets x = false → checkK (l.set k x) = ((k : Int), 147)) ∧
    (oneK x.c x.a x.b x.k (k : Int) l.length = 0 → (k = l.length - 1 → rets x = true) → checkK (l.set k x) = (0, 0)) := by
  obtain ⟨h1, h2, h3, h4, h5⟩ := check_ok h
  rw [fb_none] at h3
  have hs : (l.set k x)[k]? = some x := by simp [hk]
  have ho : ∀ j, j ≠ k → (l.set k x)[j]? = l[j]? := fun j hj => by rw [List.getElem?_set_ne (Ne.symm hj)]
  have hn : oneK x.c x.a x.b x.k (k : Int) l.length = 0 → fb l.length 0 (l.set k x) = none := fun e => by
    rw [fb_none]
    intro j y hj
    by_cases c : j = k
    · subst c; rw [hs] at hj; cases hj; simpa using e
    · rw [ho j c] at hj; exact h3 j y hj
  have hlast : (l.set k x).getD (l.length - 1) default = if k = l.length - 1 then x else l.getD (l.length - 1) default := by
    rw [List.getD, List.getD]
    by_cases c : k = l.length - 1
    · rw [if_pos c, ← c, hs]; rfl
    · rw [if_neg c, ho _ (Ne.symm c)]
  refine ⟨fun e => ?_, fun e1 e2 e3 => ?_, fun e1 e2 => ?_⟩
  · unfold checkK
    rw [List.length_set, if_neg (by omega)]
    have := fb_first (n := l.length) (l := l.set k x) (i := 0) (k := k) (x := x) hs (fun j y hj hy => by rw [ho j (by omega)] at hy; exact h3 j y hy) (by simpa using e)
    rw [this]; simp
  · unfold checkK
    rw [List.length_set, if_neg (by omega), hn e1]
    dsimp only
    rw [hlast, if_pos e2, e3]
    simp; omega
  · unfold checkK
    rw [List.length_set, if_neg (by omega), hn e1]
    simp only [hlast]
    split
    · rename_i c; rw [e2 c]; rfl
    · first | rfl | (rw [h4]; rfl)
/-! ### The walk -/
theorem avs_set (l : List In) (k : Nat) (x : In) : (avs l).set k x.av = avs (l.set k x) := by simp [avs, List.map_set]
theorem avs_getq {l : List In} {i : Nat} (h : i < l.length) : (avs l)[i]? = some (l[i]).av := by simp [avs, h]
theorem set_ok {l : List In} (h : ∀ x ∈ l, x.OK) {k : Nat} {x : In} (hx : x.OK) : ∀ y ∈ l.set k x, y.OK := fun y hy => by
  rcases List.mem_or_eq_of_mem_set hy with c | c
  · exact h y c
  · rw [c]; exact hx
theorem wr_range (i : Int) : 0 ≤ IntKind.u64.wrap i ∧ IntKind.u64.wrap i < 18446744073709551616 := by
  have e : IntKind.u64.wrap i = i % 18446744073709551616 := by
    unfold IntKind.wrap
    simp [IntKind.bits, IntKind.signed]
  rw [e]
  exact ⟨Int.emod_nonneg _ (by omega), Int.emod_lt_of_pos _ (by omega)⟩
theorem k6 (t : Bool) (l : List In) (hok : ∀ x ∈ l, x.OK) (x : In) (hx : x.OK) (i : Int) : ACall PA 6 [.sl t (avs l), x.av, .int .i64 i] [] (.bool true) [] := by
  refine ACall.ofS S10ok hmA h6 (by kernel_rfl) (Nat.le_of_ble_eq_true rfl) ownH_nil (own_solid (by simp [solid_bool])) (aS_den ?_)
  have hd := decIns_avs hok
  obtain ⟨L, hL⟩ : ∃ L, L = l.take 65 := ⟨_, rfl⟩
  have hLok : ∀ y ∈ L, y.OK := fun y hy => hok y (List.mem_of_mem_take (hL ▸ hy))
  have hdL := decIns_avs hLok
  by_cases e : L = []
  · have ea : avs ([] : List In) = [] := rfl
    have c2 : checkK [] = (0, 140) := by kernel_rfl
    subst e
    simp only [WK, simprocAttr, S10, S9, S8, S7, S6, S5, S4, S3, S2, S1, c6, n6, hd, ← hL, ownRow, ea, c2, decIns, In.av, inV]
    simp only [WK, simprocAttr, EW, r6]
  · have e' : ¬ avs L = [] := by rw [avs_nil]; exact e
    have el : (avs L).take L.length = avs L := by rw [avs_take, List.take_length]
    by_cases c0 : (checkK L).2 = 0
    · obtain ⟨h1, h2, h3, h4, h5⟩ := check_ok c0
      obtain ⟨m, hm⟩ : ∃ m : Nat, (m : Int) = IntKind.u64.wrap i % (L.length : Int) := ⟨(IntKind.u64.wrap i % (L.length : Int)).toNat, by have := Int.emod_nonneg (IntKind.u64.wrap i) (b := (L.length : Int)) (by omega); omega⟩
      have hmlt : m < L.length := by have := Int.emod_lt_of_pos (IntKind.u64.wrap i) (b := (L.length : Int)) (by omega); omega
      have w1 : IntKind.u64.wrap (L.length : Int) = (L.length : Int) := wrU64 (by omega) (by omega)
      have w2 : (IntKind.u64.wrap i).tmod (L.length : Int) = (m : Int) := by rw [Int.tmod_eq_emod_of_nonneg (wr_range i).1, hm]
      have w3 : IntKind.i64.wrap (m : Int) = (m : Int) := wrI64 (by omega) (by omega)
      have w4 : IntKind.i64.wrap ((L.length : Int) - 1) = (L.length : Int) - 1 := wrI64 (by omega) (by omega)
      have w5 : ¬ ((L.length : Int) = 0) := by omega
      have g1 := avs_getq hmlt
      have m0 : (0 : Int) ≤ (m : Int) := by omega
      have hd2 := decIns_avs (set_ok hLok (k := m) hx)
      have hs : (avs L).set m (.agg [.int .u16 x.c, .int .u8 x.a, .int .u8 x.b, .int .u32 x.k]) = avs (L.set m x) := avs_set L m x
      have hxK : InOK x.c x.a x.b x.k := hx
      have s1 : Sm (m : Int) := ⟨by omega, by omega⟩
      have s2 : Sm (L.length : Int) := ⟨by omega, by omega⟩
      obtain ⟨f1, f2, f3⟩ := first_law c0 hmlt x
      have el2 : (avs (L.set m x)).take L.length = avs (L.set m x) := by rw [avs_take, List.take_of_length_le (by simp)]
      have cl : (L[m]).av.cells.length = 4 := rfl
      have cx : x.av.cells.length = 4 := rfl
      have rec' : recell (L[m]).av (splice (L[m]).av.cells 0 x.av.cells) = x.av := rfl
      by_cases b1 : oneK x.c x.a x.b x.k (m : Int) L.length = 0
      · by_cases b2 : m = L.length - 1
        · have b2' : ((m : Int) == (L.length : Int) - 1) = true := by simp; omega
          by_cases b3 : x.c = 6
          · have fx := f3 b1 (fun _ => by simp [rets, b3])
            have q1 : (x.c != 6) = false := by simp [b3]
            simp only [WK, simprocAttr, S10, S9, S8, S7, S6, S5, S4, S3, S2, S1, c6, n6, hd, ← hL, ownRow, e', hdL, h5, w1, w2, w3, w4, w5, g1, m0, hs, hd2, el, el2, hmlt, hxK, s1, s2, cl, cx, avs_len, List.length_set, In.av, inV, b1, fx, b2', q1]
            simp only [WK, simprocAttr, EW, r6]
          · have q1 : (x.c != 6) = true := by simp [b3]
            by_cases b4 : x.c = 22
            · have fx := f3 b1 (fun _ => by simp [rets, b4])
              have q2 : (x.c != 22) = false := by simp [b4]
              simp only [WK, simprocAttr, S10, S9, S8, S7, S6, S5, S4, S3, S2, S1, c6, n6, hd, ← hL, ownRow, e', hdL, h5, w1, w2, w3, w4, w5, g1, m0, hs, hd2, el, el2, hmlt, hxK, s1, s2, cl, cx, avs_len, List.length_set, In.av, inV, b1, fx, b2', q1, q2]
              simp only [WK, simprocAttr, EW, r6]
            · have fx := f2 b1 b2 (by simp [rets, b3, b4])
              have q2 : (x.c != 22) = true := by simp [b4]
              have q3 : ((m : Int) == (m : Int)) = true := by simp
              simp only [WK, simprocAttr, S10, S9, S8, S7, S6, S5, S4, S3, S2, S1, c6, n6, hd, ← hL, ownRow, e', hdL, h5, w1, w2, w3, w4, w5, g1, m0, hs, hd2, el, el2, hmlt, hxK, s1, s2, cl, cx, avs_len, List.length_set, In.av, inV, b1, fx, b2', q1, q2, q3]
              simp only [WK, simprocAttr, EW, r6]
        · have b2' : ((m : Int) == (L.length : Int) - 1) = false := by simp; omega
          have fx := f3 b1 (fun c => absurd c b2)
          simp only [WK, simprocAttr, S10, S9, S8, S7, S6, S5, S4, S3, S2, S1, c6, n6, hd, ← hL, ownRow, e', hdL, h5, w1, w2, w3, w4, w5, g1, m0, hs, hd2, el, el2, hmlt, hxK, s1, s2, cl, cx, avs_len, List.length_set, In.av, inV, b1, fx, b2']
          simp only [WK, simprocAttr, EW, r6]
      · have fx := f1 b1
        have b1' : (oneK x.c x.a x.b x.k (m : Int) L.length != 0) = true := by simp [b1]
        have q3 : ((m : Int) == (m : Int)) = true := by simp
        have q4 : (oneK x.c x.a x.b x.k (m : Int) L.length == oneK x.c x.a x.b x.k (m : Int) L.length) = true := by simp
        simp only [WK, simprocAttr, S10, S9, S8, S7, S6, S5, S4, S3, S2, S1, c6, n6, hd, ← hL, ownRow, e', hdL, h5, w1, w2, w3, w4, w5, g1, m0, hs, hd2, el, el2, hmlt, hxK, s1, s2, cl, cx, avs_len, List.length_set, In.av, inV, b1', fx, q3, q4]
        simp only [WK, simprocAttr, EW, r6]
    · have c1 : ((checkK L).2 != 0) = true := by simp [c0]
      simp only [WK, simprocAttr, S10, S9, S8, S7, S6, S5, S4, S3, S2, S1, c6, n6, hd, ← hL, ownRow, e', hdL, el, avs_len, In.av, inV, c1]
      simp only [WK, simprocAttr, EW, r6]
end Go.Av
