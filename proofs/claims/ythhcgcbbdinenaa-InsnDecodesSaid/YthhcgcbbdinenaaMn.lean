/- Contracts: the reference's codes. -/
import Derived.Test.YthhcgcbbdinenaaMl
import Derived.Test.YthhcgcbbdinenaaMh
set_option linter.unusedVariables false
set_option linter.unusedSimpArgs false
namespace Go.Av
open Go Go.Proofs
set_option maxRecDepth 100000
set_option maxHeartbeats 2000000
def okK (c : Nat) : Bool := (nameK c).2
def codesL (c : Nat) : List Nat := (List.range c).filter okK
theorem codesL_succ (c : Nat) : codesL (c + 1) = if okK c = true then codesL c ++ [c] else codesL c := by
  unfold codesL
  rw [List.range_succ, List.filter_append]
  by_cases h : okK c = true
  · rw [if_pos h]; simp [h]
  · rw [if_neg h]; simp [h]
theorem codesL_all : (codesL 256).length = 41 := by kernel_rfl
theorem codesL_le {c : Nat} (h : c ≤ 256) : (codesL c).length ≤ 41 := by
  have key : ∀ d, (codesL c).length ≤ (codesL (c + d)).length := by
    intro d
    induction d with
    | zero => exact Nat.le_refl _
    | succ d ih =>
      rw [show c + (d + 1) = (c + d) + 1 by omega, codesL_succ]
      split
      · simp; omega
      · exact ih
  have := key (256 - c)
  rw [show c + (256 - c) = 256 by omega, codesL_all] at this
  exact this
theorem codesL_mem {c d : Nat} : d ∈ codesL c ↔ d < c ∧ okK d = true := by simp [codesL]
theorem codesL_sorted (c : Nat) : (codesL c).Pairwise (· < ·) := List.Pairwise.filter _ List.pairwise_lt_range
def crow (c : Nat) : AV := .agg [.int .u16 c, .str (sb (nameK c).1), .int .i64 (formK c)]
def crows (l : List Nat) : List AV := l.map crow
theorem crows_okE (l : List Nat) : (crows l).all (okE 3) = true := by
  rw [List.all_eq_true]
  intro x hx
  obtain ⟨y, _, rfl⟩ := List.mem_map.1 hx
  rfl
theorem crows_solid (l : List Nat) : ∀ x ∈ crows l, ∀ u ∈ x.cells, Solid u := by
  intro x hx u hu
  obtain ⟨y, _, rfl⟩ := List.mem_map.1 hx
  simp only [crow, cells_agg, List.mem_cons, List.not_mem_nil, or_false] at hu
  rcases hu with rfl | rfl | rfl
  · exact .int _ _
  · exact .str _
  · exact .int _ _
def cV (l : List Nat) : AV := if l = [] then .sl true [] else .rf 0 (l.length - 1) 0 l.length
def cH (l : List Nat) : AHeap := if l = [] then [] else [.row (l.length - 1) 3 (crows l)]
def i16 (m : Nat) (τ : AFr) (h : AHeap) : Prop :=
  ∃ c : Nat, c ≤ 256 ∧ m = 256 - c ∧ h = cH (codesL c) ∧ τ = { n := 24, s := [(5, .int .u16 c), (1, cV (codesL c))], dfr := [] }
theorem k16 : ACall PA 16 [] [] (.rf 0 40 0 41) [.row 40 3 (crows (codesL 256))] := by
  refine ACall.ofS S21ok hmA h16 (by kernel_rfl) (Nat.le_of_ble_eq_true rfl) (ownH_row _ _ _ (crows_solid _)) (own_rf _ _ _ _) (aS_den ?_)
  simp only [WK, simprocAttr, c16, n16]
  refine x_loop i16 ⟨256, _, ⟨0, by omega, by omega, rfl, rfl⟩, ⟨rfl, rfl, by simp [alook, cV, codesL]⟩⟩ ?_
  rintro m τ h ⟨c, hc, rfl, rfl, rfl⟩
  by_cases b1 : c < 256
  · have b2 : (c : Int) < 256 := by omega
    have u16 : U16 (c : Int) := ⟨by omega, by omega⟩
    have nf := nmFacts u16
    have w : IntKind.u16.wrap ((c : Int) + 1) = ((c + 1 : Nat) : Int) := by rw [wrU16 (by omega) (by omega)]; omega
    have hs := codesL_succ c
    have u8 : U8 (c : Int) := ⟨by omega, by omega⟩
    have nr : namedR c = ((nameK c).1, formK c) := by
      have a := nf.name
      have b := nf.form
      simp only [refNameN, refForm, if_neg (show ¬ (255 : Int) < (c : Int) by omega)] at a b
      rw [← a, ← b]
    have nk := nf.known
    by_cases ok : okK c = true
    · rw [if_pos ok] at hs
      have ne : ¬ (nameK c).1 = [] := by
        unfold okK at ok; rw [nk] at ok; simpa using ok
      by_cases e : codesL c = []
      · have hv : cV (codesL c) = .sl true [] := if_pos e
        have hh : cH (codesL c) = [] := if_pos e
        simp only [WK, simprocAttr, b2, S21, S20, S19, S17, S16, S15, S14, S13, S11, S10, S9, S8, S7, S6, S5, S4, S3, S2, S1, u8, nr, ne, hv, hh, appR, most]
        refine ⟨256 - (c + 1), _, by omega, ⟨c + 1, by omega, rfl, ?_, rfl⟩, ⟨rfl, rfl, ?_⟩⟩
        · rw [hs, e]; simp [cH, crows, crow]
        · rw [hs, e]; simp [alook, w, cV]
      · obtain ⟨l, hl⟩ : ∃ l, l = codesL c := ⟨_, rfl⟩
        rw [← hl] at e hs ⊢
        have l41 : l.length ≤ 41 := hl ▸ codesL_le (by omega)
        have hv : cV l = .rf 0 (l.length - 1) 0 l.length := if_neg e
        have hh : cH l = [.row (l.length - 1) 3 (crows l)] := if_neg e
        have cl : (crows l).length = l.length := by simp [crows]
        have ct : (crows l).take l.length = crows l := List.take_of_length_le (by rw [cl]; exact Nat.le_refl _)
        have m1 : (l.length + 1) * 32 ≤ 140737488355328 := by omega
        have ca : crows l ++ [.agg [.int .u16 c, .str (sb (nameK c).1), .int .i64 (formK c)]] = crows (l ++ [c]) := by simp [crows, crow]
        have l0 : l.length ≠ 0 := fun d => e (List.length_eq_zero_iff.1 d)
        have lv : l.length - 1 + 1 = l.length := by omega
        simp only [WK, simprocAttr, b2, S21, S20, S19, S17, S16, S15, S14, S13, S11, S10, S9, S8, S7, S6, S5, S4, S3, S2, S1, u8, nr, ne, hv, hh, appR, most, cl, ct, m1, ca, lv, Nat.le_refl]
        refine ⟨256 - (c + 1), _, by omega, ⟨c + 1, by omega, rfl, ?_, rfl⟩, ⟨rfl, rfl, ?_⟩⟩
        · rw [hs]; simp [cH]
        · rw [hs]; simp [alook, w, cV]
    · rw [if_neg ok] at hs
      have ne : (nameK c).1 = [] := by
        unfold okK at ok; rw [nk] at ok; simpa using ok
      simp only [WK, simprocAttr, b2, S21, S20, S19, S17, S16, S15, S14, S13, S11, S10, S9, S8, S7, S6, S5, S4, S3, S2, S1, u8, nr, ne]
      refine ⟨256 - (c + 1), _, by omega, ⟨c + 1, by omega, rfl, by rw [hs], rfl⟩, ⟨rfl, rfl, ?_⟩⟩
      rw [hs]; simp [alook, w]
  · have ec : c = 256 := by omega
    subst ec
    have b2 : ¬ ((256 : Nat) : Int) < 256 := by omega
    have hne : codesL 256 ≠ [] := fun d => by have := codesL_all; rw [d] at this; simp at this
    have hv : cV (codesL 256) = .rf 0 40 0 41 := by rw [cV, if_neg hne, codesL_all]
    have hh : cH (codesL 256) = [.row 40 3 (crows (codesL 256))] := by rw [cH, if_neg hne, codesL_all]
    rw [hv, hh]
    simp only [WK, simprocAttr, b2]
    simp only [WK, simprocAttr, EW, r16]
    simp [List.idxOf]
def S22 : Spec := fun f args => match f, args with
  | 16, [] => some (.rf 0 40 0 41, [.row 40 3 (crows (codesL 256))])
  | f, args => S21 f args
theorem S22ok : SpecOK PA S22 := by
  refine ⟨fun f args r l h => ?_⟩
  unfold S22 at h
  split at h
  · cases h
    exact ⟨k16, by simp, own_rf _ _ _ _, ownH_row _ _ _ (crows_solid _)⟩
  · exact S21ok.ok _ _ _ _ h
theorem crows_get {l : List Nat} {i : Nat} (h : i < l.length) : (crows l)[i]? = some (.agg [.int .u16 l[i], .str (sb (nameK l[i]).1), .int .i64 (formK l[i])]) := by simp [crows, crow, h]
def i21 (nm : List UInt8) (m : Nat) (τ : AFr) (h : AHeap) : Prop :=
  ∃ (i : Nat) (g : AHeap), i ≤ 41 ∧ m = 41 - i ∧ (∀ d ∈ (codesL 256).take i, (nameK d).1 ≠ nm) ∧ h = .row 40 3 (crows (codesL 256)) :: g ∧ τ = { n := 19, s := [(0, .str (sb nm)), (6, .rf 0 40 0 41), (7, .int .i64 41), (8, .int .i64 i)], dfr := [] }
theorem stopK_at {nm : List UInt8} {i : Nat} (hi : i < (codesL 256).length) (h : ∀ d ∈ (codesL 256).take i, (nameK d).1 ≠ nm) (e : (nameK (codesL 256)[i]).1 = nm) : stopK nm = (codesL 256)[i] := by
  obtain ⟨p1, p2, p3⟩ := stopK_spec nm
  obtain ⟨m1, m2⟩ := codesL_mem.1 (List.getElem_mem hi)
  have hk : isK nm (codesL 256)[i] = true := by unfold isK; unfold okK at m2; rw [m2]; simpa using e
  rcases Nat.lt_trichotomy (stopK nm) (codesL 256)[i] with c | c | c
  · exfalso
    have k := p3 (by omega)
    simp only [isK, Bool.and_eq_true, decide_eq_true_eq] at k
    have hm : stopK nm ∈ codesL 256 := codesL_mem.2 ⟨by omega, k.1⟩
    obtain ⟨j, hj, hje⟩ := List.getElem_of_mem hm
    have hji : j < i := by
      rcases Nat.lt_or_ge j i with d | d
      · exact d
      · rcases Nat.lt_or_ge i j with d' | d'
        · have := (List.pairwise_iff_getElem.1 (codesL_sorted 256)) i j hi hj d'
          omega
        · have : i = j := by omega
          subst this; omega
    refine h (stopK nm) ?_ k.2
    rw [← hje]
    exact List.mem_take_iff_getElem.2 ⟨j, by omega, rfl⟩
  · exact c
  · exfalso
    have := p2 _ c
    rw [hk] at this; cases this
theorem stopK_none {nm : List UInt8} (h : ∀ d ∈ codesL 256, (nameK d).1 ≠ nm) : ¬ stopK nm < 256 := fun c => by
  obtain ⟨p1, p2, p3⟩ := stopK_spec nm
  have k := p3 c
  simp only [isK, Bool.and_eq_true, decide_eq_true_eq] at k
  exact h _ (codesL_mem.2 ⟨c, k.1⟩) k.2
theorem k21 (nm : List UInt8) : ACall PA 21 [.str (sb nm)] [] (.tup [.int .u16 (codeK nm).1, .bool (codeK nm).2]) [] := by
  refine ACall.ofS S22ok hmA h21 (by kernel_rfl) (Nat.le_of_ble_eq_true rfl) ownH_nil (own_solid (by simp [solid_tup, solid_int, solid_bool])) (aS_den ?_)
  have l41 : ((41 : Nat) : Int) = 41 := rfl
  simp only [WK, simprocAttr, c21, n21, S22, l41]
  refine x_loop (i21 nm) ⟨41, _, ⟨0, [], by omega, by omega, by simp, rfl, rfl⟩, ⟨rfl, rfl, by simp [alook]⟩⟩ ?_
  rintro m τ h ⟨i, g, hi, rfl, hn, rfl, rfl⟩
  have i0 : (0 : Int) ≤ (i : Int) := by omega
  by_cases b1 : i < 41
  · have b2 : (i : Int) < 41 := by omega
    have hil : i < (codesL 256).length := by rw [codesL_all]; exact b1
    have gc := crows_get hil
    have w : IntKind.i64.wrap ((i : Int) + 1) = ((i + 1 : Nat) : Int) := by rw [wrI64 (by omega) (by omega)]; omega
    by_cases e : (nameK (codesL 256)[i]).1 = nm
    · have st := stopK_at hil hn e
      have ck : codeK nm = (((codesL 256)[i] : Int), true) := by
        obtain ⟨m1, _⟩ := codesL_mem.1 (List.getElem_mem hil)
        unfold codeK; rw [st, if_pos m1]
      simp only [WK, simprocAttr, b1, b2, i0, gc, e]
      simp only [WK, simprocAttr, EW, r21, ck]
    · simp only [WK, simprocAttr, b1, b2, i0, gc, e]
      refine ⟨41 - (i + 1), _, by omega, ⟨i + 1, _, by omega, rfl, ?_, rfl, rfl⟩, ⟨rfl, rfl, by simp [alook, w]⟩⟩
      intro d hd
      rw [List.take_add_one, List.getElem?_eq_getElem hil, List.mem_append] at hd
      rcases hd with hd | hd
      · exact hn d hd
      · simp at hd; rw [hd]; exact e
  · have ei : i = 41 := by omega
    subst ei
    have hn' : ¬ stopK nm < 256 := stopK_none fun d hd => hn d (by rw [List.take_of_length_le (by rw [codesL_all]; exact Nat.le_refl _)]; exact hd)
    have ck : codeK nm = (0, false) := by unfold codeK; rw [if_neg hn']
    simp only [WK, simprocAttr, l41]
    simp only [WK, simprocAttr, EW, r21, ck]
end Go.Av

/- InsnCodes: the codes that a filter may have, their names and forms. -/
namespace Go.Av
open Go Go.Proofs
set_option maxRecDepth 100000
set_option maxHeartbeats 2000000
def S23 : Spec := fun f args => match f, args with
  | 21, [.str s] => some (.tup [.int .u16 (codeK s.data.toList).1, .bool (codeK s.data.toList).2], [])
  | f, args => S22 f args
theorem S23ok : SpecOK PA S23 := by
  refine ⟨fun f args r l h => ?_⟩
  unfold S23 at h
  split at h
  · rename_i s
    cases h
    have := k21 s.data.toList
    rw [← sb_data] at this
    exact ⟨this, by simp [bel_str], own_solid (by simp [solid_tup, solid_int, solid_bool]), ownH_nil⟩
  · exact S22ok.ok _ _ _ _ h
def T23 : Tab := ⟨S23, fun _ _ _ => none, fun f => f == 16⟩
theorem T23ok : TabOK PA T23 := ⟨S23ok, fun _ _ _ _ _ e => by cases e⟩
theorem t23_s (f : FuncId) (a : List AV) : T23.s f a = S23 f a := rfl
theorem t23_l (f : FuncId) : T23.loud f = (f == 16) := rfl
theorem t23_g (f : FuncId) (a : List AV) (h : AHeap) : T23.g f a h = none := rfl
def u16V (l : List Int) : List AV := l.map (AV.int .u16)
def natV (l : List Nat) : List AV := l.map fun (c : Nat) => AV.int .u16 (c : Int)
def strV (l : List ByteArray) : List AV := l.map AV.str
def aV (l : List Nat) : AV := if l = [] then .sl true [] else .rf 4 (l.length - 1) 0 l.length
def aH (l : List Nat) : AHeap := if l = [] then [] else [.row (l.length - 1) 1 (natV l)]
def asg3 : AC := (.seq (.ops [o 6 (.mov (.t 26))]) (.ops [o 7 (.mov (.t 27))]))
def bod3 : AC := (.block 1 (.seq (.ops [o 29 (.mov (.t 6)), o 30 (.callS 15 [.t 29]), o 28 (.mov (.t 30)), o 31 (.ext (.t 28) 0), o 32 (.ext (.t 28) 1), o 8 (.mov (.t 31)), o 9 (.mov (.t 32))]) (.seq (.seq (.ops [o 33 (.mov (.t 9)), o 34 (.not (.t 33)), o 35 (.mov (.t 34)), og 36 (35, false) (.mov (.t 7)), og 37 (35, false) (.mov (.t 8)), og 38 (35, false) (.bin .neq (.t 36) (.t 37)), o 39 (.pick (.t 35) (.c (.bool true)) (.t 38)), o 40 (.mov (.t 39)), og 41 (40, false) (.ld none (.t 5)), og 42 (40, false) (.len (.t 41)), og 43 (40, false) (.bin .eql (.t 42) (.c (.int .i64 99))), o 44 (.pick (.t 40) (.c (.bool true)) (.t 43))]) (.cond (.t 44) (.seq (.ops [u (.st 1 (.t 4) (.c (.bool false)))]) .ret) .skip)) (.ops [o 45 (.ld none (.t 5)), o 46 (.mov (.t 6)), o 47 (.bsl 1 [.t 46]), o 48 (.app 1 2 (.t 45) (.t 47)), u (.st 1 (.t 5) (.t 48))]))))
def loop3 (s : List (Nat × AV)) : ALoop := { st := .ready, pend := .none, slots := s, n := 142, ps := [26, 27], assign := asg3, body := bod3, dfr := 2 }
def H3 (s : List (Nat × AV)) (c : Nat) : AHeap := [.row 0 1 [.bool false], .row 0 1 [aV (codesL c)], .dfr, .loop (loop3 s)] ++ aH (codesL c)
theorem y3 (s : List (Nat × AV)) (s5 : alook s 5 = .rp 1 0 0 0) (c : Nat) (hc : c < 256) (ok : (nameK c).2 = true) : AYield PA 3 (cArgs c) (H3 s c) (.bool true) (H3 s (c + 1)) := by
  have hs := codesL_succ c
  rw [if_pos (show okK c = true from ok)] at hs
  have u16 : U16 (c : Int) := ⟨by omega, by omega⟩
  have nf := nmFacts u16
  have ne : ¬ (nameK c).1 = [] := by have := nf.known; rw [ok] at this; simpa using this.symm
  have nm := nf.name
  have l41 : (codesL c).length ≤ 41 := codesL_le (by omega)
  obtain ⟨l, hl⟩ : ∃ l, l = codesL c := ⟨_, rfl⟩
  unfold H3
  rw [hs, ← hl]
  rw [← hl] at l41
  have n99 : ((l.length : Int) == 99) = false := by simp; omega
  have hB : ∀ l' : List Nat, Hstay ([.row 0 1 [.bool false], .row 0 1 [aV l], .dfr, .loop (loop3 s)] ++ aH l) ([.row 0 1 [.bool false], .row 0 1 [aV l'], .dfr, .loop (loop3 s)] ++ aH l') := by
    intro l' d hd
    have e2 : d = 2 := by
      rcases d with _ | _ | _ | _ | d
      · simp at hd
      · simp at hd
      · rfl
      · simp at hd
      · exfalso
        unfold aH at hd
        split at hd
        · simp at hd
        · rcases d with _ | d <;> simp at hd
    subst e2; rfl
  refine AYield.ofT T23ok hmA (L := loop3 s) rfl rfl (by simp [loop3]) (hB _) (by kernel_rfl) (by kernel_rfl) (aS_den ?_)
  by_cases e : l = []
  · have hv : aV l = .sl true [] := if_pos e
    have hh : aH l = [] := if_pos e
    simp only [loop3, asg3, bod3, putArgs, cArgs, hv, hh]
    simp only [WK, simprocAttr]
    refine ⟨rfl, _, rfl, rfl, aS_den ?_⟩
    simp only [WK, simprocAttr, t23_s, S23, S22, S21, S20, S19, S17, S16, S15, S14, S13, S11, S10, S9, S8, S7, S6, S5, S4, S3, S2, S1, u16, nm, ne, s5, appR, most, List.headD_cons]
    refine ⟨_, rfl, rfl, ?_⟩
    simp [e, aV, aH, natV]
  · have hv : aV l = .rf 4 (l.length - 1) 0 l.length := if_neg e
    have hh : aH l = [.row (l.length - 1) 1 (natV l)] := if_neg e
    have cl : (natV l).length = l.length := by simp [natV]
    have ct : (natV l).take l.length = natV l := List.take_of_length_le (by rw [cl]; exact Nat.le_refl _)
    have m1 : (l.length + 1) * 2 ≤ 140737488355328 := by omega
    have ca : natV l ++ [.int .u16 c] = natV (l ++ [c]) := by simp [natV]
    have l0 : l.length ≠ 0 := fun d => e (List.length_eq_zero_iff.1 d)
    have lv : l.length - 1 + 1 = l.length := by omega
    simp only [loop3, asg3, bod3, putArgs, cArgs, hv, hh]
    simp only [WK, simprocAttr]
    refine ⟨rfl, _, rfl, rfl, aS_den ?_⟩
    simp only [WK, simprocAttr, t23_s, S23, S22, S21, S20, S19, S17, S16, S15, S14, S13, S11, S10, S9, S8, S7, S6, S5, S4, S3, S2, S1, u16, nm, ne, s5, appR, most, List.headD_cons, n99, cl, ct, m1, ca, lv, Nat.le_refl]
    refine ⟨_, rfl, rfl, ?_⟩
    simp [aV, aH]
theorem natV_get {l : List Nat} {i : Nat} (h : i < l.length) : (natV l)[i]? = some (.int .u16 (l[i] : Int)) := by simp [natV, h]
theorem u16V_len (l : List Int) : (u16V l).length = l.length := by simp [u16V]
theorem u16V_get {l : List Int} {i : Nat} (h : i < l.length) : (u16V l)[i]? = some (.int .u16 l[i]) := by simp [u16V, h]
theorem strV_len (l : List ByteArray) : (strV l).length = l.length := by simp [strV]
theorem strV_get {l : List ByteArray} {i : Nat} (h : i < l.length) : (strV l)[i]? = some (.str l[i]) := by simp [strV, h]
def hp3 : AHeap := [.row 0 1 [.bool false], .row 0 1 [.rf 4 40 0 41], .dfr, .dead, .row 40 1 (natV (codesL 256)), .row 40 3 (crows (codesL 256))]
def i3a (t u : Bool) (l : List Int) (ns : List ByteArray) (m : Nat) (τ : AFr) (h : AHeap) : Prop :=
  ∃ i : Nat, i ≤ 41 ∧ m = 41 - i ∧ h = hp3 ∧ τ = { n := 142, s := [(0, .sl t (u16V l)), (1, .sl u (strV ns)), (4, .rp 0 0 0 0), (5, .rp 1 0 0 0), (55, .int .i64 41), (56, .int .i64 i)], dfr := [2] }
def i3b (t u : Bool) (l : List Int) (ns : List ByteArray) (m : Nat) (τ : AFr) (h : AHeap) : Prop :=
  ∃ i : Nat, i ≤ l.length ∧ i ≤ 40 ∧ m = l.length - i ∧ h = hp3 ∧ τ = { n := 142, s := [(74, .sl t (u16V l)), (75, .int .i64 l.length), (76, .int .i64 i), (1, .sl u (strV ns)), (4, .rp 0 0 0 0)], dfr := [2] }
def i3c (u : Bool) (ns : List ByteArray) (m : Nat) (τ : AFr) (h : AHeap) : Prop :=
  ∃ i : Nat, i ≤ ns.length ∧ i ≤ 40 ∧ m = ns.length - i ∧ h = hp3 ∧ τ = { n := 142, s := [(109, .sl u (strV ns)), (110, .int .i64 ns.length), (111, .int .i64 i), (4, .rp 0 0 0 0)], dfr := [2] }
def lp6 : AC := (.loop (.seq (.ops [o 112 (.bin .lss (.t 111) (.t 110))]) (.seq (.cond (.t 112) .skip (.exit 6)) (.seq (.block 7 (.seq (.ops [o 113 (.mov (.t 111)), o 114 (.iaddr 1 (.t 109) (.t 111)), o 115 (.ld none (.t 114)), o 17 (.mov (.t 113)), o 18 (.mov (.t 115))]) (.seq (.seq (.ops [o 116 (.mov (.t 17)), o 117 (.bin .eql (.t 116) (.c (.int .i64 40)))]) (.cond (.t 117) (.exit 6) .skip)) (.seq (.ops [o 118 (.mov (.t 18)), o 119 (.mov (.t 18)), o 120 (.lenS (.t 119)), o 121 (.mn [.t 120, .c (.int .i64 20)]), o 122 (.slcS (.t 118) none (some (.t 121))), o 18 (.mov (.t 122))]) (.seq (.ops [o 124 (.mov (.t 18)), o 125 (.callS 20 [.t 124]), o 123 (.mov (.t 125)), o 126 (.ext (.t 123) 0), o 127 (.ext (.t 123) 1), o 19 (.mov (.t 126)), o 20 (.mov (.t 127))]) (.seq (.ops [o 129 (.mov (.t 18)), o 130 (.callS 21 [.t 129]), o 128 (.mov (.t 130)), o 131 (.ext (.t 128) 0), o 132 (.ext (.t 128) 1), o 21 (.mov (.t 131)), o 22 (.mov (.t 132))]) (.seq (.ops [o 133 (.mov (.t 19)), o 134 (.mov (.t 21)), o 135 (.bin .neq (.t 133) (.t 134)), o 136 (.mov (.t 135)), og 137 (136, false) (.mov (.t 20)), og 138 (136, false) (.mov (.t 22)), og 139 (136, false) (.eqb true (.t 137) (.t 138)), o 140 (.pick (.t 136) (.c (.bool true)) (.t 139))]) (.cond (.t 140) (.seq (.ops [u (.st 1 (.t 4) (.c (.bool false)))]) .ret) .skip)))))))) (.ops [o 141 (.bin .add (.t 111) (.c (.int .i64 1))), o 111 (.mov (.t 141))])))))
theorem tail3 (v : Bool) (ns : List ByteArray) (τ : AFr) (t1 : τ.n = 142) (t2 : τ.dfr = [2]) (t3 : alook τ.s 109 = .sl v (strV ns)) (t4 : alook τ.s 110 = .int .i64 ns.length) (t5 : alook τ.s 111 = .int .i64 0) (t6 : alook τ.s 4 = .rp 0 0 0 0) :
    aS PA T23 none lp6 (den PA T23 none [.blk 6, .code (.seq (.ops [u (.st 1 (.t 4) (.c (.bool true)))]) .ret)] (EndQ r3 (.bool true) [])) τ hp3 := by
  refine x_loop (i3c v ns) ⟨ns.length, _, ⟨0, by omega, by omega, by omega, rfl, rfl⟩, ⟨t1.symm, t2.symm, by simp [t3, t4, t5, t6]⟩⟩ ?_
  rintro m τ h ⟨i, hi, hi40, rfl, rfl, rfl⟩
  have i0 : (0 : Int) ≤ (i : Int) := by omega
  by_cases b1 : (i : Int) < (ns.length : Int)
  · have hil : i < ns.length := by omega
    have g := strV_get hil
    have w : IntKind.i64.wrap ((i : Int) + 1) = ((i + 1 : Nat) : Int) := by rw [wrI64 (by omega) (by omega)]; omega
    by_cases b40 : i = 40
    · have q : ((i : Int) == 40) = true := by simp; omega
      simp only [WK, simprocAttr, b1, i0, g, q, hp3]
      simp only [WK, simprocAttr, EW, r3, noLoop]
      simp [cells_bool, resv, refs, refs1, rn, rn1]
    · have q : ((i : Int) == 40) = false := by simp; omega
      obtain ⟨b, hb⟩ : ∃ b, b = ns[i] := ⟨_, rfl⟩
      rw [← hb] at g
      by_cases len : (20 : Int) < (b.size : Int)
      · have l1 : (20 : Int) ≤ (b.size : Int) := by omega
        obtain ⟨z, hz⟩ : ∃ z, z = b.extract 0 20 := ⟨_, rfl⟩
        have q1 : ((codeK z.data.toList).1 != (codeK z.data.toList).1) = false := by simp
        have q2 : ((codeK z.data.toList).2 == (codeK z.data.toList).2) = true := by simp
        simp only [WK, simprocAttr, b1, i0, g, q, len, l1, t23_s, S23, S22, S21, S20, S19, S17, S16, S15, S14, S13, S11, S10, S9, S8, S7, S6, S5, S4, S3, S2, S1, ← hz, q1, q2]
        refine ⟨ns.length - (i + 1), _, by omega, ⟨i + 1, by omega, by omega, rfl, rfl, rfl⟩, ⟨rfl, rfl, by simp [alook, w]⟩⟩
      · have l0 : (0 : Int) ≤ (b.size : Int) := by omega
        obtain ⟨z, hz⟩ : ∃ z, z = b.extract 0 b.size := ⟨_, rfl⟩
        have q1 : ((codeK z.data.toList).1 != (codeK z.data.toList).1) = false := by simp
        have q2 : ((codeK z.data.toList).2 == (codeK z.data.toList).2) = true := by simp
        simp only [WK, simprocAttr, b1, i0, g, q, len, l0, t23_s, S23, S22, S21, S20, S19, S17, S16, S15, S14, S13, S11, S10, S9, S8, S7, S6, S5, S4, S3, S2, S1, ← hz, q1, q2]
        refine ⟨ns.length - (i + 1), _, by omega, ⟨i + 1, by omega, by omega, rfl, rfl, rfl⟩, ⟨rfl, rfl, by simp [alook, w]⟩⟩
  · simp only [WK, simprocAttr, b1, hp3]
    simp only [WK, simprocAttr, EW, r3, noLoop]
    simp [cells_bool, resv, refs, refs1, rn, rn1]
theorem k3 (t : Bool) (l : List Int) (hl : ∀ c ∈ l, U16 c) (u : Bool) (ns : List ByteArray) : ACall PA 3 [.sl t (u16V l), .sl u (strV ns)] [] (.bool true) [] := by
  refine ACall.ofT T23ok hmA h3 (by kernel_rfl) (Nat.le_of_ble_eq_true rfl) ownH_nil (own_solid (by simp [solid_bool])) (aS_den ?_)
  simp only [WK, simprocAttr, c3, n3, t23_s, t23_g, S23, S22, S21, S20, S19, S17, S16, S15, S14, S13, S11, S10, S9, S8, S7, S6, S5, S4, S3, S2, S1]
  refine ⟨_, _, k14 _, ?_⟩
  try simp only [WK, simprocAttr]
  obtain ⟨s, hs⟩ : ∃ s : List (Nat × AV), s = [(25, .fn (.func 48) [] []), (5, .rp 1 0 0 0), (24, .bool false), (23, .bool true), (4, .rp 0 0 0 0), (0, .sl t (u16V l)), (1, .sl u (strV ns))] := ⟨_, rfl⟩
  rw [← hs]
  have s5 : alook s 5 = .rp 1 0 0 0 := by rw [hs]; rfl
  have hne : codesL 256 ≠ [] := fun d => by have := codesL_all; rw [d] at this; simp at this
  have av : aV (codesL 256) = .rf 4 40 0 41 := by rw [aV, if_neg hne, codesL_all]
  have ah : aH (codesL 256) = [.row 40 1 (natV (codesL 256))] := by rw [aH, if_neg hne, codesL_all]
  have hE : H3 s 256 = [.row 0 1 [.bool false], .row 0 1 [.rf 4 40 0 41], .dfr, .loop (loop3 s), .row 40 1 (natV (codesL 256))] := by unfold H3; rw [av, ah]; rfl
  have h0 : H3 s 0 = [.row 0 1 [.bool false], .row 0 1 [.sl true []], .dfr, .loop (loop3 s)] := rfl
  have hc := k48 3 (H3 s) 256 ⟨Nat.le_refl _, fun c h1 h2 => y3 s s5 c h1 h2, fun c h1 h2 => ?_, fun h => absurd h (by omega), ?_⟩
  · rw [if_neg (by omega)] at hc
    refine x_rangeG 2 3 rfl rfl (H3 s 0) (by rw [hs]; rfl) (by rw [h0]; simp [loop3, asg3, bod3]) (.tup []) (H3 s 256) (loop3 s) hc (by rw [hE]; rfl) (by simp [loop3]) ?_
    rw [hE]
    simp only [loop3, hs]
    simp only [WK, simprocAttr, t23_l]
    refine drwL_of [2] [(0, 1), (0, 1), (0, 0), (1, 1), (1, 1)] (fun q => match q with
      | 0 => [.row 0 1 [.bool false], .row 0 1 [.rf 4 40 0 41], .dfr, .dead, .row 40 1 (natV (codesL 256))]
      | _ => hp3) (by kernel_rfl) rfl ?_
    refine awL_q (.rf 4 40 0 41) 0 1 rfl rfl rfl (fun q h1 h2 => ?_) ?_
    · rcases (by omega : q = 0 ∨ q = 1) with rfl | rfl <;> simp only [WK, simprocAttr, hp3]
    refine awL_q (.int .i64 41) 0 1 rfl rfl rfl (fun q h1 h2 => ?_) ?_
    · simp only [WK, simprocAttr]
    refine awL_c (.rf 5 40 0 41) 0 (f := 16) (args := []) rfl rfl rfl ?_ ?_ ?_
    · simp only [WK, simprocAttr]
    · exact ACall.liftOwn (h := [.row 0 1 [.bool false], .row 0 1 [.rf 4 40 0 41], .dfr, .dead, .row 40 1 (natV (codesL 256))]) (args := []) k16 (by simp) (own_rf _ _ _ _) (ownH_row _ _ _ (crows_solid _))
    refine awL_q (.int .i64 41) 1 1 rfl rfl rfl (fun q h1 h2 => ?_) ?_
    · simp only [WK, simprocAttr]
    refine awL_q (.bool false) 1 1 rfl rfl rfl (fun q h1 h2 => ?_) ?_
    · simp only [WK, simprocAttr]
    simp only [awL]
    simp only [WK, simprocAttr, hp3]
    refine x_loop (i3a t u l ns) ⟨41, _, ⟨0, by omega, by omega, rfl, rfl⟩, ⟨rfl, rfl, by simp [alook]⟩⟩ ?_
    rintro m τ h ⟨i, hi, rfl, rfl, rfl⟩
    by_cases b1 : i < 41
    · have b2 : (i : Int) < 41 := by omega
      have w : IntKind.i64.wrap ((i : Int) + 1) = ((i + 1 : Nat) : Int) := by rw [wrI64 (by omega) (by omega)]; omega
      have i0 : (0 : Int) ≤ (i : Int) := by omega
      by_cases z : i = 0
      · subst z
        have w1 : IntKind.i64.wrap 1 = 1 := by decide
        simp only [WK, simprocAttr, Int.cast_ofNat_Int, gt_iff_lt, t23_l]
        refine ⟨41 - (0 + 1), _, by omega, ⟨0 + 1, by omega, rfl, rfl, rfl⟩, ⟨rfl, rfl, by simp [alook, w1]⟩⟩
      · have p0 : (0 : Int) < (i : Int) := by omega
        have w0 : IntKind.i64.wrap ((i : Int) - 1) = (i : Int) - 1 := wrI64 (by omega) (by omega)
        have p1 : (0 : Int) ≤ (i : Int) - 1 := by omega
        have p2 : ((i : Int) - 1).toNat = i - 1 := by omega
        have p3 : i - 1 < 41 := by omega
        have c1 : i - 1 < (codesL 256).length := by rw [codesL_all]; omega
        have c2 : i < (codesL 256).length := by rw [codesL_all]; omega
        have g1 := natV_get c1
        have g2 := natV_get c2
        have lt := (List.pairwise_iff_getElem.1 (codesL_sorted 256)) (i - 1) i c1 c2 (by omega)
        have nl : ¬ ((codesL 256)[i] : Int) ≤ ((codesL 256)[i - 1] : Int) := by omega
        simp only [WK, simprocAttr, b2, gt_iff_lt, ge_iff_le, p0, w0, p1, p2, p3, hp3, g1, g2, i0, b1, nl, t23_l]
        refine ⟨41 - (i + 1), _, by omega, ⟨i + 1, by omega, rfl, rfl, rfl⟩, ⟨rfl, rfl, by simp [alook, w]⟩⟩
    · have ei : i = 41 := by omega
      subst ei
      have b2 : ¬ ((41 : Nat) : Int) < 41 := by omega
      simp only [WK, simprocAttr, b2, u16V_len]
      refine x_loop (i3b t u l ns) ⟨l.length, _, ⟨0, by omega, by omega, by omega, rfl, rfl⟩, ⟨rfl, rfl, by simp [alook]⟩⟩ ?_
      rintro m τ h ⟨i, hi, hi40, rfl, rfl, rfl⟩
      have i0 : (0 : Int) ≤ (i : Int) := by omega
      by_cases b1 : (i : Int) < (l.length : Int)
      · have hil : i < l.length := by omega
        have g := u16V_get hil
        have hu := hl _ (List.getElem_mem hil)
        have w : IntKind.i64.wrap ((i : Int) + 1) = ((i + 1 : Nat) : Int) := by rw [wrI64 (by omega) (by omega)]; omega
        by_cases b40 : i = 40
        · have q : ((i : Int) == 40) = true := by simp; omega
          simp only [WN, simprocAttr, b1, i0, g, q, strV_len]
          exact tail3 u ns _ rfl rfl rfl rfl rfl rfl
        · have q : ((i : Int) == 40) = false := by simp; omega
          have nf := nmFacts hu
          have nm := nf.name
          have fm := nf.form
          have kn := nf.known
          have kn2 : decide ((nameK l[i]).1 ≠ []) = (nameK l[i]).2 := kn.symm
          have e1 : ((nameK l[i]).2 == (nameK l[i]).2) = true := by simp
          have e2 : (formK l[i] != formK l[i]) = false := by simp
          simp only [WK, simprocAttr, b1, i0, g, q, t23_s, S23, S22, S21, S20, S19, S17, S16, S15, S14, S13, S11, S10, S9, S8, S7, S6, S5, S4, S3, S2, S1, hu, nm, fm, kn2]
          refine ⟨l.length - (i + 1), _, by omega, ⟨i + 1, by omega, by omega, rfl, rfl, rfl⟩, ⟨rfl, rfl, by simp [alook, w]⟩⟩
      · simp only [WN, simprocAttr, b1, strV_len]
        exact tail3 u ns _ rfl rfl rfl rfl rfl rfl
  · have := codesL_succ c
    rw [if_neg (by unfold okK; rw [h2]; simp)] at this
    unfold H3
    rw [this]
  · rw [if_neg (by omega), h0, hE]
    intro d hd
    have e2 : d = 2 := by rcases d with _ | _ | _ | _ | d <;> simp at hd ⊢
    subst e2; rfl
end Go.Av

/- More arguments opened: numbers, texts. -/
set_option maxRecDepth 100000
namespace Go.Av
open Go Go.Proofs
section
variable {H : Type} {enc : TypeId × Value → H} {ρ : Nat → Nat} {w : World} {sp : Nat → Bool} {held : Bool}
theorem u22 : PA.underlying 22 = some (.slice 28) := by kernel_rfl
theorem u23 : PA.underlying 23 = some (.slice 9) := by kernel_rfl
theorem u9 : PA.underlying 9 = some .string := by kernel_rfl
theorem ce9 : PA.cellsOf 9 = 1 := by kernel_rfl
theorem open_u16s {fuel : Nat} {cs : List Value} {x : DataW H × List MemPlace} (h : DataW.trod enc PA w 0 sp held fuel 22 cs = some x) : ∃ (v : Value) (l : List Int), cs = [v] ∧ VR ρ [] w (.sl false (u16V l)) v ∧ ∀ b ∈ l, U16 b :=
  open_list (f := AV.int .u16) (p := U16) u22 ce28 (by omega) (fun u => rfl) (fun fuel cs x h => by
    obtain ⟨n, rfl, hw⟩ := open_int u28 h
    exact ⟨n, VRs.one (.int _ _), wf16 hw⟩) h
theorem open_strs {fuel : Nat} {cs : List Value} {x : DataW H × List MemPlace} (h : DataW.trod enc PA w 0 sp held fuel 23 cs = some x) : ∃ (v : Value) (l : List ByteArray), cs = [v] ∧ VR ρ [] w (.sl false (strV l)) v ∧ ∀ b ∈ l, True :=
  open_list (f := AV.str) (p := fun _ => True) u23 ce9 (by omega) (fun u => rfl) (fun fuel cs x h => by
    obtain ⟨b, rfl⟩ := open_st u9 h
    exact ⟨b, VRs.one (.str b), trivial⟩) h
end
end Go.Av
