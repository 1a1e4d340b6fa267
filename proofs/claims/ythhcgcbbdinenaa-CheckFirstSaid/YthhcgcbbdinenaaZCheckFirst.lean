/- The statement CheckFirst: it holds of the given program, whatever the arguments. -/
import Derived.Test.YthhcgcbbdinenaaMh
set_option linter.unusedVariables false
set_option linter.unusedSimpArgs false
namespace Go.Proofs.Ythhcgcbbdinenaa.checkFirst
open Go Go.Av Go.ChangeShapes Go.WideShapes Go.ChangeAt Go.RowKit
theorem own : ownKnob Try.prog.godebug = none := by kernel_rfl
theorem laidOut : laidOutB Try.prog = true := by kernel_rfl
set_option maxRecDepth 100000 in
theorem lifted (os : Os) (started : os.Started) (H : Type) (enc : TypeId × Value → H) :
    ReturnsInHanded {} Try.checked os 6 .any (Rows.checkFirstSpec.pre6 enc Try.prog Try.f6 Rows.checkFirstRow.domain false) (Rows.checkFirstSpec.post enc Try.prog Try.f6 false true false false) := by
  refine returnsInHanded_of_change (C := Try.checked) own started (by kernel_rfl) Try.func6
    (ChangeSpec.witness6 (enc := enc) (C := Try.checked) false ⟨#[], #[.slice none 0 0, .agg #[.int .u16 0, .int .u8 0, .int .u8 0, .int .u32 0], .int .i64 0], []⟩ 8 (by kernel_rfl) (by kernel_rfl) (by kernel_rfl) (by kernel_rfl)) ?_
  intro W base args ds gs before hval0 hW hcnd _
  have hval : ∀ (j : Nat) t v, Try.f6.params[j]? = some t → args[j]? = some v → Value.okWide Try.prog W .any base t v := hval0
  have hW' := hW
  obtain ⟨p, q, hA0, hV, rfl, hfz, hnd⟩ := hW
  have hA : DataW.TrodAll enc Try.prog W 0 (fun _ => true) true Try.f6.params.toList args.toList ds p := hA0
  have hp : Try.f6.params = #[43, 39, 3] := by kernel_rfl
  rw [hp] at hA hval
  obtain ⟨v0, vs0, d0, ds0, p0, q0, hargs0, rfl, rfl, h0, r0⟩ := trodAll_cons hA
  obtain ⟨v1, vs1, d1, ds1, p1, q1, hargs1, rfl, rfl, h1, r1⟩ := trodAll_cons r0
  obtain ⟨v2, vs2, d2, ds2, p2, q2, hargs2, rfl, rfl, h2, r2⟩ := trodAll_cons r1
  obtain ⟨rfl, rfl, rfl⟩ := trodAll_nil r2
  obtain rfl : args = #[v0, v1, v2] := by cases args; simp_all
  obtain ⟨rfl, rfl⟩ := trodVars_none hV
  simp only [List.append_nil] at hW'
  have g0 := h0
  have g1 := h1
  have g2 := h2
  obtain ⟨fuel0, h0'⟩ := h0
  have hw0 := hval 0 43 v0 rfl rfl
  obtain ⟨y0, x0, hc0, e0, o0⟩ := open_ins (ρ := fun _ => 0) h0'
  obtain rfl := one_of (not_agg_sl (P := Try.prog) (t := 43) u43 hw0) rfl hc0
  obtain ⟨fuel1, h1'⟩ := h1
  have hw1 := hval 1 39 v1 rfl rfl
  obtain ⟨x1, e1', o1⟩ := open_in (ρ := fun _ => 0) h1'
  have a1 := agg_of (v := v1) (n := 4) e1'.1 (by omega)
  have e1 : VR (fun _ => 0) [] W x1.av v1 := by rw [a1]; exact VRs.agg e1'
  obtain ⟨fuel2, h2'⟩ := h2
  have hw2 := hval 2 3 v2 rfl rfl
  obtain ⟨x2, hc2, o2⟩ := open_int (k := .i64) (by kernel_rfl) h2'
  obtain rfl := one_of (not_agg_int (P := Try.prog) (t := 3) (by kernel_rfl : PA.underlying 3 = some (.int .i64)) hw2) rfl hc2
  have e2 : VR (fun _ => 0) [] W (.int .i64 x2) (.int .i64 x2) := .int _ _
  refine (walk_of (k6 false x0 o0 x1 o1 x2) (VRs.cons e0 (VRs.cons e1 (VRs.cons e2 VRs.nil)))).mono fun e W' ⟨he, hb⟩ => ?_
  subst he
  have hlt0 : ∀ x ∈ p0, x.block < W.heap.size := fun x hx => by simpa using hW'.lt x (by simp [hx])
  have hlt1 : ∀ x ∈ p1, x.block < W.heap.size := fun x hx => by simpa using hW'.lt x (by simp [hx])
  have hlt2 : ∀ x ∈ p2, x.block < W.heap.size := fun x hx => by simpa using hW'.lt x (by simp [hx])
  refine ⟨_, rfl, _, _, _, [], p0 ++ (p1 ++ (p2 ++ [])), [], hW', ?_, ?_, ?_, hb.frame _, fun h => by cases h⟩
  · exact trodAll_cons_mk (shut_bool (by kernel_rfl) _) trodAll_mk0
  · exact (trodAll_cons_mk (Below.trod laidOut (by kernel_rfl) (of_decide_eq_true (by kernel_rfl)) g0 hb hlt0) (trodAll_cons_mk (Below.trod laidOut (by kernel_rfl) (of_decide_eq_true (by kernel_rfl)) g1 hb hlt1) (trodAll_cons_mk (Below.trod laidOut (by kernel_rfl) (of_decide_eq_true (by kernel_rfl)) g2 hb hlt2) trodAll_mk0)))
  · exact rfl
theorem over : Rows.checkFirstRow.holds Try.pinned (OpenSpec.ofChange Rows.checkFirstSpec) :=
  OpenClaim.holds_of_wide 6 Try.f6 rfl rfl rfl rfl rfl rfl rfl ⟨rfl, rfl, rfl, rfl, rfl⟩ rfl rfl rfl rfl rfl (by kernel_rfl) Try.func6 (by kernel_rfl)
    (of_decide_eq_true (by kernel_rfl)) (by unfold Func.isWrapper; first | (rw [if_pos (by decide +kernel)]; kernel_rfl) | (rw [if_neg (by decide +kernel)]; exact ⟨rfl, rfl⟩))
    (fun os started H enc _ => lifted os started H enc)
theorem proved : Rows.CheckFirstSaid := over
end Go.Proofs.Ythhcgcbbdinenaa.checkFirst
