/- The statement CheckChecks. -/
import Derived.Test.YthhcgcbbdinenaaMe
set_option linter.unusedVariables false
set_option linter.unusedSimpArgs false
namespace Go.Proofs.Ythhcgcbbdinenaa.checkChecks
open Go Go.Av Go.ChangeShapes Go.WideShapes Go.ChangeAt Go.RowKit
theorem own : ownKnob Try.prog.godebug = none := by kernel_rfl
theorem laidOut : laidOutB Try.prog = true := by kernel_rfl
theorem below_of {ρ ρ' : Nat → Nat} {w w' : World} (s : Step ρ [] w ρ' [] w') : Below w.heap.size w w' :=
  ⟨s.os, s.tape, s.output, s.size, fun k hk => (s.free k ⟨hk, fun ⟨i, o, hi, _⟩ => by simp at hi⟩).1⟩
theorem walk (v : Value) (rows : List (List In)) (hok : ∀ l ∈ rows, ∀ x ∈ l, x.OK) (w : World) (hv : VR (fun _ => 0) [] w (.sl false (rowsV rows)) v) :
    Calls Try.prog 5 #[v] w fun e w' => e = .returned (.bool true) ∧ Below w.heap.size w w' := by
  refine callsIn_wide.1 (CallsIn.mono ((k5 false rows hok).run (fun _ => 0) w [v] HR.nil (VRs.one hv)) fun e w' h => ?_)
  obtain ⟨v', ρ', rfl, h1, h2, h3⟩ := h
  cases h1
  exact ⟨rfl, below_of h3⟩
set_option maxRecDepth 100000 in
theorem lifted (os : Os) (started : os.Started) (H : Type) (enc : TypeId × Value → H) :
    ReturnsInHanded {} Try.checked os 5 .any (Rows.checkChecksSpec.pre6 enc Try.prog Try.f5 Rows.checkChecksRow.domain false) (Rows.checkChecksSpec.post enc Try.prog Try.f5 false true false false) := by
  refine returnsInHanded_of_change (C := Try.checked) own started (by kernel_rfl) Try.func5
    (ChangeSpec.witness6 (enc := enc) (C := Try.checked) false ⟨#[], #[.slice none 0 0], []⟩ 8 (by kernel_rfl) (by kernel_rfl) (by kernel_rfl) (by kernel_rfl)) ?_
  intro W base args ds gs before hval0 hW hcnd _
  have hval : ∀ (j : Nat) t v, Try.f5.params[j]? = some t → args[j]? = some v → Value.okWide Try.prog W .any base t v := hval0
  have hW' := hW
  obtain ⟨p, q, hA0, hV, rfl, hfz, hnd⟩ := hW
  have hA : DataW.TrodAll enc Try.prog W 0 (fun _ => true) true Try.f5.params.toList args.toList ds p := hA0
  have hp5 : Try.f5.params = #[42] := by kernel_rfl
  rw [hp5] at hA hval
  obtain ⟨v0, vs0, d0, ds0, p0, q0, hargs, rfl, rfl, h0, r0⟩ := trodAll_cons hA
  obtain ⟨rfl, rfl, rfl⟩ := trodAll_nil r0
  obtain rfl : args = #[v0] := by cases args; simp_all
  obtain ⟨rfl, rfl⟩ := trodVars_none hV
  simp only [List.append_nil] at hW'
  have h0k := h0
  obtain ⟨fuel, h0'⟩ := h0
  obtain ⟨v1, rows, hcs, hv, hok⟩ := open_rows (ρ := fun _ => 0) h0'
  have hok0 := hval 0 42 v0 rfl rfl
  have hv01 : v0 = v1 := by
    have hna : ∀ cs, v0 ≠ .agg cs := by
      intro cs e
      subst e
      have hu : Try.prog.underlying 42 = some (.slice 43) := u42
      simp [Value.okWide, hu, Cell.okWide, Cell.ok] at hok0
    have : v0.cells = #[v0] := by cases v0 <;> first | rfl | exact absurd rfl (hna _)
    rw [this] at hcs
    simpa using hcs
  subst hv01
  refine (walk v0 rows hok W hv).mono fun e W' ⟨he, hb⟩ => ?_
  subst he
  have hlt : ∀ x ∈ p0, x.block < W.heap.size := fun x hx => by simpa using hW'.lt x (by simpa using hx)
  refine ⟨_, rfl, _, _, _, [], p0 ++ [], [], hW', ?_, ?_, ?_, hb.frame _, fun h => by cases h⟩
  · exact trodAll_cons_mk (shut_bool (by kernel_rfl) _) trodAll_mk0
  · exact trodAll_cons_mk (Below.trod laidOut (by kernel_rfl) (of_decide_eq_true (by kernel_rfl)) h0k hb hlt) trodAll_mk0
  · exact rfl
theorem over : Rows.checkChecksRow.holds Try.pinned (OpenSpec.ofChange Rows.checkChecksSpec) :=
  OpenClaim.holds_of_wide 5 Try.f5 rfl rfl rfl rfl rfl rfl rfl ⟨rfl, rfl, rfl, rfl, rfl⟩ rfl rfl rfl rfl rfl (by kernel_rfl) Try.func5 (by kernel_rfl)
    (of_decide_eq_true (by kernel_rfl)) (by unfold Func.isWrapper; first | (rw [if_pos (by decide +kernel)]; kernel_rfl) | (rw [if_neg (by decide +kernel)]; exact ⟨rfl, rfl⟩))
    (fun os started H enc _ => lifted os started H enc)
theorem proved : Rows.CheckChecksSaid := over
end Go.Proofs.Ythhcgcbbdinenaa.checkChecks
