/- The statement JudgeChecks: it holds of the given program, whatever the arguments. -/
import Derived.Test.YtgpaipedklilkaaGreatMj
import Derived.Test.YtgpaipedklilkaaGreatJcJudgeChecks
import Derived.Test.YtgpaipedklilkaaGreatMx
import Derived.Test.YtgpaipedklilkaaGreatRows
import Derived.ProofKit
set_option linter.unusedVariables false
set_option linter.unusedSimpArgs false
namespace Go.Proofs.YtgpaipedklilkaaGreat.judgeChecks
open Go Go.Av Go.ChangeShapes Go.WideShapes Go.ChangeAt Go.RowKit
theorem own : ownKnob Tryz.prog.godebug = none := by kernel_rfl
theorem laidOut : laidOutB Tryz.prog = true := by kernel_rfl
def rho : Rho := ⟨fun _ => 0, fun _ => False⟩
theorem rhoX : ∀ b, ¬ rho.X b := fun _ h => h
set_option maxRecDepth 100000 in
theorem lifted (os : Os) (started : os.Started) (H : Type) (enc : TypeId × Value → H) :
    ReturnsInHanded {} Tryz.checked os 10 .any (Rows.judgeChecksSpec.pre6 enc Tryz.prog Tryz.f10 Rows.judgeChecksRow.domain false) (Rows.judgeChecksSpec.post enc Tryz.prog Tryz.f10 false true false false) := by
  refine returnsInHanded_of_change (C := Tryz.checked) own started (by kernel_rfl) Tryz.func10
    (ChangeSpec.witness6 (enc := enc) (C := Tryz.checked) false ⟨#[], #[.slice none 0 0], []⟩ 8 (by kernel_rfl) (by kernel_rfl) (by kernel_rfl) (by kernel_rfl)) ?_
  intro W base args ds gs before hval0 hW hcnd _
  have hval : ∀ (j : Nat) t v, Tryz.f10.params[j]? = some t → args[j]? = some v → Value.okWide Tryz.prog W .any base t v := hval0
  have hW' := hW
  obtain ⟨p, q, hA0, hV, rfl, hfz, hnd⟩ := hW
  have hA : DataW.TrodAll enc Tryz.prog W 0 (fun _ => true) true Tryz.f10.params.toList args.toList ds p := hA0
  have hp : Tryz.f10.params = #[102] := by kernel_rfl
  rw [hp] at hA hval
  obtain ⟨v0, vs0, d0, ds0, p0, q0, hargs0, rfl, rfl, h0, r0⟩ := trodAll_cons hA
  obtain ⟨rfl, rfl, rfl⟩ := trodAll_nil r0
  obtain rfl : args = #[v0] := by cases args; simp_all
  obtain ⟨rfl, rfl⟩ := trodVars_none hV
  simp only [List.append_nil] at hW'
  have g0 := h0
  obtain ⟨fuel0, h0'⟩ := h0
  have hw0 := hval 0 102 v0 rfl rfl
  obtain ⟨us0, e0', wf0⟩ := open_any (ρ := rho) rhoX 8 (by kernel_rfl : kindsOf Tryz.prog 8 102 = some [.sl false [.sl true KPast]]) h0'
  obtain ⟨u0, rr0, rfl, hw0c, hn0⟩ := WfL.consOf wf0
  obtain rfl := WfL.nilOf hn0
  obtain ⟨x0, rfl, o0⟩ := rows_of hw0c
  obtain ⟨y0, hc0⟩ := List.length_eq_one_iff.1 e0'.1
  obtain rfl := one_of (not_agg_sl (P := Tryz.prog) (t := 102) (by kernel_rfl : Tryz.prog.underlying 102 = some (.slice 24)) hw0) rfl hc0
  have e0 : VR rho [] W (.sl false (rowsP x0)) v0 := by
    have := e0'.2 0 _ rfl
    rw [hc0] at this
    exact this
  refine (walk_of (k10 false x0 o0) rhoX (VRs.cons e0 VRs.nil)).mono fun e W' ⟨he, hb⟩ => ?_
  subst he
  have hlt0 : ∀ x ∈ p0, x.block < W.heap.size := fun x hx => by simpa using hW'.lt x (by simp [hx])
  refine ⟨_, rfl, _, _, _, [], p0 ++ [], [], hW', ?_, ?_, ?_, hb.frame _, fun h => by cases h⟩
  · exact trodAll_cons_mk (shut_bool (by kernel_rfl) _) trodAll_mk0
  · exact (trodAll_cons_mk (Below.trod laidOut (by kernel_rfl) (of_decide_eq_true (by kernel_rfl)) g0 hb hlt0) trodAll_mk0)
  · exact rfl
theorem over : Rows.judgeChecksRow.holds Tryz.pinned (OpenSpec.ofChange Rows.judgeChecksSpec) :=
  OpenClaim.holds_of_wide 10 Tryz.f10 rfl rfl rfl rfl rfl rfl rfl ⟨rfl, rfl, rfl, rfl, rfl⟩ rfl rfl rfl rfl rfl (by kernel_rfl) Tryz.func10 joined
    (of_decide_eq_true (by kernel_rfl)) (by unfold Func.isWrapper; first | (rw [if_pos (by decide +kernel)]; kernel_rfl) | (rw [if_neg (by decide +kernel)]; exact ⟨rfl, rfl⟩))
    (fun os started H enc _ => lifted os started H enc)
theorem proved : Rows.JudgeChecksSaid := over
end Go.Proofs.YtgpaipedklilkaaGreat.judgeChecks
