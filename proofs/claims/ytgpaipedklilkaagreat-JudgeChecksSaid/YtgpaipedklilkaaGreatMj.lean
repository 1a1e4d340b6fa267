/- Contracts: which calls may be. -/
import Derived.Test.YtgpaipedklilkaaGreatKj
import Derived.Test.YtgpaipedklilkaaGreatMx
import Derived.Test.YtgpaipedklilkaaGreatWg
set_option linter.unusedVariables false
set_option linter.unusedSimpArgs false
namespace Go.Av
open Go Go.Proofs
set_option maxRecDepth 100000
set_option maxHeartbeats 4000000
def S00 : Spec := fun _ _ => none
theorem S00ok {P : Program} : SpecOK P S00 := ⟨fun _ _ _ _ h => by cases h⟩
/-- A call: its cells. -/
structure Cal where
  kind : Int
  flags : Int
  uid : Int
  bs : List AV
  owner : Int
  setu : Bool
  nr : Int
  arch : Int
  ip : Int
  a0 : Int
  a1 : Int
  a2 : Int
  a3 : Int
  a4 : Int
  a5 : Int
def Cal.data (c : Cal) : List AV := [.int .u32 c.nr, .int .u32 c.arch, .int .u64 c.ip, .int .u64 c.a0, .int .u64 c.a1, .int .u64 c.a2, .int .u64 c.a3, .int .u64 c.a4, .int .u64 c.a5]
def Cal.cells (c : Cal) : List AV := [.int .i64 c.kind, .int .i64 c.flags, .int .i64 c.uid, .sl false c.bs, .int .i64 c.owner, .bool c.setu, .int .u32 c.nr, .int .u32 c.arch, .int .u64 c.ip, .int .u64 c.a0, .int .u64 c.a1, .int .u64 c.a2, .int .u64 c.a3, .int .u64 c.a4, .int .u64 c.a5]
def Cal.D0 (c : Cal) : Bool := (c.nr == 0) && ((c.arch == 0) && ((c.ip == 0) && ((c.a0 == 0) && ((c.a1 == 0) && ((c.a2 == 0) && ((c.a3 == 0) && ((c.a4 == 0) && (c.a5 == 0))))))))
def Cal.O0 (c : Cal) : Bool := (c.owner == 0) && (c.setu == false)
/-- May a call be? -/
def Cal.may (c : Cal) : Bool := decide (1 ≤ c.kind) && decide (c.kind ≤ 11) && ((c.kind == 1) || ((c.flags == 0) && (c.bs.length == 0))) && ((c.kind == 4) || (c.uid == 0)) && ((c.kind == 5) || c.D0) && ((c.kind == 8) || c.O0)
theorem eD (c : Cal) : aeqs [0, 0, 0, 0, 0, 0, 0, 0, 0] [.int .u32 c.nr, .int .u32 c.arch, .int .u64 c.ip, .int .u64 c.a0, .int .u64 c.a1, .int .u64 c.a2, .int .u64 c.a3, .int .u64 c.a4, .int .u64 c.a5] [.int .u32 0, .int .u32 0, .int .u64 0, .int .u64 0, .int .u64 0, .int .u64 0, .int .u64 0, .int .u64 0, .int .u64 0] = some c.D0 := by
  simp [aeqs, aeq1, Cal.D0]
theorem eD' (c : Cal) : aeqs [0, 0, 0, 0, 0, 0, 0, 0, 0] [.int .u32 0, .int .u32 0, .int .u64 0, .int .u64 0, .int .u64 0, .int .u64 0, .int .u64 0, .int .u64 0, .int .u64 0] [.int .u32 c.nr, .int .u32 c.arch, .int .u64 c.ip, .int .u64 c.a0, .int .u64 c.a1, .int .u64 c.a2, .int .u64 c.a3, .int .u64 c.a4, .int .u64 c.a5] = some c.D0 := by
  simp only [aeqs, aeq1, Cal.D0, and_self, if_true, Bool.and_true]
  simp only [BEq.comm (a := (0 : Int))]
theorem eDD (c : Cal) : aeqs [0, 0, 0, 0, 0, 0, 0, 0, 0] [.int .u32 c.nr, .int .u32 c.arch, .int .u64 c.ip, .int .u64 c.a0, .int .u64 c.a1, .int .u64 c.a2, .int .u64 c.a3, .int .u64 c.a4, .int .u64 c.a5] [.int .u32 c.nr, .int .u32 c.arch, .int .u64 c.ip, .int .u64 c.a0, .int .u64 c.a1, .int .u64 c.a2, .int .u64 c.a3, .int .u64 c.a4, .int .u64 c.a5] = some true := by
  simp [aeqs, aeq1]
theorem eO (c : Cal) : aeqs [0, 1] [.int .i64 c.owner, .bool c.setu] [.int .i64 0, .bool false] = some c.O0 := by
  simp [aeqs, aeq1, Cal.O0]
theorem eO' (c : Cal) : aeqs [0, 1] [.int .i64 0, .bool false] [.int .i64 c.owner, .bool c.setu] = some c.O0 := by
  simp only [aeqs, aeq1, Cal.O0, and_self, if_true, Bool.and_true]
  rw [BEq.comm (a := (0 : Int)), BEq.comm (a := false)]
theorem eOO (c : Cal) : aeqs [0, 1] [.int .i64 c.owner, .bool c.setu] [.int .i64 c.owner, .bool c.setu] = some true := by
  simp [aeqs, aeq1]
theorem bfF {a b : Int} (h : ¬ a = b) : (a == b) = false := by simpa using h
theorem bfT {a b : Int} (h : a = b) : (a == b) = true := by simpa using h
theorem k56 (c : Cal) (h : AHeap) : ACall PA 56 [.agg c.cells] h (.int .i64 (if c.may = true then 0 else 241)) h := by
  refine ACall.ofG S00ok hmA h56 (by kernel_rfl) (Nat.le_of_ble_eq_true rfl) (Hstay.refl h) fun hbel => aS_den ?_
  by_cases hge : 1 ≤ c.kind
  · by_cases hle : c.kind ≤ 11
    · by_cases h1 : c.kind = 1
      · by_cases hU : c.uid = 0
        · by_cases hD : c.D0 = true
          · by_cases hO : c.O0 = true
            · have p1 : c.kind ≥ 1 := hge
              have p1' : (1 : Int) ≤ c.kind := hge
              have p1'' : ¬ c.kind < 1 := by omega
              have p2 : c.kind ≤ 11 := hle
              have p2' : ¬ (11 : Int) < c.kind := by omega
              have q1 : (c.kind == 1) = true := bfT h1
              have q1' : (c.kind != 1) = false := by simp [h1]
              have p5 : (c.uid == 0) = true := bfT hU
              have p5' : ((0 : Int) == c.uid) = true := bfT hU.symm
              have p6 : c.D0 = true := hD
              have p7 : c.O0 = true := hO
              have q4 : (c.kind == 4) = false := bfF (by omega)
              have q4' : (c.kind != 4) = true := by simp [h1]
              have q5 : (c.kind == 5) = false := bfF (by omega)
              have q5' : (c.kind != 5) = true := by simp [h1]
              have q8 : (c.kind == 8) = false := bfF (by omega)
              have q8' : (c.kind != 8) = true := by simp [h1]
              simp only [WK, simprocAttr, c56, n56, S00, ge_iff_le, gt_iff_lt, Cal.cells, eD, eO, get0, getk, set0, setk, List.append_assoc, Bool.bne_false, bne_self_eq_false, Bool.bne_true, p1, p1', p1'', p2, p2', q1, q1', p5, p5', p6, p7, q4, q4', q5, q5', q8, q8']
              exact Fin.lost hbel (.inr rfl) rfl rfl (by rw [show c.may = true from by simp [Cal.may, *]]; rfl) (.int _ _)
            · have p1 : c.kind ≥ 1 := hge
              have p1' : (1 : Int) ≤ c.kind := hge
              have p1'' : ¬ c.kind < 1 := by omega
              have p2 : c.kind ≤ 11 := hle
              have p2' : ¬ (11 : Int) < c.kind := by omega
              have q1 : (c.kind == 1) = true := bfT h1
              have q1' : (c.kind != 1) = false := by simp [h1]
              have p5 : (c.uid == 0) = true := bfT hU
              have p5' : ((0 : Int) == c.uid) = true := bfT hU.symm
              have p6 : c.D0 = true := hD
              have p7 : c.O0 = false := by simpa using hO
              have q4 : (c.kind == 4) = false := bfF (by omega)
              have q4' : (c.kind != 4) = true := by simp [h1]
              have q5 : (c.kind == 5) = false := bfF (by omega)
              have q5' : (c.kind != 5) = true := by simp [h1]
              have q8 : (c.kind == 8) = false := bfF (by omega)
              have q8' : (c.kind != 8) = true := by simp [h1]
              simp only [WK, simprocAttr, c56, n56, S00, ge_iff_le, gt_iff_lt, Cal.cells, eD, eO, get0, getk, set0, setk, List.append_assoc, Bool.bne_false, bne_self_eq_false, Bool.bne_true, p1, p1', p1'', p2, p2', q1, q1', p5, p5', p6, p7, q4, q4', q5, q5', q8, q8']
              exact Fin.lost hbel (.inr rfl) rfl rfl (by rw [show c.may = false from by simp [Cal.may, *]]; rfl) (.int _ _)
          · have p1 : c.kind ≥ 1 := hge
            have p1' : (1 : Int) ≤ c.kind := hge
            have p1'' : ¬ c.kind < 1 := by omega
            have p2 : c.kind ≤ 11 := hle
            have p2' : ¬ (11 : Int) < c.kind := by omega
            have q1 : (c.kind == 1) = true := bfT h1
            have q1' : (c.kind != 1) = false := by simp [h1]
            have p5 : (c.uid == 0) = true := bfT hU
            have p5' : ((0 : Int) == c.uid) = true := bfT hU.symm
            have p6 : c.D0 = false := by simpa using hD
            have q4 : (c.kind == 4) = false := bfF (by omega)
            have q4' : (c.kind != 4) = true := by simp [h1]
            have q5 : (c.kind == 5) = false := bfF (by omega)
            have q5' : (c.kind != 5) = true := by simp [h1]
            have q8 : (c.kind == 8) = false := bfF (by omega)
            have q8' : (c.kind != 8) = true := by simp [h1]
            simp only [WK, simprocAttr, c56, n56, S00, ge_iff_le, gt_iff_lt, Cal.cells, eD, eO, get0, getk, set0, setk, List.append_assoc, Bool.bne_false, bne_self_eq_false, Bool.bne_true, p1, p1', p1'', p2, p2', q1, q1', p5, p5', p6, q4, q4', q5, q5', q8, q8']
            exact Fin.lost hbel (.inr rfl) rfl rfl (by rw [show c.may = false from by simp [Cal.may, *]]; rfl) (.int _ _)
        · have p1 : c.kind ≥ 1 := hge
          have p1' : (1 : Int) ≤ c.kind := hge
          have p1'' : ¬ c.kind < 1 := by omega
          have p2 : c.kind ≤ 11 := hle
          have p2' : ¬ (11 : Int) < c.kind := by omega
          have q1 : (c.kind == 1) = true := bfT h1
          have q1' : (c.kind != 1) = false := by simp [h1]
          have p5 : (c.uid == 0) = false := bfF hU
          have p5' : ((0 : Int) == c.uid) = false := bfF (fun e => hU e.symm)
          have q4 : (c.kind == 4) = false := bfF (by omega)
          have q4' : (c.kind != 4) = true := by simp [h1]
          have q5 : (c.kind == 5) = false := bfF (by omega)
          have q5' : (c.kind != 5) = true := by simp [h1]
          have q8 : (c.kind == 8) = false := bfF (by omega)
          have q8' : (c.kind != 8) = true := by simp [h1]
          simp only [WK, simprocAttr, c56, n56, S00, ge_iff_le, gt_iff_lt, Cal.cells, eD, eO, get0, getk, set0, setk, List.append_assoc, Bool.bne_false, bne_self_eq_false, Bool.bne_true, p1, p1', p1'', p2, p2', q1, q1', p5, p5', q4, q4', q5, q5', q8, q8']
          exact Fin.lost hbel (.inr rfl) rfl rfl (by rw [show c.may = false from by simp [Cal.may, *]]; rfl) (.int _ _)
      · by_cases hF : c.flags = 0
        · by_cases hB : c.bs.length = 0
          · by_cases h4 : c.kind = 4
            · by_cases hD : c.D0 = true
              · by_cases hO : c.O0 = true
                · have p1 : c.kind ≥ 1 := hge
                  have p1' : (1 : Int) ≤ c.kind := hge
                  have p1'' : ¬ c.kind < 1 := by omega
                  have p2 : c.kind ≤ 11 := hle
                  have p2' : ¬ (11 : Int) < c.kind := by omega
                  have q1 : (c.kind == 1) = false := bfF h1
                  have q1' : (c.kind != 1) = true := by simp [h1]
                  have p3 : (c.flags == 0) = true := bfT hF
                  have p3' : ((0 : Int) == c.flags) = true := bfT hF.symm
                  have p4 : ((c.bs.length : Int) == 0) = true := bfT (by omega)
                  have p4' : ¬ (0 : Int) < (c.bs.length : Int) := by omega
                  have q4 : (c.kind == 4) = true := bfT h4
                  have q4' : (c.kind != 4) = false := by simp [h4]
                  have p6 : c.D0 = true := hD
                  have p7 : c.O0 = true := hO
                  have q5 : (c.kind == 5) = false := bfF (by omega)
                  have q5' : (c.kind != 5) = true := by simp [h4]
                  have q8 : (c.kind == 8) = false := bfF (by omega)
                  have q8' : (c.kind != 8) = true := by simp [h4]
                  simp only [WK, simprocAttr, c56, n56, S00, ge_iff_le, gt_iff_lt, Cal.cells, eD, eO, get0, getk, set0, setk, List.append_assoc, Bool.bne_false, bne_self_eq_false, Bool.bne_true, p1, p1', p1'', p2, p2', q1, q1', p3, p3', p4, p4', q4, q4', p6, p7, q5, q5', q8, q8']
                  exact Fin.lost hbel (.inr rfl) rfl rfl (by rw [show c.may = true from by simp [Cal.may, *]]; rfl) (.int _ _)
                · have p1 : c.kind ≥ 1 := hge
                  have p1' : (1 : Int) ≤ c.kind := hge
                  have p1'' : ¬ c.kind < 1 := by omega
                  have p2 : c.kind ≤ 11 := hle
                  have p2' : ¬ (11 : Int) < c.kind := by omega
                  have q1 : (c.kind == 1) = false := bfF h1
                  have q1' : (c.kind != 1) = true := by simp [h1]
                  have p3 : (c.flags == 0) = true := bfT hF
                  have p3' : ((0 : Int) == c.flags) = true := bfT hF.symm
                  have p4 : ((c.bs.length : Int) == 0) = true := bfT (by omega)
                  have p4' : ¬ (0 : Int) < (c.bs.length : Int) := by omega
                  have q4 : (c.kind == 4) = true := bfT h4
                  have q4' : (c.kind != 4) = false := by simp [h4]
                  have p6 : c.D0 = true := hD
                  have p7 : c.O0 = false := by simpa using hO
                  have q5 : (c.kind == 5) = false := bfF (by omega)
                  have q5' : (c.kind != 5) = true := by simp [h4]
                  have q8 : (c.kind == 8) = false := bfF (by omega)
                  have q8' : (c.kind != 8) = true := by simp [h4]
                  simp only [WK, simprocAttr, c56, n56, S00, ge_iff_le, gt_iff_lt, Cal.cells, eD, eO, get0, getk, set0, setk, List.append_assoc, Bool.bne_false, bne_self_eq_false, Bool.bne_true, p1, p1', p1'', p2, p2', q1, q1', p3, p3', p4, p4', q4, q4', p6, p7, q5, q5', q8, q8']
                  exact Fin.lost hbel (.inr rfl) rfl rfl (by rw [show c.may = false from by simp [Cal.may, *]]; rfl) (.int _ _)
              · have p1 : c.kind ≥ 1 := hge
                have p1' : (1 : Int) ≤ c.kind := hge
                have p1'' : ¬ c.kind < 1 := by omega
                have p2 : c.kind ≤ 11 := hle
                have p2' : ¬ (11 : Int) < c.kind := by omega
                have q1 : (c.kind == 1) = false := bfF h1
                have q1' : (c.kind != 1) = true := by simp [h1]
                have p3 : (c.flags == 0) = true := bfT hF
                have p3' : ((0 : Int) == c.flags) = true := bfT hF.symm
                have p4 : ((c.bs.length : Int) == 0) = true := bfT (by omega)
                have p4' : ¬ (0 : Int) < (c.bs.length : Int) := by omega
                have q4 : (c.kind == 4) = true := bfT h4
                have q4' : (c.kind != 4) = false := by simp [h4]
                have p6 : c.D0 = false := by simpa using hD
                have q5 : (c.kind == 5) = false := bfF (by omega)
                have q5' : (c.kind != 5) = true := by simp [h4]
                have q8 : (c.kind == 8) = false := bfF (by omega)
                have q8' : (c.kind != 8) = true := by simp [h4]
                simp only [WK, simprocAttr, c56, n56, S00, ge_iff_le, gt_iff_lt, Cal.cells, eD, eO, get0, getk, set0, setk, List.append_assoc, Bool.bne_false, bne_self_eq_false, Bool.bne_true, p1, p1', p1'', p2, p2', q1, q1', p3, p3', p4, p4', q4, q4', p6, q5, q5', q8, q8']
                exact Fin.lost hbel (.inr rfl) rfl rfl (by rw [show c.may = false from by simp [Cal.may, *]]; rfl) (.int _ _)
            · by_cases hU : c.uid = 0
              · by_cases h5 : c.kind = 5
                · by_cases hO : c.O0 = true
                  · have p1 : c.kind ≥ 1 := hge
                    have p1' : (1 : Int) ≤ c.kind := hge
                    have p1'' : ¬ c.kind < 1 := by omega
                    have p2 : c.kind ≤ 11 := hle
                    have p2' : ¬ (11 : Int) < c.kind := by omega
                    have q1 : (c.kind == 1) = false := bfF h1
                    have q1' : (c.kind != 1) = true := by simp [h1]
                    have p3 : (c.flags == 0) = true := bfT hF
                    have p3' : ((0 : Int) == c.flags) = true := bfT hF.symm
                    have p4 : ((c.bs.length : Int) == 0) = true := bfT (by omega)
                    have p4' : ¬ (0 : Int) < (c.bs.length : Int) := by omega
                    have q4 : (c.kind == 4) = false := bfF h4
                    have q4' : (c.kind != 4) = true := by simp [h4]
                    have p5 : (c.uid == 0) = true := bfT hU
                    have p5' : ((0 : Int) == c.uid) = true := bfT hU.symm
                    have q5 : (c.kind == 5) = true := bfT h5
                    have q5' : (c.kind != 5) = false := by simp [h5]
                    have p7 : c.O0 = true := hO
                    have q8 : (c.kind == 8) = false := bfF (by omega)
                    have q8' : (c.kind != 8) = true := by simp [h5]
                    simp only [WK, simprocAttr, c56, n56, S00, ge_iff_le, gt_iff_lt, Cal.cells, eD, eO, get0, getk, set0, setk, List.append_assoc, Bool.bne_false, bne_self_eq_false, Bool.bne_true, p1, p1', p1'', p2, p2', q1, q1', p3, p3', p4, p4', q4, q4', p5, p5', q5, q5', p7, q8, q8']
                    exact Fin.lost hbel (.inr rfl) rfl rfl (by rw [show c.may = true from by simp [Cal.may, *]]; rfl) (.int _ _)
                  · have p1 : c.kind ≥ 1 := hge
                    have p1' : (1 : Int) ≤ c.kind := hge
                    have p1'' : ¬ c.kind < 1 := by omega
                    have p2 : c.kind ≤ 11 := hle
                    have p2' : ¬ (11 : Int) < c.kind := by omega
                    have q1 : (c.kind == 1) = false := bfF h1
                    have q1' : (c.kind != 1) = true := by simp [h1]
                    have p3 : (c.flags == 0) = true := bfT hF
                    have p3' : ((0 : Int) == c.flags) = true := bfT hF.symm
                    have p4 : ((c.bs.length : Int) == 0) = true := bfT (by omega)
                    have p4' : ¬ (0 : Int) < (c.bs.length : Int) := by omega
                    have q4 : (c.kind == 4) = false := bfF h4
                    have q4' : (c.kind != 4) = true := by simp [h4]
                    have p5 : (c.uid == 0) = true := bfT hU
                    have p5' : ((0 : Int) == c.uid) = true := bfT hU.symm
                    have q5 : (c.kind == 5) = true := bfT h5
                    have q5' : (c.kind != 5) = false := by simp [h5]
                    have p7 : c.O0 = false := by simpa using hO
                    have q8 : (c.kind == 8) = false := bfF (by omega)
                    have q8' : (c.kind != 8) = true := by simp [h5]
                    simp only [WK, simprocAttr, c56, n56, S00, ge_iff_le, gt_iff_lt, Cal.cells, eD, eO, get0, getk, set0, setk, List.append_assoc, Bool.bne_false, bne_self_eq_false, Bool.bne_true, p1, p1', p1'', p2, p2', q1, q1', p3, p3', p4, p4', q4, q4', p5, p5', q5, q5', p7, q8, q8']
                    exact Fin.lost hbel (.inr rfl) rfl rfl (by rw [show c.may = false from by simp [Cal.may, *]]; rfl) (.int _ _)
                · by_cases hD : c.D0 = true
                  · by_cases h8 : c.kind = 8
                    · have p1 : c.kind ≥ 1 := hge
                      have p1' : (1 : Int) ≤ c.kind := hge
                      have p1'' : ¬ c.kind < 1 := by omega
                      have p2 : c.kind ≤ 11 := hle
                      have p2' : ¬ (11 : Int) < c.kind := by omega
                      have q1 : (c.kind == 1) = false := bfF h1
                      have q1' : (c.kind != 1) = true := by simp [h1]
                      have p3 : (c.flags == 0) = true := bfT hF
                      have p3' : ((0 : Int) == c.flags) = true := bfT hF.symm
                      have p4 : ((c.bs.length : Int) == 0) = true := bfT (by omega)
                      have p4' : ¬ (0 : Int) < (c.bs.length : Int) := by omega
                      have q4 : (c.kind == 4) = false := bfF h4
                      have q4' : (c.kind != 4) = true := by simp [h4]
                      have p5 : (c.uid == 0) = true := bfT hU
                      have p5' : ((0 : Int) == c.uid) = true := bfT hU.symm
                      have q5 : (c.kind == 5) = false := bfF h5
                      have q5' : (c.kind != 5) = true := by simp [h5]
                      have p6 : c.D0 = true := hD
                      have q8 : (c.kind == 8) = true := bfT h8
                      have q8' : (c.kind != 8) = false := by simp [h8]
                      simp only [WK, simprocAttr, c56, n56, S00, ge_iff_le, gt_iff_lt, Cal.cells, eD, eO, get0, getk, set0, setk, List.append_assoc, Bool.bne_false, bne_self_eq_false, Bool.bne_true, p1, p1', p1'', p2, p2', q1, q1', p3, p3', p4, p4', q4, q4', p5, p5', q5, q5', p6, q8, q8']
                      exact Fin.lost hbel (.inr rfl) rfl rfl (by rw [show c.may = true from by simp [Cal.may, *]]; rfl) (.int _ _)
                    · by_cases hO : c.O0 = true
                      · have p1 : c.kind ≥ 1 := hge
                        have p1' : (1 : Int) ≤ c.kind := hge
                        have p1'' : ¬ c.kind < 1 := by omega
                        have p2 : c.kind ≤ 11 := hle
                        have p2' : ¬ (11 : Int) < c.kind := by omega
                        have q1 : (c.kind == 1) = false := bfF h1
                        have q1' : (c.kind != 1) = true := by simp [h1]
                        have p3 : (c.flags == 0) = true := bfT hF
                        have p3' : ((0 : Int) == c.flags) = true := bfT hF.symm
                        have p4 : ((c.bs.length : Int) == 0) = true := bfT (by omega)
                        have p4' : ¬ (0 : Int) < (c.bs.length : Int) := by omega
                        have q4 : (c.kind == 4) = false := bfF h4
                        have q4' : (c.kind != 4) = true := by simp [h4]
                        have p5 : (c.uid == 0) = true := bfT hU
                        have p5' : ((0 : Int) == c.uid) = true := bfT hU.symm
                        have q5 : (c.kind == 5) = false := bfF h5
                        have q5' : (c.kind != 5) = true := by simp [h5]
                        have p6 : c.D0 = true := hD
                        have q8 : (c.kind == 8) = false := bfF h8
                        have q8' : (c.kind != 8) = true := by simp [h8]
                        have p7 : c.O0 = true := hO
                        simp only [WK, simprocAttr, c56, n56, S00, ge_iff_le, gt_iff_lt, Cal.cells, eD, eO, get0, getk, set0, setk, List.append_assoc, Bool.bne_false, bne_self_eq_false, Bool.bne_true, p1, p1', p1'', p2, p2', q1, q1', p3, p3', p4, p4', q4, q4', p5, p5', q5, q5', p6, q8, q8', p7]
                        exact Fin.lost hbel (.inr rfl) rfl rfl (by rw [show c.may = true from by simp [Cal.may, *]]; rfl) (.int _ _)
                      · have p1 : c.kind ≥ 1 := hge
                        have p1' : (1 : Int) ≤ c.kind := hge
                        have p1'' : ¬ c.kind < 1 := by omega
                        have p2 : c.kind ≤ 11 := hle
                        have p2' : ¬ (11 : Int) < c.kind := by omega
                        have q1 : (c.kind == 1) = false := bfF h1
                        have q1' : (c.kind != 1) = true := by simp [h1]
                        have p3 : (c.flags == 0) = true := bfT hF
                        have p3' : ((0 : Int) == c.flags) = true := bfT hF.symm
                        have p4 : ((c.bs.length : Int) == 0) = true := bfT (by omega)
                        have p4' : ¬ (0 : Int) < (c.bs.length : Int) := by omega
                        have q4 : (c.kind == 4) = false := bfF h4
                        have q4' : (c.kind != 4) = true := by simp [h4]
                        have p5 : (c.uid == 0) = true := bfT hU
                        have p5' : ((0 : Int) == c.uid) = true := bfT hU.symm
                        have q5 : (c.kind == 5) = false := bfF h5
                        have q5' : (c.kind != 5) = true := by simp [h5]
                        have p6 : c.D0 = true := hD
                        have q8 : (c.kind == 8) = false := bfF h8
                        have q8' : (c.kind != 8) = true := by simp [h8]
                        have p7 : c.O0 = false := by simpa using hO
                        simp only [WK, simprocAttr, c56, n56, S00, ge_iff_le, gt_iff_lt, Cal.cells, eD, eO, get0, getk, set0, setk, List.append_assoc, Bool.bne_false, bne_self_eq_false, Bool.bne_true, p1, p1', p1'', p2, p2', q1, q1', p3, p3', p4, p4', q4, q4', p5, p5', q5, q5', p6, q8, q8', p7]
                        exact Fin.lost hbel (.inr rfl) rfl rfl (by rw [show c.may = false from by simp [Cal.may, *]]; rfl) (.int _ _)
                  · have p1 : c.kind ≥ 1 := hge
                    have p1' : (1 : Int) ≤ c.kind := hge
                    have p1'' : ¬ c.kind < 1 := by omega
                    have p2 : c.kind ≤ 11 := hle
                    have p2' : ¬ (11 : Int) < c.kind := by omega
                    have q1 : (c.kind == 1) = false := bfF h1
                    have q1' : (c.kind != 1) = true := by simp [h1]
                    have p3 : (c.flags == 0) = true := bfT hF
                    have p3' : ((0 : Int) == c.flags) = true := bfT hF.symm
                    have p4 : ((c.bs.length : Int) == 0) = true := bfT (by omega)
                    have p4' : ¬ (0 : Int) < (c.bs.length : Int) := by omega
                    have q4 : (c.kind == 4) = false := bfF h4
                    have q4' : (c.kind != 4) = true := by simp [h4]
                    have p5 : (c.uid == 0) = true := bfT hU
                    have p5' : ((0 : Int) == c.uid) = true := bfT hU.symm
                    have q5 : (c.kind == 5) = false := bfF h5
                    have q5' : (c.kind != 5) = true := by simp [h5]
                    have p6 : c.D0 = false := by simpa using hD
                    simp only [WK, simprocAttr, c56, n56, S00, ge_iff_le, gt_iff_lt, Cal.cells, eD, eO, get0, getk, set0, setk, List.append_assoc, Bool.bne_false, bne_self_eq_false, Bool.bne_true, p1, p1', p1'', p2, p2', q1, q1', p3, p3', p4, p4', q4, q4', p5, p5', q5, q5', p6]
                    exact Fin.lost hbel (.inr rfl) rfl rfl (by rw [show c.may = false from by simp [Cal.may, *]]; rfl) (.int _ _)
              · have p1 : c.kind ≥ 1 := hge
                have p1' : (1 : Int) ≤ c.kind := hge
                have p1'' : ¬ c.kind < 1 := by omega
                have p2 : c.kind ≤ 11 := hle
                have p2' : ¬ (11 : Int) < c.kind := by omega
                have q1 : (c.kind == 1) = false := bfF h1
                have q1' : (c.kind != 1) = true := by simp [h1]
                have p3 : (c.flags == 0) = true := bfT hF
                have p3' : ((0 : Int) == c.flags) = true := bfT hF.symm
                have p4 : ((c.bs.length : Int) == 0) = true := bfT (by omega)
                have p4' : ¬ (0 : Int) < (c.bs.length : Int) := by omega
                have q4 : (c.kind == 4) = false := bfF h4
                have q4' : (c.kind != 4) = true := by simp [h4]
                have p5 : (c.uid == 0) = false := bfF hU
                have p5' : ((0 : Int) == c.uid) = false := bfF (fun e => hU e.symm)
                simp only [WK, simprocAttr, c56, n56, S00, ge_iff_le, gt_iff_lt, Cal.cells, eD, eO, get0, getk, set0, setk, List.append_assoc, Bool.bne_false, bne_self_eq_false, Bool.bne_true, p1, p1', p1'', p2, p2', q1, q1', p3, p3', p4, p4', q4, q4', p5, p5']
                exact Fin.lost hbel (.inr rfl) rfl rfl (by rw [show c.may = false from by simp [Cal.may, *]]; rfl) (.int _ _)
          · have p1 : c.kind ≥ 1 := hge
            have p1' : (1 : Int) ≤ c.kind := hge
            have p1'' : ¬ c.kind < 1 := by omega
            have p2 : c.kind ≤ 11 := hle
            have p2' : ¬ (11 : Int) < c.kind := by omega
            have q1 : (c.kind == 1) = false := bfF h1
            have q1' : (c.kind != 1) = true := by simp [h1]
            have p3 : (c.flags == 0) = true := bfT hF
            have p3' : ((0 : Int) == c.flags) = true := bfT hF.symm
            have p4 : ((c.bs.length : Int) == 0) = false := bfF (by omega)
            have p4' : (0 : Int) < (c.bs.length : Int) := by omega
            simp only [WK, simprocAttr, c56, n56, S00, ge_iff_le, gt_iff_lt, Cal.cells, eD, eO, get0, getk, set0, setk, List.append_assoc, Bool.bne_false, bne_self_eq_false, Bool.bne_true, p1, p1', p1'', p2, p2', q1, q1', p3, p3', p4, p4']
            exact Fin.lost hbel (.inr rfl) rfl rfl (by rw [show c.may = false from by simp [Cal.may, *]]; rfl) (.int _ _)
        · by_cases hB : c.bs.length = 0
          · have p1 : c.kind ≥ 1 := hge
            have p1' : (1 : Int) ≤ c.kind := hge
            have p1'' : ¬ c.kind < 1 := by omega
            have p2 : c.kind ≤ 11 := hle
            have p2' : ¬ (11 : Int) < c.kind := by omega
            have q1 : (c.kind == 1) = false := bfF h1
            have q1' : (c.kind != 1) = true := by simp [h1]
            have p3 : (c.flags == 0) = false := bfF hF
            have p3' : ((0 : Int) == c.flags) = false := bfF (fun e => hF e.symm)
            have p4 : ((c.bs.length : Int) == 0) = true := bfT (by omega)
            have p4' : ¬ (0 : Int) < (c.bs.length : Int) := by omega
            simp only [WK, simprocAttr, c56, n56, S00, ge_iff_le, gt_iff_lt, Cal.cells, eD, eO, get0, getk, set0, setk, List.append_assoc, Bool.bne_false, bne_self_eq_false, Bool.bne_true, p1, p1', p1'', p2, p2', q1, q1', p3, p3', p4, p4']
            exact Fin.lost hbel (.inr rfl) rfl rfl (by rw [show c.may = false from by simp [Cal.may, *]]; rfl) (.int _ _)
          · have p1 : c.kind ≥ 1 := hge
            have p1' : (1 : Int) ≤ c.kind := hge
            have p1'' : ¬ c.kind < 1 := by omega
            have p2 : c.kind ≤ 11 := hle
            have p2' : ¬ (11 : Int) < c.kind := by omega
            have q1 : (c.kind == 1) = false := bfF h1
            have q1' : (c.kind != 1) = true := by simp [h1]
            have p3 : (c.flags == 0) = false := bfF hF
            have p3' : ((0 : Int) == c.flags) = false := bfF (fun e => hF e.symm)
            have p4 : ((c.bs.length : Int) == 0) = false := bfF (by omega)
            have p4' : (0 : Int) < (c.bs.length : Int) := by omega
            simp only [WK, simprocAttr, c56, n56, S00, ge_iff_le, gt_iff_lt, Cal.cells, eD, eO, get0, getk, set0, setk, List.append_assoc, Bool.bne_false, bne_self_eq_false, Bool.bne_true, p1, p1', p1'', p2, p2', q1, q1', p3, p3', p4, p4']
            exact Fin.lost hbel (.inr rfl) rfl rfl (by rw [show c.may = false from by simp [Cal.may, *]]; rfl) (.int _ _)
    · have p1 : c.kind ≥ 1 := hge
      have p1' : (1 : Int) ≤ c.kind := hge
      have p1'' : ¬ c.kind < 1 := by omega
      have p2 : ¬ c.kind ≤ 11 := hle
      have p2' : (11 : Int) < c.kind := by omega
      have q1 : (c.kind == 1) = false := bfF (by omega)
      have q1' : (c.kind != 1) = true := by simp; omega
      have q4 : (c.kind == 4) = false := bfF (by omega)
      have q4' : (c.kind != 4) = true := by simp; omega
      have q5 : (c.kind == 5) = false := bfF (by omega)
      have q5' : (c.kind != 5) = true := by simp; omega
      have q8 : (c.kind == 8) = false := bfF (by omega)
      have q8' : (c.kind != 8) = true := by simp; omega
      simp only [WK, simprocAttr, c56, n56, S00, ge_iff_le, gt_iff_lt, Cal.cells, eD, eO, get0, getk, set0, setk, List.append_assoc, Bool.bne_false, bne_self_eq_false, Bool.bne_true, p1, p1', p1'', p2, p2', q1, q1', q4, q4', q5, q5', q8, q8']
      exact Fin.lost hbel (.inr rfl) rfl rfl (by rw [show c.may = false from by simp [Cal.may, *]]; rfl) (.int _ _)
  · have p1' : ¬ (1 : Int) ≤ c.kind := hge
    have p1'' : c.kind < 1 := by omega
    have q1 : (c.kind == 1) = false := bfF (by omega)
    have q1' : (c.kind != 1) = true := by simp; omega
    have q4 : (c.kind == 4) = false := bfF (by omega)
    have q4' : (c.kind != 4) = true := by simp; omega
    have q5 : (c.kind == 5) = false := bfF (by omega)
    have q5' : (c.kind != 5) = true := by simp; omega
    have q8 : (c.kind == 8) = false := bfF (by omega)
    have q8' : (c.kind != 8) = true := by simp; omega
    simp only [WK, simprocAttr, c56, n56, S00, ge_iff_le, gt_iff_lt, Cal.cells, eD, eO, get0, getk, set0, setk, List.append_assoc, Bool.bne_false, bne_self_eq_false, Bool.bne_true, p1', p1'', q1, q1', q4, q4', q5, q5', q8, q8']
    exact Fin.lost hbel (.inr rfl) rfl rfl (by rw [show c.may = false from by simp [Cal.may, *]]; rfl) (.int _ _)
theorem k66 (c : Cal) (h : AHeap) : ACall PA 66 [.agg c.cells] h (.bool c.may) h := by
  refine ACall.ofG S00ok hmA h66 (by kernel_rfl) (Nat.le_of_ble_eq_true rfl) (Hstay.refl h) fun hbel => aS_den ?_
  by_cases hge : 1 ≤ c.kind
  · by_cases hle : c.kind ≤ 11
    · by_cases h1 : c.kind = 1
      · by_cases hU : c.uid = 0
        · by_cases hD : c.D0 = true
          · by_cases hO : c.O0 = true
            · have p1 : c.kind ≥ 1 := hge
              have p1' : (1 : Int) ≤ c.kind := hge
              have p1'' : ¬ c.kind < 1 := by omega
              have p2 : c.kind ≤ 11 := hle
              have p2' : ¬ (11 : Int) < c.kind := by omega
              have q1 : (c.kind == 1) = true := bfT h1
              have q1' : (c.kind != 1) = false := by simp [h1]
              have p5 : (c.uid == 0) = true := bfT hU
              have p5' : ((0 : Int) == c.uid) = true := bfT hU.symm
              have p6 : c.D0 = true := hD
              have p7 : c.O0 = true := hO
              have q4 : (c.kind == 4) = false := bfF (by omega)
              have q4' : (c.kind != 4) = true := by simp [h1]
              have q5 : (c.kind == 5) = false := bfF (by omega)
              have q5' : (c.kind != 5) = true := by simp [h1]
              have q8 : (c.kind == 8) = false := bfF (by omega)
              have q8' : (c.kind != 8) = true := by simp [h1]
              simp only [WK, simprocAttr, c66, n66, S00, ge_iff_le, gt_iff_lt, Cal.cells, eD', eO', eDD, eOO, get0, getk, set0, setk, List.append_assoc, Bool.bne_false, bne_self_eq_false, Bool.bne_true, beq_self_eq_true, p1, p1', p1'', p2, p2', q1, q1', p5, p5', p6, p7, q4, q4', q5, q5', q8, q8']
              exact Fin.lost hbel (.inr rfl) rfl rfl (by rw [show c.may = true from by simp [Cal.may, *]]; rfl) (.bool _)
            · have p1 : c.kind ≥ 1 := hge
              have p1' : (1 : Int) ≤ c.kind := hge
              have p1'' : ¬ c.kind < 1 := by omega
              have p2 : c.kind ≤ 11 := hle
              have p2' : ¬ (11 : Int) < c.kind := by omega
              have q1 : (c.kind == 1) = true := bfT h1
              have q1' : (c.kind != 1) = false := by simp [h1]
              have p5 : (c.uid == 0) = true := bfT hU
              have p5' : ((0 : Int) == c.uid) = true := bfT hU.symm
              have p6 : c.D0 = true := hD
              have p7 : c.O0 = false := by simpa using hO
              have q4 : (c.kind == 4) = false := bfF (by omega)
              have q4' : (c.kind != 4) = true := by simp [h1]
              have q5 : (c.kind == 5) = false := bfF (by omega)
              have q5' : (c.kind != 5) = true := by simp [h1]
              have q8 : (c.kind == 8) = false := bfF (by omega)
              have q8' : (c.kind != 8) = true := by simp [h1]
              simp only [WK, simprocAttr, c66, n66, S00, ge_iff_le, gt_iff_lt, Cal.cells, eD', eO', eDD, eOO, get0, getk, set0, setk, List.append_assoc, Bool.bne_false, bne_self_eq_false, Bool.bne_true, beq_self_eq_true, p1, p1', p1'', p2, p2', q1, q1', p5, p5', p6, p7, q4, q4', q5, q5', q8, q8']
              exact Fin.lost hbel (.inr rfl) rfl rfl (by rw [show c.may = false from by simp [Cal.may, *]]; rfl) (.bool _)
          · have p1 : c.kind ≥ 1 := hge
            have p1' : (1 : Int) ≤ c.kind := hge
            have p1'' : ¬ c.kind < 1 := by omega
            have p2 : c.kind ≤ 11 := hle
            have p2' : ¬ (11 : Int) < c.kind := by omega
            have q1 : (c.kind == 1) = true := bfT h1
            have q1' : (c.kind != 1) = false := by simp [h1]
            have p5 : (c.uid == 0) = true := bfT hU
            have p5' : ((0 : Int) == c.uid) = true := bfT hU.symm
            have p6 : c.D0 = false := by simpa using hD
            have q4 : (c.kind == 4) = false := bfF (by omega)
            have q4' : (c.kind != 4) = true := by simp [h1]
            have q5 : (c.kind == 5) = false := bfF (by omega)
            have q5' : (c.kind != 5) = true := by simp [h1]
            have q8 : (c.kind == 8) = false := bfF (by omega)
            have q8' : (c.kind != 8) = true := by simp [h1]
            simp only [WK, simprocAttr, c66, n66, S00, ge_iff_le, gt_iff_lt, Cal.cells, eD', eO', eDD, eOO, get0, getk, set0, setk, List.append_assoc, Bool.bne_false, bne_self_eq_false, Bool.bne_true, beq_self_eq_true, p1, p1', p1'', p2, p2', q1, q1', p5, p5', p6, q4, q4', q5, q5', q8, q8']
            exact Fin.lost hbel (.inr rfl) rfl rfl (by rw [show c.may = false from by simp [Cal.may, *]]; rfl) (.bool _)
        · have p1 : c.kind ≥ 1 := hge
          have p1' : (1 : Int) ≤ c.kind := hge
          have p1'' : ¬ c.kind < 1 := by omega
          have p2 : c.kind ≤ 11 := hle
          have p2' : ¬ (11 : Int) < c.kind := by omega
          have q1 : (c.kind == 1) = true := bfT h1
          have q1' : (c.kind != 1) = false := by simp [h1]
          have p5 : (c.uid == 0) = false := bfF hU
          have p5' : ((0 : Int) == c.uid) = false := bfF (fun e => hU e.symm)
          have q4 : (c.kind == 4) = false := bfF (by omega)
          have q4' : (c.kind != 4) = true := by simp [h1]
          have q5 : (c.kind == 5) = false := bfF (by omega)
          have q5' : (c.kind != 5) = true := by simp [h1]
          have q8 : (c.kind == 8) = false := bfF (by omega)
          have q8' : (c.kind != 8) = true := by simp [h1]
          simp only [WK, simprocAttr, c66, n66, S00, ge_iff_le, gt_iff_lt, Cal.cells, eD', eO', eDD, eOO, get0, getk, set0, setk, List.append_assoc, Bool.bne_false, bne_self_eq_false, Bool.bne_true, beq_self_eq_true, p1, p1', p1'', p2, p2', q1, q1', p5, p5', q4, q4', q5, q5', q8, q8']
          exact Fin.lost hbel (.inr rfl) rfl rfl (by rw [show c.may = false from by simp [Cal.may, *]]; rfl) (.bool _)
      · by_cases hF : c.flags = 0
        · by_cases hB : c.bs.length = 0
          · by_cases h4 : c.kind = 4
            · by_cases hD : c.D0 = true
              · by_cases hO : c.O0 = true
                · have p1 : c.kind ≥ 1 := hge
                  have p1' : (1 : Int) ≤ c.kind := hge
                  have p1'' : ¬ c.kind < 1 := by omega
                  have p2 : c.kind ≤ 11 := hle
                  have p2' : ¬ (11 : Int) < c.kind := by omega
                  have q1 : (c.kind == 1) = false := bfF h1
                  have q1' : (c.kind != 1) = true := by simp [h1]
                  have p3 : (c.flags == 0) = true := bfT hF
                  have p3' : ((0 : Int) == c.flags) = true := bfT hF.symm
                  have p4 : ((c.bs.length : Int) == 0) = true := bfT (by omega)
                  have p4' : ¬ (0 : Int) < (c.bs.length : Int) := by omega
                  have q4 : (c.kind == 4) = true := bfT h4
                  have q4' : (c.kind != 4) = false := by simp [h4]
                  have p6 : c.D0 = true := hD
                  have p7 : c.O0 = true := hO
                  have q5 : (c.kind == 5) = false := bfF (by omega)
                  have q5' : (c.kind != 5) = true := by simp [h4]
                  have q8 : (c.kind == 8) = false := bfF (by omega)
                  have q8' : (c.kind != 8) = true := by simp [h4]
                  simp only [WK, simprocAttr, c66, n66, S00, ge_iff_le, gt_iff_lt, Cal.cells, eD', eO', eDD, eOO, get0, getk, set0, setk, List.append_assoc, Bool.bne_false, bne_self_eq_false, Bool.bne_true, beq_self_eq_true, p1, p1', p1'', p2, p2', q1, q1', p3, p3', p4, p4', q4, q4', p6, p7, q5, q5', q8, q8']
                  exact Fin.lost hbel (.inr rfl) rfl rfl (by rw [show c.may = true from by simp [Cal.may, *]]; rfl) (.bool _)
                · have p1 : c.kind ≥ 1 := hge
                  have p1' : (1 : Int) ≤ c.kind := hge
                  have p1'' : ¬ c.kind < 1 := by omega
                  have p2 : c.kind ≤ 11 := hle
                  have p2' : ¬ (11 : Int) < c.kind := by omega
                  have q1 : (c.kind == 1) = false := bfF h1
                  have q1' : (c.kind != 1) = true := by simp [h1]
                  have p3 : (c.flags == 0) = true := bfT hF
                  have p3' : ((0 : Int) == c.flags) = true := bfT hF.symm
                  have p4 : ((c.bs.length : Int) == 0) = true := bfT (by omega)
                  have p4' : ¬ (0 : Int) < (c.bs.length : Int) := by omega
                  have q4 : (c.kind == 4) = true := bfT h4
                  have q4' : (c.kind != 4) = false := by simp [h4]
                  have p6 : c.D0 = true := hD
                  have p7 : c.O0 = false := by simpa using hO
                  have q5 : (c.kind == 5) = false := bfF (by omega)
                  have q5' : (c.kind != 5) = true := by simp [h4]
                  have q8 : (c.kind == 8) = false := bfF (by omega)
                  have q8' : (c.kind != 8) = true := by simp [h4]
                  simp only [WK, simprocAttr, c66, n66, S00, ge_iff_le, gt_iff_lt, Cal.cells, eD', eO', eDD, eOO, get0, getk, set0, setk, List.append_assoc, Bool.bne_false, bne_self_eq_false, Bool.bne_true, beq_self_eq_true, p1, p1', p1'', p2, p2', q1, q1', p3, p3', p4, p4', q4, q4', p6, p7, q5, q5', q8, q8']
                  exact Fin.lost hbel (.inr rfl) rfl rfl (by rw [show c.may = false from by simp [Cal.may, *]]; rfl) (.bool _)
              · have p1 : c.kind ≥ 1 := hge
                have p1' : (1 : Int) ≤ c.kind := hge
                have p1'' : ¬ c.kind < 1 := by omega
                have p2 : c.kind ≤ 11 := hle
                have p2' : ¬ (11 : Int) < c.kind := by omega
                have q1 : (c.kind == 1) = false := bfF h1
                have q1' : (c.kind != 1) = true := by simp [h1]
                have p3 : (c.flags == 0) = true := bfT hF
                have p3' : ((0 : Int) == c.flags) = true := bfT hF.symm
                have p4 : ((c.bs.length : Int) == 0) = true := bfT (by omega)
                have p4' : ¬ (0 : Int) < (c.bs.length : Int) := by omega
                have q4 : (c.kind == 4) = true := bfT h4
                have q4' : (c.kind != 4) = false := by simp [h4]
                have p6 : c.D0 = false := by simpa using hD
                have q5 : (c.kind == 5) = false := bfF (by omega)
                have q5' : (c.kind != 5) = true := by simp [h4]
                have q8 : (c.kind == 8) = false := bfF (by omega)
                have q8' : (c.kind != 8) = true := by simp [h4]
                simp only [WK, simprocAttr, c66, n66, S00, ge_iff_le, gt_iff_lt, Cal.cells, eD', eO', eDD, eOO, get0, getk, set0, setk, List.append_assoc, Bool.bne_false, bne_self_eq_false, Bool.bne_true, beq_self_eq_true, p1, p1', p1'', p2, p2', q1, q1', p3, p3', p4, p4', q4, q4', p6, q5, q5', q8, q8']
                exact Fin.lost hbel (.inr rfl) rfl rfl (by rw [show c.may = false from by simp [Cal.may, *]]; rfl) (.bool _)
            · by_cases hU : c.uid = 0
              · by_cases h5 : c.kind = 5
                · by_cases hO : c.O0 = true
                  · have p1 : c.kind ≥ 1 := hge
                    have p1' : (1 : Int) ≤ c.kind := hge
                    have p1'' : ¬ c.kind < 1 := by omega
                    have p2 : c.kind ≤ 11 := hle
                    have p2' : ¬ (11 : Int) < c.kind := by omega
                    have q1 : (c.kind == 1) = false := bfF h1
                    have q1' : (c.kind != 1) = true := by simp [h1]
                    have p3 : (c.flags == 0) = true := bfT hF
                    have p3' : ((0 : Int) == c.flags) = true := bfT hF.symm
                    have p4 : ((c.bs.length : Int) == 0) = true := bfT (by omega)
                    have p4' : ¬ (0 : Int) < (c.bs.length : Int) := by omega
                    have q4 : (c.kind == 4) = false := bfF h4
                    have q4' : (c.kind != 4) = true := by simp [h4]
                    have p5 : (c.uid == 0) = true := bfT hU
                    have p5' : ((0 : Int) == c.uid) = true := bfT hU.symm
                    have q5 : (c.kind == 5) = true := bfT h5
                    have q5' : (c.kind != 5) = false := by simp [h5]
                    have p7 : c.O0 = true := hO
                    have q8 : (c.kind == 8) = false := bfF (by omega)
                    have q8' : (c.kind != 8) = true := by simp [h5]
                    simp only [WK, simprocAttr, c66, n66, S00, ge_iff_le, gt_iff_lt, Cal.cells, eD', eO', eDD, eOO, get0, getk, set0, setk, List.append_assoc, Bool.bne_false, bne_self_eq_false, Bool.bne_true, beq_self_eq_true, p1, p1', p1'', p2, p2', q1, q1', p3, p3', p4, p4', q4, q4', p5, p5', q5, q5', p7, q8, q8']
                    exact Fin.lost hbel (.inr rfl) rfl rfl (by rw [show c.may = true from by simp [Cal.may, *]]; rfl) (.bool _)
                  · have p1 : c.kind ≥ 1 := hge
                    have p1' : (1 : Int) ≤ c.kind := hge
                    have p1'' : ¬ c.kind < 1 := by omega
                    have p2 : c.kind ≤ 11 := hle
                    have p2' : ¬ (11 : Int) < c.kind := by omega
                    have q1 : (c.kind == 1) = false := bfF h1
                    have q1' : (c.kind != 1) = true := by simp [h1]
                    have p3 : (c.flags == 0) = true := bfT hF
                    have p3' : ((0 : Int) == c.flags) = true := bfT hF.symm
                    have p4 : ((c.bs.length : Int) == 0) = true := bfT (by omega)
                    have p4' : ¬ (0 : Int) < (c.bs.length : Int) := by omega
                    have q4 : (c.kind == 4) = false := bfF h4
                    have q4' : (c.kind != 4) = true := by simp [h4]
                    have p5 : (c.uid == 0) = true := bfT hU
                    have p5' : ((0 : Int) == c.uid) = true := bfT hU.symm
                    have q5 : (c.kind == 5) = true := bfT h5
                    have q5' : (c.kind != 5) = false := by simp [h5]
                    have p7 : c.O0 = false := by simpa using hO
                    have q8 : (c.kind == 8) = false := bfF (by omega)
                    have q8' : (c.kind != 8) = true := by simp [h5]
                    simp only [WK, simprocAttr, c66, n66, S00, ge_iff_le, gt_iff_lt, Cal.cells, eD', eO', eDD, eOO, get0, getk, set0, setk, List.append_assoc, Bool.bne_false, bne_self_eq_false, Bool.bne_true, beq_self_eq_true, p1, p1', p1'', p2, p2', q1, q1', p3, p3', p4, p4', q4, q4', p5, p5', q5, q5', p7, q8, q8']
                    exact Fin.lost hbel (.inr rfl) rfl rfl (by rw [show c.may = false from by simp [Cal.may, *]]; rfl) (.bool _)
                · by_cases hD : c.D0 = true
                  · by_cases h8 : c.kind = 8
                    · have p1 : c.kind ≥ 1 := hge
                      have p1' : (1 : Int) ≤ c.kind := hge
                      have p1'' : ¬ c.kind < 1 := by omega
                      have p2 : c.kind ≤ 11 := hle
                      have p2' : ¬ (11 : Int) < c.kind := by omega
                      have q1 : (c.kind == 1) = false := bfF h1
                      have q1' : (c.kind != 1) = true := by simp [h1]
                      have p3 : (c.flags == 0) = true := bfT hF
                      have p3' : ((0 : Int) == c.flags) = true := bfT hF.symm
                      have p4 : ((c.bs.length : Int) == 0) = true := bfT (by omega)
                      have p4' : ¬ (0 : Int) < (c.bs.length : Int) := by omega
                      have q4 : (c.kind == 4) = false := bfF h4
                      have q4' : (c.kind != 4) = true := by simp [h4]
                      have p5 : (c.uid == 0) = true := bfT hU
                      have p5' : ((0 : Int) == c.uid) = true := bfT hU.symm
                      have q5 : (c.kind == 5) = false := bfF h5
                      have q5' : (c.kind != 5) = true := by simp [h5]
                      have p6 : c.D0 = true := hD
                      have q8 : (c.kind == 8) = true := bfT h8
                      have q8' : (c.kind != 8) = false := by simp [h8]
                      simp only [WK, simprocAttr, c66, n66, S00, ge_iff_le, gt_iff_lt, Cal.cells, eD', eO', eDD, eOO, get0, getk, set0, setk, List.append_assoc, Bool.bne_false, bne_self_eq_false, Bool.bne_true, beq_self_eq_true, p1, p1', p1'', p2, p2', q1, q1', p3, p3', p4, p4', q4, q4', p5, p5', q5, q5', p6, q8, q8']
                      exact Fin.lost hbel (.inr rfl) rfl rfl (by rw [show c.may = true from by simp [Cal.may, *]]; rfl) (.bool _)
                    · by_cases hO : c.O0 = true
                      · have p1 : c.kind ≥ 1 := hge
                        have p1' : (1 : Int) ≤ c.kind := hge
                        have p1'' : ¬ c.kind < 1 := by omega
                        have p2 : c.kind ≤ 11 := hle
                        have p2' : ¬ (11 : Int) < c.kind := by omega
                        have q1 : (c.kind == 1) = false := bfF h1
                        have q1' : (c.kind != 1) = true := by simp [h1]
                        have p3 : (c.flags == 0) = true := bfT hF
                        have p3' : ((0 : Int) == c.flags) = true := bfT hF.symm
                        have p4 : ((c.bs.length : Int) == 0) = true := bfT (by omega)
                        have p4' : ¬ (0 : Int) < (c.bs.length : Int) := by omega
                        have q4 : (c.kind == 4) = false := bfF h4
                        have q4' : (c.kind != 4) = true := by simp [h4]
                        have p5 : (c.uid == 0) = true := bfT hU
                        have p5' : ((0 : Int) == c.uid) = true := bfT hU.symm
                        have q5 : (c.kind == 5) = false := bfF h5
                        have q5' : (c.kind != 5) = true := by simp [h5]
                        have p6 : c.D0 = true := hD
                        have q8 : (c.kind == 8) = false := bfF h8
                        have q8' : (c.kind != 8) = true := by simp [h8]
                        have p7 : c.O0 = true := hO
                        simp only [WK, simprocAttr, c66, n66, S00, ge_iff_le, gt_iff_lt, Cal.cells, eD', eO', eDD, eOO, get0, getk, set0, setk, List.append_assoc, Bool.bne_false, bne_self_eq_false, Bool.bne_true, beq_self_eq_true, p1, p1', p1'', p2, p2', q1, q1', p3, p3', p4, p4', q4, q4', p5, p5', q5, q5', p6, q8, q8', p7]
                        exact Fin.lost hbel (.inr rfl) rfl rfl (by rw [show c.may = true from by simp [Cal.may, *]]; rfl) (.bool _)
                      · have p1 : c.kind ≥ 1 := hge
                        have p1' : (1 : Int) ≤ c.kind := hge
                        have p1'' : ¬ c.kind < 1 := by omega
                        have p2 : c.kind ≤ 11 := hle
                        have p2' : ¬ (11 : Int) < c.kind := by omega
                        have q1 : (c.kind == 1) = false := bfF h1
                        have q1' : (c.kind != 1) = true := by simp [h1]
                        have p3 : (c.flags == 0) = true := bfT hF
                        have p3' : ((0 : Int) == c.flags) = true := bfT hF.symm
                        have p4 : ((c.bs.length : Int) == 0) = true := bfT (by omega)
                        have p4' : ¬ (0 : Int) < (c.bs.length : Int) := by omega
                        have q4 : (c.kind == 4) = false := bfF h4
                        have q4' : (c.kind != 4) = true := by simp [h4]
                        have p5 : (c.uid == 0) = true := bfT hU
                        have p5' : ((0 : Int) == c.uid) = true := bfT hU.symm
                        have q5 : (c.kind == 5) = false := bfF h5
                        have q5' : (c.kind != 5) = true := by simp [h5]
                        have p6 : c.D0 = true := hD
                        have q8 : (c.kind == 8) = false := bfF h8
                        have q8' : (c.kind != 8) = true := by simp [h8]
                        have p7 : c.O0 = false := by simpa using hO
                        simp only [WK, simprocAttr, c66, n66, S00, ge_iff_le, gt_iff_lt, Cal.cells, eD', eO', eDD, eOO, get0, getk, set0, setk, List.append_assoc, Bool.bne_false, bne_self_eq_false, Bool.bne_true, beq_self_eq_true, p1, p1', p1'', p2, p2', q1, q1', p3, p3', p4, p4', q4, q4', p5, p5', q5, q5', p6, q8, q8', p7]
                        exact Fin.lost hbel (.inr rfl) rfl rfl (by rw [show c.may = false from by simp [Cal.may, *]]; rfl) (.bool _)
                  · by_cases h8 : c.kind = 8
                    · have p1 : c.kind ≥ 1 := hge
                      have p1' : (1 : Int) ≤ c.kind := hge
                      have p1'' : ¬ c.kind < 1 := by omega
                      have p2 : c.kind ≤ 11 := hle
                      have p2' : ¬ (11 : Int) < c.kind := by omega
                      have q1 : (c.kind == 1) = false := bfF h1
                      have q1' : (c.kind != 1) = true := by simp [h1]
                      have p3 : (c.flags == 0) = true := bfT hF
                      have p3' : ((0 : Int) == c.flags) = true := bfT hF.symm
                      have p4 : ((c.bs.length : Int) == 0) = true := bfT (by omega)
                      have p4' : ¬ (0 : Int) < (c.bs.length : Int) := by omega
                      have q4 : (c.kind == 4) = false := bfF h4
                      have q4' : (c.kind != 4) = true := by simp [h4]
                      have p5 : (c.uid == 0) = true := bfT hU
                      have p5' : ((0 : Int) == c.uid) = true := bfT hU.symm
                      have q5 : (c.kind == 5) = false := bfF h5
                      have q5' : (c.kind != 5) = true := by simp [h5]
                      have p6 : c.D0 = false := by simpa using hD
                      have q8 : (c.kind == 8) = true := bfT h8
                      have q8' : (c.kind != 8) = false := by simp [h8]
                      simp only [WK, simprocAttr, c66, n66, S00, ge_iff_le, gt_iff_lt, Cal.cells, eD', eO', eDD, eOO, get0, getk, set0, setk, List.append_assoc, Bool.bne_false, bne_self_eq_false, Bool.bne_true, beq_self_eq_true, p1, p1', p1'', p2, p2', q1, q1', p3, p3', p4, p4', q4, q4', p5, p5', q5, q5', p6, q8, q8']
                      exact Fin.lost hbel (.inr rfl) rfl rfl (by rw [show c.may = false from by simp [Cal.may, *]]; rfl) (.bool _)
                    · have p1 : c.kind ≥ 1 := hge
                      have p1' : (1 : Int) ≤ c.kind := hge
                      have p1'' : ¬ c.kind < 1 := by omega
                      have p2 : c.kind ≤ 11 := hle
                      have p2' : ¬ (11 : Int) < c.kind := by omega
                      have q1 : (c.kind == 1) = false := bfF h1
                      have q1' : (c.kind != 1) = true := by simp [h1]
                      have p3 : (c.flags == 0) = true := bfT hF
                      have p3' : ((0 : Int) == c.flags) = true := bfT hF.symm
                      have p4 : ((c.bs.length : Int) == 0) = true := bfT (by omega)
                      have p4' : ¬ (0 : Int) < (c.bs.length : Int) := by omega
                      have q4 : (c.kind == 4) = false := bfF h4
                      have q4' : (c.kind != 4) = true := by simp [h4]
                      have p5 : (c.uid == 0) = true := bfT hU
                      have p5' : ((0 : Int) == c.uid) = true := bfT hU.symm
                      have q5 : (c.kind == 5) = false := bfF h5
                      have q5' : (c.kind != 5) = true := by simp [h5]
                      have p6 : c.D0 = false := by simpa using hD
                      have q8 : (c.kind == 8) = false := bfF h8
                      have q8' : (c.kind != 8) = true := by simp [h8]
                      simp only [WK, simprocAttr, c66, n66, S00, ge_iff_le, gt_iff_lt, Cal.cells, eD', eO', eDD, eOO, get0, getk, set0, setk, List.append_assoc, Bool.bne_false, bne_self_eq_false, Bool.bne_true, beq_self_eq_true, p1, p1', p1'', p2, p2', q1, q1', p3, p3', p4, p4', q4, q4', p5, p5', q5, q5', p6, q8, q8']
                      exact Fin.lost hbel (.inr rfl) rfl rfl (by rw [show c.may = false from by simp [Cal.may, *]]; rfl) (.bool _)
              · by_cases h5 : c.kind = 5
                · have p1 : c.kind ≥ 1 := hge
                  have p1' : (1 : Int) ≤ c.kind := hge
                  have p1'' : ¬ c.kind < 1 := by omega
                  have p2 : c.kind ≤ 11 := hle
                  have p2' : ¬ (11 : Int) < c.kind := by omega
                  have q1 : (c.kind == 1) = false := bfF h1
                  have q1' : (c.kind != 1) = true := by simp [h1]
                  have p3 : (c.flags == 0) = true := bfT hF
                  have p3' : ((0 : Int) == c.flags) = true := bfT hF.symm
                  have p4 : ((c.bs.length : Int) == 0) = true := bfT (by omega)
                  have p4' : ¬ (0 : Int) < (c.bs.length : Int) := by omega
                  have q4 : (c.kind == 4) = false := bfF h4
                  have q4' : (c.kind != 4) = true := by simp [h4]
                  have p5 : (c.uid == 0) = false := bfF hU
                  have p5' : ((0 : Int) == c.uid) = false := bfF (fun e => hU e.symm)
                  have q5 : (c.kind == 5) = true := bfT h5
                  have q5' : (c.kind != 5) = false := by simp [h5]
                  have q8 : (c.kind == 8) = false := bfF (by omega)
                  have q8' : (c.kind != 8) = true := by simp [h5]
                  simp only [WK, simprocAttr, c66, n66, S00, ge_iff_le, gt_iff_lt, Cal.cells, eD', eO', eDD, eOO, get0, getk, set0, setk, List.append_assoc, Bool.bne_false, bne_self_eq_false, Bool.bne_true, beq_self_eq_true, p1, p1', p1'', p2, p2', q1, q1', p3, p3', p4, p4', q4, q4', p5, p5', q5, q5', q8, q8']
                  exact Fin.lost hbel (.inr rfl) rfl rfl (by rw [show c.may = false from by simp [Cal.may, *]]; rfl) (.bool _)
                · by_cases h8 : c.kind = 8
                  · have p1 : c.kind ≥ 1 := hge
                    have p1' : (1 : Int) ≤ c.kind := hge
                    have p1'' : ¬ c.kind < 1 := by omega
                    have p2 : c.kind ≤ 11 := hle
                    have p2' : ¬ (11 : Int) < c.kind := by omega
                    have q1 : (c.kind == 1) = false := bfF h1
                    have q1' : (c.kind != 1) = true := by simp [h1]
                    have p3 : (c.flags == 0) = true := bfT hF
                    have p3' : ((0 : Int) == c.flags) = true := bfT hF.symm
                    have p4 : ((c.bs.length : Int) == 0) = true := bfT (by omega)
                    have p4' : ¬ (0 : Int) < (c.bs.length : Int) := by omega
                    have q4 : (c.kind == 4) = false := bfF h4
                    have q4' : (c.kind != 4) = true := by simp [h4]
                    have p5 : (c.uid == 0) = false := bfF hU
                    have p5' : ((0 : Int) == c.uid) = false := bfF (fun e => hU e.symm)
                    have q5 : (c.kind == 5) = false := bfF h5
                    have q5' : (c.kind != 5) = true := by simp [h5]
                    have q8 : (c.kind == 8) = true := bfT h8
                    have q8' : (c.kind != 8) = false := by simp [h8]
                    simp only [WK, simprocAttr, c66, n66, S00, ge_iff_le, gt_iff_lt, Cal.cells, eD', eO', eDD, eOO, get0, getk, set0, setk, List.append_assoc, Bool.bne_false, bne_self_eq_false, Bool.bne_true, beq_self_eq_true, p1, p1', p1'', p2, p2', q1, q1', p3, p3', p4, p4', q4, q4', p5, p5', q5, q5', q8, q8']
                    exact Fin.lost hbel (.inr rfl) rfl rfl (by rw [show c.may = false from by simp [Cal.may, *]]; rfl) (.bool _)
                  · have p1 : c.kind ≥ 1 := hge
                    have p1' : (1 : Int) ≤ c.kind := hge
                    have p1'' : ¬ c.kind < 1 := by omega
                    have p2 : c.kind ≤ 11 := hle
                    have p2' : ¬ (11 : Int) < c.kind := by omega
                    have q1 : (c.kind == 1) = false := bfF h1
                    have q1' : (c.kind != 1) = true := by simp [h1]
                    have p3 : (c.flags == 0) = true := bfT hF
                    have p3' : ((0 : Int) == c.flags) = true := bfT hF.symm
                    have p4 : ((c.bs.length : Int) == 0) = true := bfT (by omega)
                    have p4' : ¬ (0 : Int) < (c.bs.length : Int) := by omega
                    have q4 : (c.kind == 4) = false := bfF h4
                    have q4' : (c.kind != 4) = true := by simp [h4]
                    have p5 : (c.uid == 0) = false := bfF hU
                    have p5' : ((0 : Int) == c.uid) = false := bfF (fun e => hU e.symm)
                    have q5 : (c.kind == 5) = false := bfF h5
                    have q5' : (c.kind != 5) = true := by simp [h5]
                    have q8 : (c.kind == 8) = false := bfF h8
                    have q8' : (c.kind != 8) = true := by simp [h8]
                    simp only [WK, simprocAttr, c66, n66, S00, ge_iff_le, gt_iff_lt, Cal.cells, eD', eO', eDD, eOO, get0, getk, set0, setk, List.append_assoc, Bool.bne_false, bne_self_eq_false, Bool.bne_true, beq_self_eq_true, p1, p1', p1'', p2, p2', q1, q1', p3, p3', p4, p4', q4, q4', p5, p5', q5, q5', q8, q8']
                    exact Fin.lost hbel (.inr rfl) rfl rfl (by rw [show c.may = false from by simp [Cal.may, *]]; rfl) (.bool _)
          · by_cases h4 : c.kind = 4
            · have p1 : c.kind ≥ 1 := hge
              have p1' : (1 : Int) ≤ c.kind := hge
              have p1'' : ¬ c.kind < 1 := by omega
              have p2 : c.kind ≤ 11 := hle
              have p2' : ¬ (11 : Int) < c.kind := by omega
              have q1 : (c.kind == 1) = false := bfF h1
              have q1' : (c.kind != 1) = true := by simp [h1]
              have p3 : (c.flags == 0) = true := bfT hF
              have p3' : ((0 : Int) == c.flags) = true := bfT hF.symm
              have p4 : ((c.bs.length : Int) == 0) = false := bfF (by omega)
              have p4' : (0 : Int) < (c.bs.length : Int) := by omega
              have q4 : (c.kind == 4) = true := bfT h4
              have q4' : (c.kind != 4) = false := by simp [h4]
              have q5 : (c.kind == 5) = false := bfF (by omega)
              have q5' : (c.kind != 5) = true := by simp [h4]
              have q8 : (c.kind == 8) = false := bfF (by omega)
              have q8' : (c.kind != 8) = true := by simp [h4]
              simp only [WK, simprocAttr, c66, n66, S00, ge_iff_le, gt_iff_lt, Cal.cells, eD', eO', eDD, eOO, get0, getk, set0, setk, List.append_assoc, Bool.bne_false, bne_self_eq_false, Bool.bne_true, beq_self_eq_true, p1, p1', p1'', p2, p2', q1, q1', p3, p3', p4, p4', q4, q4', q5, q5', q8, q8']
              exact Fin.lost hbel (.inr rfl) rfl rfl (by rw [show c.may = false from by simp [Cal.may, *]]; rfl) (.bool _)
            · by_cases h5 : c.kind = 5
              · have p1 : c.kind ≥ 1 := hge
                have p1' : (1 : Int) ≤ c.kind := hge
                have p1'' : ¬ c.kind < 1 := by omega
                have p2 : c.kind ≤ 11 := hle
                have p2' : ¬ (11 : Int) < c.kind := by omega
                have q1 : (c.kind == 1) = false := bfF h1
                have q1' : (c.kind != 1) = true := by simp [h1]
                have p3 : (c.flags == 0) = true := bfT hF
                have p3' : ((0 : Int) == c.flags) = true := bfT hF.symm
                have p4 : ((c.bs.length : Int) == 0) = false := bfF (by omega)
                have p4' : (0 : Int) < (c.bs.length : Int) := by omega
                have q4 : (c.kind == 4) = false := bfF h4
                have q4' : (c.kind != 4) = true := by simp [h4]
                have q5 : (c.kind == 5) = true := bfT h5
                have q5' : (c.kind != 5) = false := by simp [h5]
                have q8 : (c.kind == 8) = false := bfF (by omega)
                have q8' : (c.kind != 8) = true := by simp [h5]
                simp only [WK, simprocAttr, c66, n66, S00, ge_iff_le, gt_iff_lt, Cal.cells, eD', eO', eDD, eOO, get0, getk, set0, setk, List.append_assoc, Bool.bne_false, bne_self_eq_false, Bool.bne_true, beq_self_eq_true, p1, p1', p1'', p2, p2', q1, q1', p3, p3', p4, p4', q4, q4', q5, q5', q8, q8']
                exact Fin.lost hbel (.inr rfl) rfl rfl (by rw [show c.may = false from by simp [Cal.may, *]]; rfl) (.bool _)
              · by_cases h8 : c.kind = 8
                · have p1 : c.kind ≥ 1 := hge
                  have p1' : (1 : Int) ≤ c.kind := hge
                  have p1'' : ¬ c.kind < 1 := by omega
                  have p2 : c.kind ≤ 11 := hle
                  have p2' : ¬ (11 : Int) < c.kind := by omega
                  have q1 : (c.kind == 1) = false := bfF h1
                  have q1' : (c.kind != 1) = true := by simp [h1]
                  have p3 : (c.flags == 0) = true := bfT hF
                  have p3' : ((0 : Int) == c.flags) = true := bfT hF.symm
                  have p4 : ((c.bs.length : Int) == 0) = false := bfF (by omega)
                  have p4' : (0 : Int) < (c.bs.length : Int) := by omega
                  have q4 : (c.kind == 4) = false := bfF h4
                  have q4' : (c.kind != 4) = true := by simp [h4]
                  have q5 : (c.kind == 5) = false := bfF h5
                  have q5' : (c.kind != 5) = true := by simp [h5]
                  have q8 : (c.kind == 8) = true := bfT h8
                  have q8' : (c.kind != 8) = false := by simp [h8]
                  simp only [WK, simprocAttr, c66, n66, S00, ge_iff_le, gt_iff_lt, Cal.cells, eD', eO', eDD, eOO, get0, getk, set0, setk, List.append_assoc, Bool.bne_false, bne_self_eq_false, Bool.bne_true, beq_self_eq_true, p1, p1', p1'', p2, p2', q1, q1', p3, p3', p4, p4', q4, q4', q5, q5', q8, q8']
                  exact Fin.lost hbel (.inr rfl) rfl rfl (by rw [show c.may = false from by simp [Cal.may, *]]; rfl) (.bool _)
                · have p1 : c.kind ≥ 1 := hge
                  have p1' : (1 : Int) ≤ c.kind := hge
                  have p1'' : ¬ c.kind < 1 := by omega
                  have p2 : c.kind ≤ 11 := hle
                  have p2' : ¬ (11 : Int) < c.kind := by omega
                  have q1 : (c.kind == 1) = false := bfF h1
                  have q1' : (c.kind != 1) = true := by simp [h1]
                  have p3 : (c.flags == 0) = true := bfT hF
                  have p3' : ((0 : Int) == c.flags) = true := bfT hF.symm
                  have p4 : ((c.bs.length : Int) == 0) = false := bfF (by omega)
                  have p4' : (0 : Int) < (c.bs.length : Int) := by omega
                  have q4 : (c.kind == 4) = false := bfF h4
                  have q4' : (c.kind != 4) = true := by simp [h4]
                  have q5 : (c.kind == 5) = false := bfF h5
                  have q5' : (c.kind != 5) = true := by simp [h5]
                  have q8 : (c.kind == 8) = false := bfF h8
                  have q8' : (c.kind != 8) = true := by simp [h8]
                  simp only [WK, simprocAttr, c66, n66, S00, ge_iff_le, gt_iff_lt, Cal.cells, eD', eO', eDD, eOO, get0, getk, set0, setk, List.append_assoc, Bool.bne_false, bne_self_eq_false, Bool.bne_true, beq_self_eq_true, p1, p1', p1'', p2, p2', q1, q1', p3, p3', p4, p4', q4, q4', q5, q5', q8, q8']
                  exact Fin.lost hbel (.inr rfl) rfl rfl (by rw [show c.may = false from by simp [Cal.may, *]]; rfl) (.bool _)
        · by_cases hB : c.bs.length = 0
          · by_cases h4 : c.kind = 4
            · have p1 : c.kind ≥ 1 := hge
              have p1' : (1 : Int) ≤ c.kind := hge
              have p1'' : ¬ c.kind < 1 := by omega
              have p2 : c.kind ≤ 11 := hle
              have p2' : ¬ (11 : Int) < c.kind := by omega
              have q1 : (c.kind == 1) = false := bfF h1
              have q1' : (c.kind != 1) = true := by simp [h1]
              have p3 : (c.flags == 0) = false := bfF hF
              have p3' : ((0 : Int) == c.flags) = false := bfF (fun e => hF e.symm)
              have p4 : ((c.bs.length : Int) == 0) = true := bfT (by omega)
              have p4' : ¬ (0 : Int) < (c.bs.length : Int) := by omega
              have q4 : (c.kind == 4) = true := bfT h4
              have q4' : (c.kind != 4) = false := by simp [h4]
              have q5 : (c.kind == 5) = false := bfF (by omega)
              have q5' : (c.kind != 5) = true := by simp [h4]
              have q8 : (c.kind == 8) = false := bfF (by omega)
              have q8' : (c.kind != 8) = true := by simp [h4]
              simp only [WK, simprocAttr, c66, n66, S00, ge_iff_le, gt_iff_lt, Cal.cells, eD', eO', eDD, eOO, get0, getk, set0, setk, List.append_assoc, Bool.bne_false, bne_self_eq_false, Bool.bne_true, beq_self_eq_true, p1, p1', p1'', p2, p2', q1, q1', p3, p3', p4, p4', q4, q4', q5, q5', q8, q8']
              exact Fin.lost hbel (.inr rfl) rfl rfl (by rw [show c.may = false from by simp [Cal.may, *]]; rfl) (.bool _)
            · by_cases h5 : c.kind = 5
              · have p1 : c.kind ≥ 1 := hge
                have p1' : (1 : Int) ≤ c.kind := hge
                have p1'' : ¬ c.kind < 1 := by omega
                have p2 : c.kind ≤ 11 := hle
                have p2' : ¬ (11 : Int) < c.kind := by omega
                have q1 : (c.kind == 1) = false := bfF h1
                have q1' : (c.kind != 1) = true := by simp [h1]
                have p3 : (c.flags == 0) = false := bfF hF
                have p3' : ((0 : Int) == c.flags) = false := bfF (fun e => hF e.symm)
                have p4 : ((c.bs.length : Int) == 0) = true := bfT (by omega)
                have p4' : ¬ (0 : Int) < (c.bs.length : Int) := by omega
                have q4 : (c.kind == 4) = false := bfF h4
                have q4' : (c.kind != 4) = true := by simp [h4]
                have q5 : (c.kind == 5) = true := bfT h5
                have q5' : (c.kind != 5) = false := by simp [h5]
                have q8 : (c.kind == 8) = false := bfF (by omega)
                have q8' : (c.kind != 8) = true := by simp [h5]
                simp only [WK, simprocAttr, c66, n66, S00, ge_iff_le, gt_iff_lt, Cal.cells, eD', eO', eDD, eOO, get0, getk, set0, setk, List.append_assoc, Bool.bne_false, bne_self_eq_false, Bool.bne_true, beq_self_eq_true, p1, p1', p1'', p2, p2', q1, q1', p3, p3', p4, p4', q4, q4', q5, q5', q8, q8']
                exact Fin.lost hbel (.inr rfl) rfl rfl (by rw [show c.may = false from by simp [Cal.may, *]]; rfl) (.bool _)
              · by_cases h8 : c.kind = 8
                · have p1 : c.kind ≥ 1 := hge
                  have p1' : (1 : Int) ≤ c.kind := hge
                  have p1'' : ¬ c.kind < 1 := by omega
                  have p2 : c.kind ≤ 11 := hle
                  have p2' : ¬ (11 : Int) < c.kind := by omega
                  have q1 : (c.kind == 1) = false := bfF h1
                  have q1' : (c.kind != 1) = true := by simp [h1]
                  have p3 : (c.flags == 0) = false := bfF hF
                  have p3' : ((0 : Int) == c.flags) = false := bfF (fun e => hF e.symm)
                  have p4 : ((c.bs.length : Int) == 0) = true := bfT (by omega)
                  have p4' : ¬ (0 : Int) < (c.bs.length : Int) := by omega
                  have q4 : (c.kind == 4) = false := bfF h4
                  have q4' : (c.kind != 4) = true := by simp [h4]
                  have q5 : (c.kind == 5) = false := bfF h5
                  have q5' : (c.kind != 5) = true := by simp [h5]
                  have q8 : (c.kind == 8) = true := bfT h8
                  have q8' : (c.kind != 8) = false := by simp [h8]
                  simp only [WK, simprocAttr, c66, n66, S00, ge_iff_le, gt_iff_lt, Cal.cells, eD', eO', eDD, eOO, get0, getk, set0, setk, List.append_assoc, Bool.bne_false, bne_self_eq_false, Bool.bne_true, beq_self_eq_true, p1, p1', p1'', p2, p2', q1, q1', p3, p3', p4, p4', q4, q4', q5, q5', q8, q8']
                  exact Fin.lost hbel (.inr rfl) rfl rfl (by rw [show c.may = false from by simp [Cal.may, *]]; rfl) (.bool _)
                · have p1 : c.kind ≥ 1 := hge
                  have p1' : (1 : Int) ≤ c.kind := hge
                  have p1'' : ¬ c.kind < 1 := by omega
                  have p2 : c.kind ≤ 11 := hle
                  have p2' : ¬ (11 : Int) < c.kind := by omega
                  have q1 : (c.kind == 1) = false := bfF h1
                  have q1' : (c.kind != 1) = true := by simp [h1]
                  have p3 : (c.flags == 0) = false := bfF hF
                  have p3' : ((0 : Int) == c.flags) = false := bfF (fun e => hF e.symm)
                  have p4 : ((c.bs.length : Int) == 0) = true := bfT (by omega)
                  have p4' : ¬ (0 : Int) < (c.bs.length : Int) := by omega
                  have q4 : (c.kind == 4) = false := bfF h4
                  have q4' : (c.kind != 4) = true := by simp [h4]
                  have q5 : (c.kind == 5) = false := bfF h5
                  have q5' : (c.kind != 5) = true := by simp [h5]
                  have q8 : (c.kind == 8) = false := bfF h8
                  have q8' : (c.kind != 8) = true := by simp [h8]
                  simp only [WK, simprocAttr, c66, n66, S00, ge_iff_le, gt_iff_lt, Cal.cells, eD', eO', eDD, eOO, get0, getk, set0, setk, List.append_assoc, Bool.bne_false, bne_self_eq_false, Bool.bne_true, beq_self_eq_true, p1, p1', p1'', p2, p2', q1, q1', p3, p3', p4, p4', q4, q4', q5, q5', q8, q8']
                  exact Fin.lost hbel (.inr rfl) rfl rfl (by rw [show c.may = false from by simp [Cal.may, *]]; rfl) (.bool _)
          · by_cases h4 : c.kind = 4
            · have p1 : c.kind ≥ 1 := hge
              have p1' : (1 : Int) ≤ c.kind := hge
              have p1'' : ¬ c.kind < 1 := by omega
              have p2 : c.kind ≤ 11 := hle
              have p2' : ¬ (11 : Int) < c.kind := by omega
              have q1 : (c.kind == 1) = false := bfF h1
              have q1' : (c.kind != 1) = true := by simp [h1]
              have p3 : (c.flags == 0) = false := bfF hF
              have p3' : ((0 : Int) == c.flags) = false := bfF (fun e => hF e.symm)
              have p4 : ((c.bs.length : Int) == 0) = false := bfF (by omega)
              have p4' : (0 : Int) < (c.bs.length : Int) := by omega
              have q4 : (c.kind == 4) = true := bfT h4
              have q4' : (c.kind != 4) = false := by simp [h4]
              have q5 : (c.kind == 5) = false := bfF (by omega)
              have q5' : (c.kind != 5) = true := by simp [h4]
              have q8 : (c.kind == 8) = false := bfF (by omega)
              have q8' : (c.kind != 8) = true := by simp [h4]
              simp only [WK, simprocAttr, c66, n66, S00, ge_iff_le, gt_iff_lt, Cal.cells, eD', eO', eDD, eOO, get0, getk, set0, setk, List.append_assoc, Bool.bne_false, bne_self_eq_false, Bool.bne_true, beq_self_eq_true, p1, p1', p1'', p2, p2', q1, q1', p3, p3', p4, p4', q4, q4', q5, q5', q8, q8']
              exact Fin.lost hbel (.inr rfl) rfl rfl (by rw [show c.may = false from by simp [Cal.may, *]]; rfl) (.bool _)
            · by_cases h5 : c.kind = 5
              · have p1 : c.kind ≥ 1 := hge
                have p1' : (1 : Int) ≤ c.kind := hge
                have p1'' : ¬ c.kind < 1 := by omega
                have p2 : c.kind ≤ 11 := hle
                have p2' : ¬ (11 : Int) < c.kind := by omega
                have q1 : (c.kind == 1) = false := bfF h1
                have q1' : (c.kind != 1) = true := by simp [h1]
                have p3 : (c.flags == 0) = false := bfF hF
                have p3' : ((0 : Int) == c.flags) = false := bfF (fun e => hF e.symm)
                have p4 : ((c.bs.length : Int) == 0) = false := bfF (by omega)
                have p4' : (0 : Int) < (c.bs.length : Int) := by omega
                have q4 : (c.kind == 4) = false := bfF h4
                have q4' : (c.kind != 4) = true := by simp [h4]
                have q5 : (c.kind == 5) = true := bfT h5
                have q5' : (c.kind != 5) = false := by simp [h5]
                have q8 : (c.kind == 8) = false := bfF (by omega)
                have q8' : (c.kind != 8) = true := by simp [h5]
                simp only [WK, simprocAttr, c66, n66, S00, ge_iff_le, gt_iff_lt, Cal.cells, eD', eO', eDD, eOO, get0, getk, set0, setk, List.append_assoc, Bool.bne_false, bne_self_eq_false, Bool.bne_true, beq_self_eq_true, p1, p1', p1'', p2, p2', q1, q1', p3, p3', p4, p4', q4, q4', q5, q5', q8, q8']
                exact Fin.lost hbel (.inr rfl) rfl rfl (by rw [show c.may = false from by simp [Cal.may, *]]; rfl) (.bool _)
              · by_cases h8 : c.kind = 8
                · have p1 : c.kind ≥ 1 := hge
                  have p1' : (1 : Int) ≤ c.kind := hge
                  have p1'' : ¬ c.kind < 1 := by omega
                  have p2 : c.kind ≤ 11 := hle
                  have p2' : ¬ (11 : Int) < c.kind := by omega
                  have q1 : (c.kind == 1) = false := bfF h1
                  have q1' : (c.kind != 1) = true := by simp [h1]
                  have p3 : (c.flags == 0) = false := bfF hF
                  have p3' : ((0 : Int) == c.flags) = false := bfF (fun e => hF e.symm)
                  have p4 : ((c.bs.length : Int) == 0) = false := bfF (by omega)
                  have p4' : (0 : Int) < (c.bs.length : Int) := by omega
                  have q4 : (c.kind == 4) = false := bfF h4
                  have q4' : (c.kind != 4) = true := by simp [h4]
                  have q5 : (c.kind == 5) = false := bfF h5
                  have q5' : (c.kind != 5) = true := by simp [h5]
                  have q8 : (c.kind == 8) = true := bfT h8
                  have q8' : (c.kind != 8) = false := by simp [h8]
                  simp only [WK, simprocAttr, c66, n66, S00, ge_iff_le, gt_iff_lt, Cal.cells, eD', eO', eDD, eOO, get0, getk, set0, setk, List.append_assoc, Bool.bne_false, bne_self_eq_false, Bool.bne_true, beq_self_eq_true, p1, p1', p1'', p2, p2', q1, q1', p3, p3', p4, p4', q4, q4', q5, q5', q8, q8']
                  exact Fin.lost hbel (.inr rfl) rfl rfl (by rw [show c.may = false from by simp [Cal.may, *]]; rfl) (.bool _)
                · have p1 : c.kind ≥ 1 := hge
                  have p1' : (1 : Int) ≤ c.kind := hge
                  have p1'' : ¬ c.kind < 1 := by omega
                  have p2 : c.kind ≤ 11 := hle
                  have p2' : ¬ (11 : Int) < c.kind := by omega
                  have q1 : (c.kind == 1) = false := bfF h1
                  have q1' : (c.kind != 1) = true := by simp [h1]
                  have p3 : (c.flags == 0) = false := bfF hF
                  have p3' : ((0 : Int) == c.flags) = false := bfF (fun e => hF e.symm)
                  have p4 : ((c.bs.length : Int) == 0) = false := bfF (by omega)
                  have p4' : (0 : Int) < (c.bs.length : Int) := by omega
                  have q4 : (c.kind == 4) = false := bfF h4
                  have q4' : (c.kind != 4) = true := by simp [h4]
                  have q5 : (c.kind == 5) = false := bfF h5
                  have q5' : (c.kind != 5) = true := by simp [h5]
                  have q8 : (c.kind == 8) = false := bfF h8
                  have q8' : (c.kind != 8) = true := by simp [h8]
                  simp only [WK, simprocAttr, c66, n66, S00, ge_iff_le, gt_iff_lt, Cal.cells, eD', eO', eDD, eOO, get0, getk, set0, setk, List.append_assoc, Bool.bne_false, bne_self_eq_false, Bool.bne_true, beq_self_eq_true, p1, p1', p1'', p2, p2', q1, q1', p3, p3', p4, p4', q4, q4', q5, q5', q8, q8']
                  exact Fin.lost hbel (.inr rfl) rfl rfl (by rw [show c.may = false from by simp [Cal.may, *]]; rfl) (.bool _)
    · have p1 : c.kind ≥ 1 := hge
      have p1' : (1 : Int) ≤ c.kind := hge
      have p1'' : ¬ c.kind < 1 := by omega
      have p2 : ¬ c.kind ≤ 11 := hle
      have p2' : (11 : Int) < c.kind := by omega
      have q1 : (c.kind == 1) = false := bfF (by omega)
      have q1' : (c.kind != 1) = true := by simp; omega
      have q4 : (c.kind == 4) = false := bfF (by omega)
      have q4' : (c.kind != 4) = true := by simp; omega
      have q5 : (c.kind == 5) = false := bfF (by omega)
      have q5' : (c.kind != 5) = true := by simp; omega
      have q8 : (c.kind == 8) = false := bfF (by omega)
      have q8' : (c.kind != 8) = true := by simp; omega
      simp only [WK, simprocAttr, c66, n66, S00, ge_iff_le, gt_iff_lt, Cal.cells, eD', eO', eDD, eOO, get0, getk, set0, setk, List.append_assoc, Bool.bne_false, bne_self_eq_false, Bool.bne_true, beq_self_eq_true, p1, p1', p1'', p2, p2', q1, q1', q4, q4', q5, q5', q8, q8']
      exact Fin.lost hbel (.inr rfl) rfl rfl (by rw [show c.may = false from by simp [Cal.may, *]]; rfl) (.bool _)
  · have p1' : ¬ (1 : Int) ≤ c.kind := hge
    have p1'' : c.kind < 1 := by omega
    have q1 : (c.kind == 1) = false := bfF (by omega)
    have q1' : (c.kind != 1) = true := by simp; omega
    have q4 : (c.kind == 4) = false := bfF (by omega)
    have q4' : (c.kind != 4) = true := by simp; omega
    have q5 : (c.kind == 5) = false := bfF (by omega)
    have q5' : (c.kind != 5) = true := by simp; omega
    have q8 : (c.kind == 8) = false := bfF (by omega)
    have q8' : (c.kind != 8) = true := by simp; omega
    simp only [WK, simprocAttr, c66, n66, S00, ge_iff_le, gt_iff_lt, Cal.cells, eD', eO', eDD, eOO, get0, getk, set0, setk, List.append_assoc, Bool.bne_false, bne_self_eq_false, Bool.bne_true, beq_self_eq_true, p1', p1'', q1, q1', q4, q4', q5, q5', q8, q8']
    exact Fin.lost hbel (.inr rfl) rfl rfl (by rw [show c.may = false from by simp [Cal.may, *]]; rfl) (.bool _)
theorem k56t {c : Cal} (hm : c.may = true) (h : AHeap) : ACall PA 56 [.agg c.cells] h (.int .i64 0) h := by have := k56 c h; rw [hm] at this; exact this
theorem k56f {c : Cal} (hm : c.may = false) (h : AHeap) : ACall PA 56 [.agg c.cells] h (.int .i64 241) h := by have := k56 c h; rw [hm] at this; exact this
theorem k66t {c : Cal} (hm : c.may = true) (h : AHeap) : ACall PA 66 [.agg c.cells] h (.bool true) h := by have := k66 c h; rw [hm] at this; exact this
theorem k66f {c : Cal} (hm : c.may = false) (h : AHeap) : ACall PA 66 [.agg c.cells] h (.bool false) h := by have := k66 c h; rw [hm] at this; exact this
end Go.Av

/- Contracts: histories checked. -/
set_option linter.unusedVariables false
set_option linter.unusedSimpArgs false
namespace Go.Av
open Go Go.Proofs
set_option maxRecDepth 100000
set_option maxHeartbeats 4000000
/-- A call of a history. -/
structure Pas where
  tid : Int
  call : Cal
  beg : Int
  fin : Int
  err : Int
  val : Int
  act : Int
  dat : Int
  over : Bool
def Pas.ans (p : Pas) : List AV := [.int .i64 p.err, .int .i64 p.val, .int .i64 p.act, .int .u16 p.dat, .bool p.over]
def Pas.cells (p : Pas) : List AV := [.int .i64 p.tid, .int .i64 p.call.kind, .int .i64 p.call.flags, .int .i64 p.call.uid, .sl false p.call.bs, .int .i64 p.call.owner, .bool p.call.setu, .int .u32 p.call.nr, .int .u32 p.call.arch, .int .u64 p.call.ip, .int .u64 p.call.a0, .int .u64 p.call.a1, .int .u64 p.call.a2, .int .u64 p.call.a3, .int .u64 p.call.a4, .int .u64 p.call.a5, .int .i64 p.beg, .int .i64 p.fin, .int .i64 p.err, .int .i64 p.val, .int .i64 p.act, .int .u16 p.dat, .bool p.over]
def Pas.av (p : Pas) : AV := .agg p.cells
def Pas.A0 (p : Pas) : Bool := (p.err == 0) && ((p.val == 0) && ((p.act == 0) && ((p.dat == 0) && (p.over == false))))
def Pas.ok (p : Pas) : Bool := decide (1 ≤ p.beg) && (decide (p.beg ≤ p.fin) || ((p.fin == 0) && p.A0)) && p.call.may
theorem eA (p : Pas) : aeqs [0, 0, 0, 0, 1] [.int .i64 p.err, .int .i64 p.val, .int .i64 p.act, .int .u16 p.dat, .bool p.over] [.int .i64 0, .int .i64 0, .int .i64 0, .int .u16 0, .bool false] = some p.A0 := by
  simp [aeqs, aeq1, Pas.A0]
def Over (h H : AHeap) : Prop := ∃ g, H = h ++ g
theorem Over.refl (h : AHeap) : Over h h := ⟨[], by simp⟩
theorem Over.app {h H : AHeap} (o : Over h H) (l : AHeap) : Over h (H ++ l) := by obtain ⟨g, rfl⟩ := o; exact ⟨g ++ l, by simp⟩
theorem Over.len {h H : AHeap} (o : Over h H) : h.length ≤ H.length := by obtain ⟨g, rfl⟩ := o; simp
theorem Over.set {h H : AHeap} (o : Over h H) {id : Nat} (hid : h.length ≤ id) (x : AObj) : Over h (H.set id x) := by
  obtain ⟨g, rfl⟩ := o
  rw [List.set_append_right _ _ hid]
  exact ⟨_, rfl⟩
theorem Fin.over {P : Program} {h H : AHeap} (o : Over h H) {rs : List RV} {r : AV} {j : Jump} {τ : AFr} {xs : List AV} (hbel : HB h) (hj : j = .none ∨ j = .ret) (hd : τ.dfr = [])
    (hx : aresl τ.s H rs = some xs) (hr : r = resv xs) (hrb : Bel h.length r) : Fin P h rs r h j τ H := by
  obtain ⟨g, rfl⟩ := o
  exact Fin.lost hbel hj hd hx hr hrb
theorem k98 (p : Pas) (h : AHeap) : ACall PA 98 [p.av] h (.bool (!p.ok)) h := by
  refine ACall.ofG S00ok hmA h98 (by kernel_rfl) (Nat.le_of_ble_eq_true rfl) (Hstay.refl h) fun hbel => aS_den ?_
  by_cases hb : 1 ≤ p.beg
  · by_cases hf : p.beg ≤ p.fin
    · by_cases hm : p.call.may = true
      · have g1 : (1 : Int) ≤ p.beg := hb
        have g1' : ¬ p.beg < 1 := by omega
        have g2 : p.beg ≤ p.fin := hf
        have g2' : ¬ p.fin < p.beg := by omega
        have g5 : p.call.may = true := hm
        have hok : p.ok = true := by simp [Pas.ok, g1, g2, g5]
        simp only [WK, simprocAttr, c98, n98, S00, Pas.av, Pas.cells, eA, get0, getk, set0, setk, List.append_assoc, ge_iff_le, gt_iff_lt, Bool.bne_false, bne_self_eq_false, Bool.bne_true, beq_self_eq_true, Int.reduceBNe, Int.reduceBEq, g1, g1', g2, g2', g5]
        refine ⟨_, _, k56t hm _, ?_⟩
        try simp only [WK, simprocAttr, S00, get0, getk, set0, setk, List.append_assoc, ge_iff_le, gt_iff_lt, Bool.bne_false, bne_self_eq_false, Bool.bne_true, beq_self_eq_true, Int.reduceBNe, Int.reduceBEq]
        exact Fin.lost hbel (.inr rfl) rfl rfl (by rw [hok]; rfl) (.bool _)
      · have g1 : (1 : Int) ≤ p.beg := hb
        have g1' : ¬ p.beg < 1 := by omega
        have g2 : p.beg ≤ p.fin := hf
        have g2' : ¬ p.fin < p.beg := by omega
        have g5 : p.call.may = false := by simpa using hm
        have hok : p.ok = false := by simp [Pas.ok, g1, g2, g5]
        simp only [WK, simprocAttr, c98, n98, S00, Pas.av, Pas.cells, eA, get0, getk, set0, setk, List.append_assoc, ge_iff_le, gt_iff_lt, Bool.bne_false, bne_self_eq_false, Bool.bne_true, beq_self_eq_true, Int.reduceBNe, Int.reduceBEq, g1, g1', g2, g2', g5]
        refine ⟨_, _, k56f g5 _, ?_⟩
        try simp only [WK, simprocAttr, S00, get0, getk, set0, setk, List.append_assoc, ge_iff_le, gt_iff_lt, Bool.bne_false, bne_self_eq_false, Bool.bne_true, beq_self_eq_true, Int.reduceBNe, Int.reduceBEq]
        exact Fin.lost hbel (.inr rfl) rfl rfl (by rw [hok]; rfl) (.bool _)
    · by_cases hz : p.fin = 0
      · by_cases ha : p.A0 = true
        · by_cases hm : p.call.may = true
          · have g1 : (1 : Int) ≤ p.beg := hb
            have g1' : ¬ p.beg < 1 := by omega
            have g2 : ¬ p.beg ≤ p.fin := hf
            have g2' : p.fin < p.beg := by omega
            have g3 : (p.fin == 0) = true := bfT hz
            have g4 : p.A0 = true := ha
            have g5 : p.call.may = true := hm
            have hok : p.ok = true := by simp [Pas.ok, g1, g2, g3, g4, g5]
            simp only [WK, simprocAttr, c98, n98, S00, Pas.av, Pas.cells, eA, get0, getk, set0, setk, List.append_assoc, ge_iff_le, gt_iff_lt, Bool.bne_false, bne_self_eq_false, Bool.bne_true, beq_self_eq_true, Int.reduceBNe, Int.reduceBEq, g1, g1', g2, g2', g3, g4, g5]
            refine ⟨_, _, k56t hm _, ?_⟩
            try simp only [WK, simprocAttr, S00, get0, getk, set0, setk, List.append_assoc, ge_iff_le, gt_iff_lt, Bool.bne_false, bne_self_eq_false, Bool.bne_true, beq_self_eq_true, Int.reduceBNe, Int.reduceBEq]
            exact Fin.lost hbel (.inr rfl) rfl rfl (by rw [hok]; rfl) (.bool _)
          · have g1 : (1 : Int) ≤ p.beg := hb
            have g1' : ¬ p.beg < 1 := by omega
            have g2 : ¬ p.beg ≤ p.fin := hf
            have g2' : p.fin < p.beg := by omega
            have g3 : (p.fin == 0) = true := bfT hz
            have g4 : p.A0 = true := ha
            have g5 : p.call.may = false := by simpa using hm
            have hok : p.ok = false := by simp [Pas.ok, g1, g2, g3, g4, g5]
            simp only [WK, simprocAttr, c98, n98, S00, Pas.av, Pas.cells, eA, get0, getk, set0, setk, List.append_assoc, ge_iff_le, gt_iff_lt, Bool.bne_false, bne_self_eq_false, Bool.bne_true, beq_self_eq_true, Int.reduceBNe, Int.reduceBEq, g1, g1', g2, g2', g3, g4, g5]
            refine ⟨_, _, k56f g5 _, ?_⟩
            try simp only [WK, simprocAttr, S00, get0, getk, set0, setk, List.append_assoc, ge_iff_le, gt_iff_lt, Bool.bne_false, bne_self_eq_false, Bool.bne_true, beq_self_eq_true, Int.reduceBNe, Int.reduceBEq]
            exact Fin.lost hbel (.inr rfl) rfl rfl (by rw [hok]; rfl) (.bool _)
        · have g1 : (1 : Int) ≤ p.beg := hb
          have g1' : ¬ p.beg < 1 := by omega
          have g2 : ¬ p.beg ≤ p.fin := hf
          have g2' : p.fin < p.beg := by omega
          have g3 : (p.fin == 0) = true := bfT hz
          have g4 : p.A0 = false := by simpa using ha
          have hok : p.ok = false := by simp [Pas.ok, g1, g2, g3, g4]
          simp only [WK, simprocAttr, c98, n98, S00, Pas.av, Pas.cells, eA, get0, getk, set0, setk, List.append_assoc, ge_iff_le, gt_iff_lt, Bool.bne_false, bne_self_eq_false, Bool.bne_true, beq_self_eq_true, Int.reduceBNe, Int.reduceBEq, g1, g1', g2, g2', g3, g4]
          exact Fin.lost hbel (.inr rfl) rfl rfl (by rw [hok]; rfl) (.bool _)
      · have g1 : (1 : Int) ≤ p.beg := hb
        have g1' : ¬ p.beg < 1 := by omega
        have g2 : ¬ p.beg ≤ p.fin := hf
        have g2' : p.fin < p.beg := by omega
        have g3 : (p.fin == 0) = false := bfF hz
        have hok : p.ok = false := by simp [Pas.ok, g1, g2, g3]
        simp only [WK, simprocAttr, c98, n98, S00, Pas.av, Pas.cells, eA, get0, getk, set0, setk, List.append_assoc, ge_iff_le, gt_iff_lt, Bool.bne_false, bne_self_eq_false, Bool.bne_true, beq_self_eq_true, Int.reduceBNe, Int.reduceBEq, g1, g1', g2, g2', g3]
        exact Fin.lost hbel (.inr rfl) rfl rfl (by rw [hok]; rfl) (.bool _)
  · by_cases hf : p.beg ≤ p.fin
    · have g1 : ¬ (1 : Int) ≤ p.beg := hb
      have g1' : p.beg < 1 := by omega
      have g2 : p.beg ≤ p.fin := hf
      have g2' : ¬ p.fin < p.beg := by omega
      have hok : p.ok = false := by simp [Pas.ok, g1, g2]
      simp only [WK, simprocAttr, c98, n98, S00, Pas.av, Pas.cells, eA, get0, getk, set0, setk, List.append_assoc, ge_iff_le, gt_iff_lt, Bool.bne_false, bne_self_eq_false, Bool.bne_true, beq_self_eq_true, Int.reduceBNe, Int.reduceBEq, g1, g1', g2, g2']
      exact Fin.lost hbel (.inr rfl) rfl rfl (by rw [hok]; rfl) (.bool _)
    · by_cases hz : p.fin = 0
      · by_cases ha : p.A0 = true
        · have g1 : ¬ (1 : Int) ≤ p.beg := hb
          have g1' : p.beg < 1 := by omega
          have g2 : ¬ p.beg ≤ p.fin := hf
          have g2' : p.fin < p.beg := by omega
          have g3 : (p.fin == 0) = true := bfT hz
          have g4 : p.A0 = true := ha
          have hok : p.ok = false := by simp [Pas.ok, g1, g2, g3, g4]
          simp only [WK, simprocAttr, c98, n98, S00, Pas.av, Pas.cells, eA, get0, getk, set0, setk, List.append_assoc, ge_iff_le, gt_iff_lt, Bool.bne_false, bne_self_eq_false, Bool.bne_true, beq_self_eq_true, Int.reduceBNe, Int.reduceBEq, g1, g1', g2, g2', g3, g4]
          exact Fin.lost hbel (.inr rfl) rfl rfl (by rw [hok]; rfl) (.bool _)
        · have g1 : ¬ (1 : Int) ≤ p.beg := hb
          have g1' : p.beg < 1 := by omega
          have g2 : ¬ p.beg ≤ p.fin := hf
          have g2' : p.fin < p.beg := by omega
          have g3 : (p.fin == 0) = true := bfT hz
          have g4 : p.A0 = false := by simpa using ha
          have hok : p.ok = false := by simp [Pas.ok, g1, g2, g3, g4]
          simp only [WK, simprocAttr, c98, n98, S00, Pas.av, Pas.cells, eA, get0, getk, set0, setk, List.append_assoc, ge_iff_le, gt_iff_lt, Bool.bne_false, bne_self_eq_false, Bool.bne_true, beq_self_eq_true, Int.reduceBNe, Int.reduceBEq, g1, g1', g2, g2', g3, g4]
          exact Fin.lost hbel (.inr rfl) rfl rfl (by rw [hok]; rfl) (.bool _)
      · have g1 : ¬ (1 : Int) ≤ p.beg := hb
        have g1' : p.beg < 1 := by omega
        have g2 : ¬ p.beg ≤ p.fin := hf
        have g2' : p.fin < p.beg := by omega
        have g3 : (p.fin == 0) = false := bfF hz
        have hok : p.ok = false := by simp [Pas.ok, g1, g2, g3]
        simp only [WK, simprocAttr, c98, n98, S00, Pas.av, Pas.cells, eA, get0, getk, set0, setk, List.append_assoc, ge_iff_le, gt_iff_lt, Bool.bne_false, bne_self_eq_false, Bool.bne_true, beq_self_eq_true, Int.reduceBNe, Int.reduceBEq, g1, g1', g2, g2', g3]
        exact Fin.lost hbel (.inr rfl) rfl rfl (by rw [hok]; rfl) (.bool _)
theorem k98t {p : Pas} (hp : p.ok = true) (h : AHeap) : ACall PA 98 [p.av] h (.bool false) h := by have := k98 p h; rw [hp] at this; exact this
theorem k98f {p : Pas} (hp : p.ok = false) (h : AHeap) : ACall PA 98 [p.av] h (.bool true) h := by have := k98 p h; rw [hp] at this; exact this
/-- The first call that may not be. -/
def badAt : Nat → List Pas → Option Nat
  | _, [] => none
  | i, p :: r => if p.ok = true then badAt (i + 1) r else some i
def pasV (l : List Pas) : List AV := l.map Pas.av
theorem pasV_len (l : List Pas) : (pasV l).length = l.length := by simp [pasV]
theorem pasV_get {l : List Pas} {i : Nat} (h : i < l.length) : (pasV l)[i]? = some l[i].av := by simp [pasV, h]
theorem badAt_drop {l : List Pas} {i : Nat} (h : i < l.length) : badAt i (l.drop i) = if l[i].ok = true then badAt (i + 1) (l.drop (i + 1)) else some i := by
  rw [List.drop_eq_getElem_cons h, badAt]
theorem cells23 (p : Pas) : p.cells.length = 23 := rfl
def idxI (l : List Pas) (h : AHeap) (m : Nat) (τ : AFr) (H : AHeap) : Prop :=
  ∃ i : Nat, i ≤ l.length ∧ m = l.length - i ∧ H = h ∧ badAt 0 l = badAt i (l.drop i) ∧ τ = { n := 19, s := [(0, .sl false (pasV l)), (1, .fn (.func 98) [] []), (6, .sl false (pasV l)), (7, .int .i64 l.length), (8, .int .i64 i)], dfr := [] }
theorem k99 (l : List Pas) (hl : l.length ≤ 61) (h : AHeap) : ACall PA 99 [.sl false (pasV l), .fn (.func 98) [] []] h (.int .i64 (match badAt 0 l with | some i => (i : Int) | none => -1)) h := by
  refine ACall.ofG S00ok hmA h99 (by kernel_rfl) (Nat.le_of_ble_eq_true rfl) (Hstay.refl h) fun hbel => aS_den ?_
  simp only [WK, simprocAttr, c99, n99, S00, pasV_len]
  refine x_loop (idxI l h) ⟨l.length, { n := 19, s := [(0, .sl false (pasV l)), (1, .fn (.func 98) [] []), (6, .sl false (pasV l)), (7, .int .i64 l.length), (8, .int .i64 0)], dfr := [] }, ⟨0, by omega, by omega, rfl, rfl, rfl⟩, ⟨rfl, rfl, by simp [alook]⟩⟩ ?_
  rintro m τ H ⟨i, hi, rfl, rfl, hn, rfl⟩
  have i0 : (0 : Int) ≤ (i : Int) := by omega
  by_cases b1 : (i : Int) < (l.length : Int)
  · have hlt : i < l.length := by omega
    have hx := pasV_get hlt
    have hx2 : l[i].av = .agg l[i].cells := rfl
    have hc : (AV.agg l[i].cells).cells = l[i].cells := rfl
    have w2 : IntKind.i64.wrap ((i : Int) + 1) = ((i + 1 : Nat) : Int) := by
      simp [IntKind.wrap, IntKind.bits, IntKind.signed]; omega
    rw [badAt_drop hlt] at hn
    have ht23 : l[i].cells.take 23 = l[i].cells := rfl
    have hd0 : l[i].cells.drop 0 = l[i].cells := rfl
    have h23 : (23 : Nat) ≤ l[i].cells.length := by rw [cells23]; exact Nat.le_refl _
    have h23' : l[i].cells.length = 23 := rfl
    simp only [WK, simprocAttr, S00, pasV_len, b1, i0, hx, hx2, cells23, ht23, List.drop_zero, w2, Int.toNat_natCast, Nat.le_refl]
    cases hok : l[i].ok with
    | true =>
      refine ⟨_, _, k98t hok _, ?_⟩
      try simp only [WK, simprocAttr, S00, b1, i0, w2]
      exact ⟨_, _, by omega, ⟨i + 1, by omega, rfl, rfl, by rw [hn, hok]; rfl, rfl⟩, ⟨rfl, rfl, by simp [alook]⟩⟩
    | false =>
      refine ⟨_, _, k98f hok _, ?_⟩
      try simp only [WK, simprocAttr, S00, b1, i0, w2]
      exact Fin.plain (.inr rfl) rfl rfl (by rw [hn, hok]; rfl)
  · have b2 : i = l.length := by omega
    subst b2
    simp only [WK, simprocAttr, S00, pasV_len, b1]
    exact Fin.plain (.inr rfl) rfl rfl (by rw [hn, List.drop_length]; rfl)
/-- Where a history may not be, and why. -/
def chkP (l : List Pas) : Int × Int := if 60 < l.length then (0, 3) else match badAt 0 l with
  | some i => ((i : Int), 260)
  | none => (0, 0)
theorem k43 (l : List Pas) (hl : l.length ≤ 61) (h : AHeap) : ACall PA 43 [.sl false (pasV l)] h (.tup [.int .i64 (chkP l).1, .int .i64 (chkP l).2]) h := by
  refine ACall.ofG S00ok hmA h43 (by kernel_rfl) (Nat.le_of_ble_eq_true rfl) (Hstay.refl h) fun hbel => aS_den ?_
  by_cases e : (60 : Int) < (l.length : Int)
  · simp only [WK, simprocAttr, c43, n43, S00, pasV_len, gt_iff_lt, e]
    exact Fin.plain (.inr rfl) rfl rfl (by have : 60 < l.length := by omega
                                           simp [chkP, this]; rfl)
  · have e' : ¬ 60 < l.length := by omega
    have hk := k99 l hl h
    simp only [WK, simprocAttr, c43, n43, S00, pasV_len, gt_iff_lt, ge_iff_le, e]
    refine ⟨_, _, hk, ?_⟩
    cases hb : badAt 0 l with
    | none =>
      try simp only [WK, simprocAttr, S00, ge_iff_le]
      exact Fin.plain (.inr rfl) rfl rfl (by simp [chkP, e', hb]; rfl)
    | some i =>
      have i0 : (0 : Int) ≤ (i : Int) := by omega
      try simp only [WK, simprocAttr, S00, ge_iff_le, i0]
      exact Fin.plain (.inr rfl) rfl rfl (by simp [chkP, e', hb]; rfl)
def refI (l : List Pas) (h : AHeap) (m : Nat) (τ : AFr) (H : AHeap) : Prop :=
  ∃ i : Nat, i ≤ l.length ∧ m = l.length - i ∧ Over h H ∧ badAt 0 l = badAt i (l.drop i) ∧ τ = { n := 48, s := [(10, .sl false (pasV l)), (11, .int .i64 l.length), (12, .int .i64 i)], dfr := [] }
theorem k45 (l : List Pas) (hl : l.length ≤ 61) (h : AHeap) : ACall PA 45 [.sl false (pasV l)] h (.tup [.int .i64 (chkP l).1, .int .i64 (chkP l).2]) h := by
  refine ACall.ofG S00ok hmA h45 (by kernel_rfl) (Nat.le_of_ble_eq_true rfl) (Hstay.refl h) fun hbel => aS_den ?_
  by_cases e : (60 : Int) < (l.length : Int)
  · simp only [WK, simprocAttr, c45, n45, S00, pasV_len, gt_iff_lt, e]
    exact Fin.plain (.inr rfl) rfl rfl (by have : 60 < l.length := by omega
                                           simp [chkP, this]; rfl)
  · have e' : ¬ 60 < l.length := by omega
    have hbr : Bel h.length (.tup [.int .i64 (chkP l).1, .int .i64 (chkP l).2]) := .tup _ (by simp [bel_int])
    simp only [WK, simprocAttr, c45, n45, S00, pasV_len, gt_iff_lt, e]
    refine x_loop (refI l h) ⟨l.length, { n := 48, s := [(10, .sl false (pasV l)), (11, .int .i64 l.length), (12, .int .i64 0)], dfr := [] }, ⟨0, by omega, by omega, Over.refl h, rfl, rfl⟩, ⟨rfl, rfl, by simp [alook]⟩⟩ ?_
    rintro m τ H ⟨i, hi, rfl, ho, hn, rfl⟩
    have i0 : (0 : Int) ≤ (i : Int) := by omega
    by_cases b1 : (i : Int) < (l.length : Int)
    · have hlt : i < l.length := by omega
      have hx := pasV_get hlt
      have w2 : IntKind.i64.wrap ((i : Int) + 1) = ((i + 1 : Nat) : Int) := by
        simp [IntKind.wrap, IntKind.bits, IntKind.signed]; omega
      rw [badAt_drop hlt] at hn
      generalize l[i] = p at hx hn
      by_cases hz : p.fin = 0
      · by_cases ha : p.A0 = true
        · by_cases hb : 1 ≤ p.beg
          · by_cases hm : p.call.may = true
            · have g3 : (p.fin == 0) = true := bfT hz
              have g4 : p.A0 = true := ha
              have g1 : (1 : Int) ≤ p.beg := hb
              have g1' : ¬ p.beg < 1 := by omega
              have g5 : p.call.may = true := hm
              have hok : p.ok = true := by simp [Pas.ok, g3, g4, g1, g5]
              rw [hok] at hn
              simp only [WK, simprocAttr, S00, pasV_len, b1, i0, hx, Pas.av, Pas.cells, eA, w2, Int.toNat_natCast, get0, getk, set0, setk, List.append_assoc, ge_iff_le, gt_iff_lt, Bool.bne_false, bne_self_eq_false, Bool.bne_true, beq_self_eq_true, Int.reduceBNe, Int.reduceBEq, g3, g4, g1, g1', g5]
              refine ⟨_, _, k66t hm _, ?_⟩
              try simp only [WK, simprocAttr, S00, pasV_len, b1, i0, w2, get0, getk, set0, setk, List.append_assoc, ge_iff_le, gt_iff_lt, Bool.bne_false, bne_self_eq_false, Bool.bne_true, beq_self_eq_true, Int.reduceBNe, Int.reduceBEq]
              exact ⟨_, _, by omega, ⟨i + 1, by omega, rfl, ho.app _, by rw [hn]; rfl, rfl⟩, ⟨rfl, rfl, by simp [alook]⟩⟩
            · have g3 : (p.fin == 0) = true := bfT hz
              have g4 : p.A0 = true := ha
              have g1 : (1 : Int) ≤ p.beg := hb
              have g1' : ¬ p.beg < 1 := by omega
              have g5 : p.call.may = false := by simpa using hm
              have hok : p.ok = false := by simp [Pas.ok, g3, g4, g1, g5]
              rw [hok] at hn
              simp only [WK, simprocAttr, S00, pasV_len, b1, i0, hx, Pas.av, Pas.cells, eA, w2, Int.toNat_natCast, get0, getk, set0, setk, List.append_assoc, ge_iff_le, gt_iff_lt, Bool.bne_false, bne_self_eq_false, Bool.bne_true, beq_self_eq_true, Int.reduceBNe, Int.reduceBEq, g3, g4, g1, g1', g5]
              refine ⟨_, _, k66f g5 _, ?_⟩
              try simp only [WK, simprocAttr, S00, pasV_len, b1, i0, w2, get0, getk, set0, setk, List.append_assoc, ge_iff_le, gt_iff_lt, Bool.bne_false, bne_self_eq_false, Bool.bne_true, beq_self_eq_true, Int.reduceBNe, Int.reduceBEq]
              exact Fin.over (ho.app _) hbel (.inr rfl) rfl rfl (by rw [show chkP l = ((i : Int), 260) from by simp [chkP, e', hn]]; rfl) hbr
          · have g3 : (p.fin == 0) = true := bfT hz
            have g4 : p.A0 = true := ha
            have g1 : ¬ (1 : Int) ≤ p.beg := hb
            have g1' : p.beg < 1 := by omega
            have hok : p.ok = false := by simp [Pas.ok, g3, g4, g1]
            rw [hok] at hn
            simp only [WK, simprocAttr, S00, pasV_len, b1, i0, hx, Pas.av, Pas.cells, eA, w2, Int.toNat_natCast, get0, getk, set0, setk, List.append_assoc, ge_iff_le, gt_iff_lt, Bool.bne_false, bne_self_eq_false, Bool.bne_true, beq_self_eq_true, Int.reduceBNe, Int.reduceBEq, g3, g4, g1, g1']
            exact Fin.over (ho.app _) hbel (.inr rfl) rfl rfl (by rw [show chkP l = ((i : Int), 260) from by simp [chkP, e', hn]]; rfl) hbr
        · by_cases hb : 1 ≤ p.beg
          · by_cases hf : p.beg ≤ p.fin
            · by_cases hm : p.call.may = true
              · have g3 : (p.fin == 0) = true := bfT hz
                have g4 : p.A0 = false := by simpa using ha
                have g1 : (1 : Int) ≤ p.beg := hb
                have g1' : ¬ p.beg < 1 := by omega
                have g2 : p.beg ≤ p.fin := hf
                have g2' : ¬ p.fin < p.beg := by omega
                have g5 : p.call.may = true := hm
                have hok : p.ok = true := by simp [Pas.ok, g3, g4, g1, g2, g5]
                rw [hok] at hn
                simp only [WK, simprocAttr, S00, pasV_len, b1, i0, hx, Pas.av, Pas.cells, eA, w2, Int.toNat_natCast, get0, getk, set0, setk, List.append_assoc, ge_iff_le, gt_iff_lt, Bool.bne_false, bne_self_eq_false, Bool.bne_true, beq_self_eq_true, Int.reduceBNe, Int.reduceBEq, g3, g4, g1, g1', g2, g2', g5]
                refine ⟨_, _, k66t hm _, ?_⟩
                try simp only [WK, simprocAttr, S00, pasV_len, b1, i0, w2, get0, getk, set0, setk, List.append_assoc, ge_iff_le, gt_iff_lt, Bool.bne_false, bne_self_eq_false, Bool.bne_true, beq_self_eq_true, Int.reduceBNe, Int.reduceBEq]
                exact ⟨_, _, by omega, ⟨i + 1, by omega, rfl, ho.app _, by rw [hn]; rfl, rfl⟩, ⟨rfl, rfl, by simp [alook]⟩⟩
              · have g3 : (p.fin == 0) = true := bfT hz
                have g4 : p.A0 = false := by simpa using ha
                have g1 : (1 : Int) ≤ p.beg := hb
                have g1' : ¬ p.beg < 1 := by omega
                have g2 : p.beg ≤ p.fin := hf
                have g2' : ¬ p.fin < p.beg := by omega
                have g5 : p.call.may = false := by simpa using hm
                have hok : p.ok = false := by simp [Pas.ok, g3, g4, g1, g2, g5]
                rw [hok] at hn
                simp only [WK, simprocAttr, S00, pasV_len, b1, i0, hx, Pas.av, Pas.cells, eA, w2, Int.toNat_natCast, get0, getk, set0, setk, List.append_assoc, ge_iff_le, gt_iff_lt, Bool.bne_false, bne_self_eq_false, Bool.bne_true, beq_self_eq_true, Int.reduceBNe, Int.reduceBEq, g3, g4, g1, g1', g2, g2', g5]
                refine ⟨_, _, k66f g5 _, ?_⟩
                try simp only [WK, simprocAttr, S00, pasV_len, b1, i0, w2, get0, getk, set0, setk, List.append_assoc, ge_iff_le, gt_iff_lt, Bool.bne_false, bne_self_eq_false, Bool.bne_true, beq_self_eq_true, Int.reduceBNe, Int.reduceBEq]
                exact Fin.over (ho.app _) hbel (.inr rfl) rfl rfl (by rw [show chkP l = ((i : Int), 260) from by simp [chkP, e', hn]]; rfl) hbr
            · have g3 : (p.fin == 0) = true := bfT hz
              have g4 : p.A0 = false := by simpa using ha
              have g1 : (1 : Int) ≤ p.beg := hb
              have g1' : ¬ p.beg < 1 := by omega
              have g2 : ¬ p.beg ≤ p.fin := hf
              have g2' : p.fin < p.beg := by omega
              have hok : p.ok = false := by simp [Pas.ok, g3, g4, g1, g2]
              rw [hok] at hn
              simp only [WK, simprocAttr, S00, pasV_len, b1, i0, hx, Pas.av, Pas.cells, eA, w2, Int.toNat_natCast, get0, getk, set0, setk, List.append_assoc, ge_iff_le, gt_iff_lt, Bool.bne_false, bne_self_eq_false, Bool.bne_true, beq_self_eq_true, Int.reduceBNe, Int.reduceBEq, g3, g4, g1, g1', g2, g2']
              exact Fin.over (ho.app _) hbel (.inr rfl) rfl rfl (by rw [show chkP l = ((i : Int), 260) from by simp [chkP, e', hn]]; rfl) hbr
          · have g3 : (p.fin == 0) = true := bfT hz
            have g4 : p.A0 = false := by simpa using ha
            have g1 : ¬ (1 : Int) ≤ p.beg := hb
            have g1' : p.beg < 1 := by omega
            have hok : p.ok = false := by simp [Pas.ok, g3, g4, g1]
            rw [hok] at hn
            simp only [WK, simprocAttr, S00, pasV_len, b1, i0, hx, Pas.av, Pas.cells, eA, w2, Int.toNat_natCast, get0, getk, set0, setk, List.append_assoc, ge_iff_le, gt_iff_lt, Bool.bne_false, bne_self_eq_false, Bool.bne_true, beq_self_eq_true, Int.reduceBNe, Int.reduceBEq, g3, g4, g1, g1']
            exact Fin.over (ho.app _) hbel (.inr rfl) rfl rfl (by rw [show chkP l = ((i : Int), 260) from by simp [chkP, e', hn]]; rfl) hbr
      · by_cases hb : 1 ≤ p.beg
        · by_cases hf : p.beg ≤ p.fin
          · by_cases hm : p.call.may = true
            · have g3 : (p.fin == 0) = false := bfF hz
              have g1 : (1 : Int) ≤ p.beg := hb
              have g1' : ¬ p.beg < 1 := by omega
              have g2 : p.beg ≤ p.fin := hf
              have g2' : ¬ p.fin < p.beg := by omega
              have g5 : p.call.may = true := hm
              have hok : p.ok = true := by simp [Pas.ok, g3, g1, g2, g5]
              rw [hok] at hn
              simp only [WK, simprocAttr, S00, pasV_len, b1, i0, hx, Pas.av, Pas.cells, eA, w2, Int.toNat_natCast, get0, getk, set0, setk, List.append_assoc, ge_iff_le, gt_iff_lt, Bool.bne_false, bne_self_eq_false, Bool.bne_true, beq_self_eq_true, Int.reduceBNe, Int.reduceBEq, g3, g1, g1', g2, g2', g5]
              refine ⟨_, _, k66t hm _, ?_⟩
              try simp only [WK, simprocAttr, S00, pasV_len, b1, i0, w2, get0, getk, set0, setk, List.append_assoc, ge_iff_le, gt_iff_lt, Bool.bne_false, bne_self_eq_false, Bool.bne_true, beq_self_eq_true, Int.reduceBNe, Int.reduceBEq]
              exact ⟨_, _, by omega, ⟨i + 1, by omega, rfl, ho.app _, by rw [hn]; rfl, rfl⟩, ⟨rfl, rfl, by simp [alook]⟩⟩
            · have g3 : (p.fin == 0) = false := bfF hz
              have g1 : (1 : Int) ≤ p.beg := hb
              have g1' : ¬ p.beg < 1 := by omega
              have g2 : p.beg ≤ p.fin := hf
              have g2' : ¬ p.fin < p.beg := by omega
              have g5 : p.call.may = false := by simpa using hm
              have hok : p.ok = false := by simp [Pas.ok, g3, g1, g2, g5]
              rw [hok] at hn
              simp only [WK, simprocAttr, S00, pasV_len, b1, i0, hx, Pas.av, Pas.cells, eA, w2, Int.toNat_natCast, get0, getk, set0, setk, List.append_assoc, ge_iff_le, gt_iff_lt, Bool.bne_false, bne_self_eq_false, Bool.bne_true, beq_self_eq_true, Int.reduceBNe, Int.reduceBEq, g3, g1, g1', g2, g2', g5]
              refine ⟨_, _, k66f g5 _, ?_⟩
              try simp only [WK, simprocAttr, S00, pasV_len, b1, i0, w2, get0, getk, set0, setk, List.append_assoc, ge_iff_le, gt_iff_lt, Bool.bne_false, bne_self_eq_false, Bool.bne_true, beq_self_eq_true, Int.reduceBNe, Int.reduceBEq]
              exact Fin.over (ho.app _) hbel (.inr rfl) rfl rfl (by rw [show chkP l = ((i : Int), 260) from by simp [chkP, e', hn]]; rfl) hbr
          · have g3 : (p.fin == 0) = false := bfF hz
            have g1 : (1 : Int) ≤ p.beg := hb
            have g1' : ¬ p.beg < 1 := by omega
            have g2 : ¬ p.beg ≤ p.fin := hf
            have g2' : p.fin < p.beg := by omega
            have hok : p.ok = false := by simp [Pas.ok, g3, g1, g2]
            rw [hok] at hn
            simp only [WK, simprocAttr, S00, pasV_len, b1, i0, hx, Pas.av, Pas.cells, eA, w2, Int.toNat_natCast, get0, getk, set0, setk, List.append_assoc, ge_iff_le, gt_iff_lt, Bool.bne_false, bne_self_eq_false, Bool.bne_true, beq_self_eq_true, Int.reduceBNe, Int.reduceBEq, g3, g1, g1', g2, g2']
            exact Fin.over (ho.app _) hbel (.inr rfl) rfl rfl (by rw [show chkP l = ((i : Int), 260) from by simp [chkP, e', hn]]; rfl) hbr
        · have g3 : (p.fin == 0) = false := bfF hz
          have g1 : ¬ (1 : Int) ≤ p.beg := hb
          have g1' : p.beg < 1 := by omega
          have hok : p.ok = false := by simp [Pas.ok, g3, g1]
          rw [hok] at hn
          simp only [WK, simprocAttr, S00, pasV_len, b1, i0, hx, Pas.av, Pas.cells, eA, w2, Int.toNat_natCast, get0, getk, set0, setk, List.append_assoc, ge_iff_le, gt_iff_lt, Bool.bne_false, bne_self_eq_false, Bool.bne_true, beq_self_eq_true, Int.reduceBNe, Int.reduceBEq, g3, g1, g1']
          exact Fin.over (ho.app _) hbel (.inr rfl) rfl rfl (by rw [show chkP l = ((i : Int), 260) from by simp [chkP, e', hn]]; rfl) hbr
    · have b2 : i = l.length := by omega
      subst b2
      simp only [WK, simprocAttr, S00, pasV_len, b1]
      exact Fin.over ho hbel (.inr rfl) rfl rfl (by rw [show chkP l = (0, 0) from by simp [chkP, e', hn, List.drop_length, badAt]]; rfl) hbr
end Go.Av

/- Contracts: a history in memory of its own. -/
set_option linter.unusedVariables false
set_option linter.unusedSimpArgs false
namespace Go.Av
open Go Go.Proofs
set_option maxRecDepth 100000
set_option maxHeartbeats 4000000
structure Pas.OK (p : Pas) : Prop where
  bs : ∀ x ∈ p.call.bs, okE 1 x = true
  len : p.call.bs.length ≤ maxLen
  bel : ∀ n, ∀ x ∈ p.call.bs, ∀ u ∈ x.cells, Bel n u
/-- A call of a history, other bytes in it. -/
def Pas.avB (p : Pas) (b : AV) : AV := .agg [.int .i64 p.tid, .int .i64 p.call.kind, .int .i64 p.call.flags, .int .i64 p.call.uid, b, .int .i64 p.call.owner, .bool p.call.setu, .int .u32 p.call.nr, .int .u32 p.call.arch, .int .u64 p.call.ip, .int .u64 p.call.a0, .int .u64 p.call.a1, .int .u64 p.call.a2, .int .u64 p.call.a3, .int .u64 p.call.a4, .int .u64 p.call.a5, .int .i64 p.beg, .int .i64 p.fin, .int .i64 p.err, .int .i64 p.val, .int .i64 p.act, .int .u16 p.dat, .bool p.over]
def Pas.with (p : Pas) (bs : List AV) : Pas := { p with call := { p.call with bs := bs } }
def clipP (p : Pas) : Pas := p.with (p.call.bs.take 528)
def callsL (l : List Pas) : List Pas := (l.take (if 60 < l.length then 61 else 16)).map clipP
theorem avB_cells (p : Pas) (b : AV) : (p.avB b).cells = p.cells.set 4 b := rfl
theorem cells4 (p : Pas) : p.cells[4]? = some (.sl false p.call.bs) := rfl
theorem cells_bel (p : Pas) (n : Nat) : ∀ u ∈ p.cells, u = .sl false p.call.bs ∨ Bel n u := by
  intro u hu
  simp only [Pas.cells, List.mem_cons, List.not_mem_nil, or_false] at hu
  rcases hu with rfl | rfl | rfl | rfl | rfl | rfl | rfl | rfl | rfl | rfl | rfl | rfl | rfl | rfl | rfl | rfl | rfl | rfl | rfl | rfl | rfl | rfl | rfl <;> first | exact .inl rfl | exact .inr (.int _ _) | exact .inr (.bool _)
theorem set_app {H : AHeap} {id : Nat} (h : id < H.length) (X : AHeap) (o : AObj) : (H ++ X).set id o = H.set id o ++ X := by rw [List.set_append_left _ _ h]
theorem rowAt_lt {H : AHeap} {id v : Nat} {x : Nat × List AV} (e : rowAt H id v = some x) : id < H.length := by
  obtain ⟨sz, es⟩ := x
  exact getElem?_lt (rowAt_eq e)
theorem rowAt_set_ne {H : AHeap} {id j v : Nat} (o : AObj) (h : j ≠ id) : rowAt (H.set id o) j v = rowAt H j v := by
  unfold rowAt
  rw [List.getElem?_set_ne (Ne.symm h)]
theorem rowAt_set_eq {H : AHeap} {id v sz : Nat} {es : List AV} (h : id < H.length) : rowAt (H.set id (.row v sz es)) id v = some (sz, es) := by
  unfold rowAt
  rw [List.getElem?_set_self h]
  exact if_pos rfl
def BRow (b : Nat) (H : AHeap) (p : AV) (bs : List AV) : Prop := (bs = [] ∧ p = .sl true []) ∨ (∃ id, b ≤ id ∧ p = .rf id 0 0 bs.length ∧ rowAt H id 0 = some (1, bs))
def OutP (b : Nat) (H : AHeap) (out : AV) (d : List Pas) : Prop :=
  (d = [] ∧ out = .sl true []) ∨ (d ≠ [] ∧ ∃ id ver es, b ≤ id ∧ out = .rf id ver 0 d.length ∧ rowAt H id ver = some (23, es) ∧ es.length = d.length ∧ ∀ (j : Nat) (f : Pas), d[j]? = some f → ∃ p, es[j]? = some (f.avB p) ∧ BRow b H p f.call.bs)
theorem BRow.app {b : Nat} {H : AHeap} {p : AV} {bs : List AV} (h : BRow b H p bs) (X : AHeap) : BRow b (H ++ X) p bs := by
  rcases h with h | ⟨id, h1, h2, h3⟩
  · exact .inl h
  · exact .inr ⟨id, h1, h2, rowAt_app h3 X⟩
theorem BRow.set {b : Nat} {H : AHeap} {p : AV} {bs : List AV} (h : BRow b H p bs) {id ver : Nat} {es : List AV} (hr : rowAt H id ver = some (23, es)) (o : AObj) : BRow b (H.set id o) p bs := by
  rcases h with h | ⟨j, h1, h2, h3⟩
  · exact .inl h
  · refine .inr ⟨j, h1, h2, ?_⟩
    rw [rowAt_set_ne]
    · exact h3
    · rintro rfl
      have e1 := rowAt_eq hr
      have e2 := rowAt_eq h3
      rw [e1] at e2
      cases e2
theorem BRow.fz {b : Nat} {H : AHeap} {p : AV} {prog : List AV} (h : BRow b H p prog) (hb : ∀ x ∈ prog, ∀ u ∈ x.cells, Bel b u) : Fz b H p (.sl false prog) := by
  rcases h with ⟨rfl, rfl⟩ | ⟨id, h1, rfl, h3⟩
  · exact .sl true false [] [] rfl (fun c => by cases c) (fun j x y hx => by simp at hx) (fun j u v hu => by simp [flat] at hu)
  · have e : (prog.drop 0).take prog.length = prog := by simp
    refine .rf id 0 0 prog.length 1 prog prog h1 h3 (by rw [e]) (fun j x y hx hy => ?_) (fun j u v hu hv => ?_)
    · rw [e, hy] at hx; cases hx; rfl
    · rw [e] at hu
      have huv : u = v := by rw [hu] at hv; exact Option.some.inj hv
      subst huv
      have := List.mem_of_getElem? hu
      rw [flat, List.mem_flatMap] at this
      obtain ⟨x, x1, x2⟩ := this
      exact .keep _ (hb x x1 u x2)
theorem OutP.fz {b : Nat} {H : AHeap} {out : AV} {d : List Pas} (h : OutP b H out d) (hb : ∀ f ∈ d, ∀ x ∈ f.call.bs, ∀ u ∈ x.cells, Bel b u) : Fz b H out (.sl false (pasV d)) := by
  rcases h with ⟨rfl, rfl⟩ | ⟨_, id, ver, es, h1, rfl, h3, h4, h5⟩
  · exact .sl true false [] [] rfl (fun c => by cases c) (fun j x y hx => by simp at hx) (fun j u v hu => by simp [flat] at hu)
  · have e : (es.drop 0).take d.length = es := by rw [List.drop_zero, List.take_of_length_le (by omega)]
    have key : ∀ (j : Nat) (x y : AV), es[j]? = some x → (pasV d)[j]? = some y → FzE b H x y := by
      intro j x y hx hy
      have hj : j < d.length := by have := getElem?_lt hx; omega
      obtain ⟨p, e1, e2⟩ := h5 j _ (List.getElem?_eq_getElem hj)
      rw [e1] at hx; cases hx
      rw [pasV_get hj] at hy; cases hy
      have hy2 : (d[j].av).cells = d[j].cells := rfl
      refine ⟨rfl, fun i u v hu hv => ?_⟩
      rw [avB_cells] at hu
      rw [hy2] at hv
      by_cases c : i = 4
      · subst c
        rw [cells4] at hv; cases hv
        have : (d[j].cells.set 4 p)[4]? = some p := rfl
        rw [this] at hu; cases hu
        exact e2.fz (hb _ (List.getElem_mem hj))
      · rw [List.getElem?_set_ne (Ne.symm c)] at hu
        have huv : u = v := by rw [hu] at hv; exact Option.some.inj hv
        subst huv
        rcases cells_bel d[j] b u (List.mem_of_getElem? hu) with h | h
        · exact .keep _ (by rw [h, bel_sl]; exact hb _ (List.getElem_mem hj))
        · exact .keep _ h
    refine .rf id ver 0 d.length 23 es (pasV d) h1 h3 (by rw [e, pasV_len, h4]) (fun j x y hx hy => ?_) (fun j u v hu hv => ?_)
    · rw [e] at hx; exact (key j x y hx hy).1
    · rw [e] at hu; exact flat_fz (by rw [pasV_len, h4]) key j u v hu hv
theorem OutP.nil1 {b : Nat} {H : AHeap} {d : List Pas} (hd : d = []) (f : Pas) (p : AV) (X : AHeap) (k : Nat) (hb : b ≤ H.length) (hk : X[k]? = some (.row 0 23 [f.avB p])) (hp : BRow b (H ++ X) p f.call.bs) : OutP b (H ++ X) (.rf (H.length + k) 0 0 1) (d ++ [f]) := by
  subst hd
  refine .inr ⟨by simp, H.length + k, 0, [f.avB p], by omega, rfl, ?_, rfl, fun j g hj => ?_⟩
  · rw [rowAtk]; simp [rowAt, hk]
  · cases j with
    | zero => simp at hj; subst hj; exact ⟨p, rfl, hp⟩
    | succ j => simp at hj
theorem OutP.more {b : Nat} {H : AHeap} {d : List Pas} {oid over : Nat} {es : List AV} (q1 : b ≤ oid) (q3 : rowAt H oid over = some (23, es)) (q4 : es.length = d.length) (q5 : ∀ (j : Nat) (f : Pas), d[j]? = some f → ∃ p, es[j]? = some (f.avB p) ∧ BRow b H p f.call.bs)
    (f : Pas) (p : AV) (X : AHeap) (hp : BRow b (H ++ X) p f.call.bs) : OutP b (H.set oid (.row (over + 1) 23 (es ++ [f.avB p])) ++ X) (.rf oid (over + 1) 0 (d.length + 1)) (d ++ [f]) := by
  have hlt := rowAt_lt q3
  have hs : H.set oid (.row (over + 1) 23 (es ++ [f.avB p])) ++ X = (H ++ X).set oid (.row (over + 1) 23 (es ++ [f.avB p])) := (set_app hlt X _).symm
  refine .inr ⟨by simp, oid, over + 1, es ++ [f.avB p], q1, by simp, ?_, by simp [q4], fun j g hj => ?_⟩
  · exact rowAt_app (rowAt_set_eq hlt) X
  · rw [hs]
    rcases Nat.lt_or_ge j d.length with c | c
    · rw [List.getElem?_append_left c] at hj
      obtain ⟨p', e1, e2⟩ := q5 j g hj
      refine ⟨p', by rw [List.getElem?_append_left (by omega)]; exact e1, ?_⟩
      exact (e2.app X).set (rowAt_app q3 X) _
    · have : j = d.length := by have := getElem?_lt hj; simp at this; omega
      subst this
      rw [List.getElem?_append_right (Nat.le_refl _), Nat.sub_self] at hj
      simp at hj
      subst hj
      refine ⟨p, by rw [List.getElem?_append_right (by omega), q4, Nat.sub_self]; rfl, ?_⟩
      exact hp.set (rowAt_app q3 X) _
theorem OutP.app {b : Nat} {H : AHeap} {out : AV} {d : List Pas} (h : OutP b H out d) (X : AHeap) : OutP b (H ++ X) out d := by
  rcases h with h | ⟨h0, id, ver, es, h1, h2, h3, h4, h5⟩
  · exact .inl h
  · exact .inr ⟨h0, id, ver, es, h1, h2, rowAt_app h3 X, h4, fun j f hj => by obtain ⟨p, e1, e2⟩ := h5 j f hj; exact ⟨p, e1, e2.app X⟩⟩
theorem w1 {bs : List AV} (h : ∀ x ∈ bs, okE 1 x = true) : bs.all (fun x => x.cells.length == 1) = true := by
  rw [List.all_eq_true]
  intro x hx
  have := h x hx
  simp only [okE, Bool.and_eq_true] at this
  exact this.1
theorem o1 {bs : List AV} (h : ∀ x ∈ bs, okE 1 x = true) : bs.all (okE 1) = true := List.all_eq_true.2 h
/-- So many calls of a history, as they are laid. -/
def upTo (N : Nat) (l : List Pas) : List Pas := (l.take N).map clipP
theorem upTo_next {l : List Pas} {i N : Nat} (h : i < l.length) (hN : i < N) : upTo N (l.take (i + 1)) = upTo N (l.take i) ++ [clipP l[i]] := by
  simp only [upTo]
  rw [List.take_of_length_le (by rw [List.length_take]; omega), List.take_of_length_le (l := l.take i) (by rw [List.length_take]; omega), List.take_add_one, List.getElem?_eq_getElem h, List.map_append]
  rfl
theorem upTo_stop {l : List Pas} {i N : Nat} (hN : ¬ i < N) : upTo N (l.take (i + 1)) = upTo N (l.take i) := by
  simp only [upTo, List.take_take]
  rw [Nat.min_eq_left (by omega), Nat.min_eq_left (by omega)]
theorem upTo_len {l : List Pas} {i N : Nat} (h : i ≤ l.length) (hN : i < N) : (upTo N (l.take i)).length = i := by
  simp only [upTo, List.length_map, List.length_take]; omega
theorem upTo_ok {l : List Pas} (h : ∀ p ∈ l, p.OK) (N : Nat) (n : Nat) : ∀ f ∈ upTo N l, ∀ x ∈ f.call.bs, ∀ u ∈ x.cells, Bel n u := by
  intro f hf x hx
  obtain ⟨g, hg, rfl⟩ := List.mem_map.1 hf
  exact (h g (List.mem_of_mem_take hg)).bel n x (List.mem_of_mem_take hx)
def calI (N : Nat) (l : List Pas) (t : Bool) (h : AHeap) (m : Nat) (τ : AFr) (H : AHeap) : Prop :=
  ∃ (i : Nat) (out : AV), i ≤ l.length ∧ m = l.length - i ∧ Over h H ∧ OutP h.length H out (upTo N (l.take i)) ∧ τ = { n := 40, s := [(1, .int .i64 (N : Int)), (5, out), (11, .sl t (pasV l)), (12, .int .i64 l.length), (13, .int .i64 i)], dfr := [] }
theorem k44 (t : Bool) (l : List Pas) (hl : l.length ≤ maxLen) (hok : ∀ p ∈ l, p.OK) (h : AHeap) : ACall PA 44 [.sl t (pasV l), .int .i64 16] h (.sl false (pasV (callsL l))) h := by
  refine ACall.ofG S00ok hmA h44 (by kernel_rfl) (Nat.le_of_ble_eq_true rfl) (Hstay.refl h) fun hbel => aS_den ?_
  have hl' : l.length ≤ 9223372036854775807 := hl
  by_cases e : (60 : Int) < (l.length : Int)
  · simp only [WK, simprocAttr, c44, n44, S00, pasV_len, gt_iff_lt, e]
    refine x_loop (calI 61 l t h) ⟨l.length, { n := 40, s := [(1, .int .i64 61), (5, .sl true []), (11, .sl t (pasV l)), (12, .int .i64 l.length), (13, .int .i64 0)], dfr := [] }, ⟨0, .sl true [], by omega, by omega, Over.refl h, .inl ⟨rfl, rfl⟩, rfl⟩, ⟨rfl, rfl, by simp [alook]⟩⟩ ?_
    rintro m τ H ⟨i, out, hi, rfl, ho, hq, rfl⟩
    have i0 : (0 : Int) ≤ (i : Int) := by omega
    by_cases b1 : (i : Int) < (l.length : Int)
    · have hlt : i < l.length := by omega
      have hx := pasV_get hlt
      have hpo := hok _ (List.getElem_mem hlt)
      have w2 : IntKind.i64.wrap ((i : Int) + 1) = ((i + 1 : Nat) : Int) := by
        simp [IntKind.wrap, IntKind.bits, IntKind.signed]; omega
      have hH := ho.len
      by_cases cN : (i : Int) < 61
      · have hN : i < 61 := by omega
        have ht := upTo_next hlt hN
        have hti := upTo_len (l := l) hi hN
        generalize hpp : l[i] = p at hx hpo ht
        have ok1 := w1 hpo.bs
        have j0 : (0 : Int) ≤ (p.call.bs.length : Int) := by omega
        by_cases c528 : (528 : Int) < (p.call.bs.length : Int)
        · have j1 : (528 : Int) ≤ (p.call.bs.length : Int) := by omega
          have tl : (p.call.bs.take 528).length = 528 := by rw [List.length_take]; omega
          have tn : ¬ p.call.bs.take 528 = [] := by intro e; rw [e] at tl; simp at tl
          have okl : (p.call.bs.take 528).all (okE 1) = true := o1 fun x hx => hpo.bs x (List.mem_of_mem_take hx)
          have hcl : (clipP p).call.bs.length = 528 := tl
          rcases hq with ⟨hd, rfl⟩ | ⟨hd, oid, over, es, q1, rfl, q3, q4, q5⟩
          · simp only [WK, simprocAttr, S00, b1, i0, hx, Pas.av, Pas.cells, w2, Int.toNat_natCast, cN, c528, j0, j1, aslc, pasV_len, ok1, okl, appR, most, Nat.zero_add, Nat.mul_one, get0, getk, set0, setk, List.append_assoc, List.drop_zero, Int.sub_zero, List.nil_append, Int.le_refl, Nat.le_refl, Bool.false_and, List.length_append, List.length_cons, List.length_nil, tl, tn]
            have hfin := OutP.nil1 (b := h.length) (H := H) hd (clipP p) (.rf (H.length + 1) 0 0 (clipP p).call.bs.length) [.row 0 23 [(clipP p).avB (.rf (H.length + 1) 0 0 (clipP p).call.bs.length)], .row 0 1 (clipP p).call.bs, .row 0 23 [(clipP p).avB (.rf (H.length + 1) 0 0 (clipP p).call.bs.length)]] 2 hH rfl (.inr ⟨H.length + 1, by omega, rfl, by rw [rowAtk]; rfl⟩)
            rw [← ht] at hfin
            rw [hcl] at hfin
            exact ⟨_, _, by omega, ⟨i + 1, .rf (H.length + 2) 0 0 1, by omega, rfl, ho.app _, hfin, rfl⟩, ⟨rfl, rfl, by simp [alook]⟩⟩
          · have u1 : ∀ X, (H ++ X)[oid]? = some (.row over 23 es) := fun X => rowAt_eq (rowAt_app q3 X)
            have u2 := rowAt_eq q3
            have u3 : i ≤ es.length := by omega
            have u4 : (i + 1) * 192 ≤ 140737488355328 := by omega
            have u5 : es.take i = es := List.take_of_length_le (by omega)
            have hso := fun X o => set_app (rowAt_lt q3) X o
            simp only [WK, simprocAttr, S00, b1, i0, hx, Pas.av, Pas.cells, w2, Int.toNat_natCast, cN, c528, j0, j1, aslc, pasV_len, ok1, okl, appR, most, Nat.zero_add, Nat.mul_one, get0, getk, set0, setk, List.append_assoc, List.drop_zero, Int.sub_zero, List.nil_append, Int.le_refl, Nat.le_refl, Bool.false_and, List.length_append, List.length_cons, List.length_nil, hti, u1, u2, u3, u4, u5, hso, tl, tn]
            have hfin := OutP.more q1 q3 q4 q5 (clipP p) (.rf (H.length + 1) 0 0 (clipP p).call.bs.length) [.row 0 23 [(clipP p).avB (.rf (H.length + 1) 0 0 (clipP p).call.bs.length)], .row 0 1 (clipP p).call.bs] (.inr ⟨H.length + 1, by omega, rfl, by rw [rowAtk]; rfl⟩)
            rw [hti, ← ht] at hfin
            rw [hcl] at hfin
            exact ⟨_, _, by omega, ⟨i + 1, .rf oid (over + 1) 0 (i + 1), by omega, rfl, (ho.set q1 _).app _, hfin, rfl⟩, ⟨rfl, rfl, by simp [alook]⟩⟩
        · have j1 : True := trivial
          have tt : p.call.bs.take p.call.bs.length = p.call.bs := List.take_length
          have hc0 : (clipP p).call.bs = p.call.bs := List.take_of_length_le (by omega)
          have okl : p.call.bs.all (okE 1) = true := o1 hpo.bs
          have okb : p.call.bs.length ≤ 140737488355328 := by omega
          by_cases hn : p.call.bs = []
          · have hcl0 : (clipP p).call.bs = [] := hc0.trans hn
            rcases hq with ⟨hd, rfl⟩ | ⟨hd, oid, over, es, q1, rfl, q3, q4, q5⟩
            · simp only [WK, simprocAttr, S00, b1, i0, hx, Pas.av, Pas.cells, w2, Int.toNat_natCast, cN, c528, j0, j1, aslc, pasV_len, ok1, okl, appR, most, Nat.zero_add, Nat.mul_one, get0, getk, set0, setk, List.append_assoc, List.drop_zero, Int.sub_zero, List.nil_append, Int.le_refl, Nat.le_refl, Bool.false_and, List.length_append, List.length_cons, List.length_nil, tt, hn]
              have hfin := OutP.nil1 (b := h.length) (H := H) hd (clipP p) (.sl true []) [.row 0 23 [(clipP p).avB (.sl true [])], .row 0 23 [(clipP p).avB (.sl true [])]] 1 hH rfl (.inl ⟨hcl0, rfl⟩)
              rw [← ht] at hfin
              exact ⟨_, _, by omega, ⟨i + 1, .rf (H.length + 1) 0 0 1, by omega, rfl, ho.app _, hfin, rfl⟩, ⟨rfl, rfl, by simp [alook]⟩⟩
            · have u1 : ∀ X, (H ++ X)[oid]? = some (.row over 23 es) := fun X => rowAt_eq (rowAt_app q3 X)
              have u2 := rowAt_eq q3
              have u3 : i ≤ es.length := by omega
              have u4 : (i + 1) * 192 ≤ 140737488355328 := by omega
              have u5 : es.take i = es := List.take_of_length_le (by omega)
              have hso := fun X o => set_app (rowAt_lt q3) X o
              simp only [WK, simprocAttr, S00, b1, i0, hx, Pas.av, Pas.cells, w2, Int.toNat_natCast, cN, c528, j0, j1, aslc, pasV_len, ok1, okl, appR, most, Nat.zero_add, Nat.mul_one, get0, getk, set0, setk, List.append_assoc, List.drop_zero, Int.sub_zero, List.nil_append, Int.le_refl, Nat.le_refl, Bool.false_and, List.length_append, List.length_cons, List.length_nil, hti, u1, u2, u3, u4, u5, hso, tt, hn]
              have hfin := OutP.more q1 q3 q4 q5 (clipP p) (.sl true []) [.row 0 23 [(clipP p).avB (.sl true [])]] (.inl ⟨hcl0, rfl⟩)
              rw [hti, ← ht] at hfin
              exact ⟨_, _, by omega, ⟨i + 1, .rf oid (over + 1) 0 (i + 1), by omega, rfl, (ho.set q1 _).app _, hfin, rfl⟩, ⟨rfl, rfl, by simp [alook]⟩⟩
          · have hcl : (clipP p).call.bs.length = p.call.bs.length := by rw [hc0]
            rcases hq with ⟨hd, rfl⟩ | ⟨hd, oid, over, es, q1, rfl, q3, q4, q5⟩
            · simp only [WK, simprocAttr, S00, b1, i0, hx, Pas.av, Pas.cells, w2, Int.toNat_natCast, cN, c528, j0, j1, aslc, pasV_len, ok1, okl, appR, most, Nat.zero_add, Nat.mul_one, get0, getk, set0, setk, List.append_assoc, List.drop_zero, Int.sub_zero, List.nil_append, Int.le_refl, Nat.le_refl, Bool.false_and, List.length_append, List.length_cons, List.length_nil, tt, hn, okb]
              have hfin := OutP.nil1 (b := h.length) (H := H) hd (clipP p) (.rf (H.length + 1) 0 0 (clipP p).call.bs.length) [.row 0 23 [(clipP p).avB (.rf (H.length + 1) 0 0 (clipP p).call.bs.length)], .row 0 1 (clipP p).call.bs, .row 0 23 [(clipP p).avB (.rf (H.length + 1) 0 0 (clipP p).call.bs.length)]] 2 hH rfl (.inr ⟨H.length + 1, by omega, rfl, by rw [rowAtk]; rfl⟩)
              rw [← ht] at hfin
              rw [hcl, hc0] at hfin
              exact ⟨_, _, by omega, ⟨i + 1, .rf (H.length + 2) 0 0 1, by omega, rfl, ho.app _, hfin, rfl⟩, ⟨rfl, rfl, by simp [alook]⟩⟩
            · have u1 : ∀ X, (H ++ X)[oid]? = some (.row over 23 es) := fun X => rowAt_eq (rowAt_app q3 X)
              have u2 := rowAt_eq q3
              have u3 : i ≤ es.length := by omega
              have u4 : (i + 1) * 192 ≤ 140737488355328 := by omega
              have u5 : es.take i = es := List.take_of_length_le (by omega)
              have hso := fun X o => set_app (rowAt_lt q3) X o
              simp only [WK, simprocAttr, S00, b1, i0, hx, Pas.av, Pas.cells, w2, Int.toNat_natCast, cN, c528, j0, j1, aslc, pasV_len, ok1, okl, appR, most, Nat.zero_add, Nat.mul_one, get0, getk, set0, setk, List.append_assoc, List.drop_zero, Int.sub_zero, List.nil_append, Int.le_refl, Nat.le_refl, Bool.false_and, List.length_append, List.length_cons, List.length_nil, hti, u1, u2, u3, u4, u5, hso, tt, hn, okb]
              have hfin := OutP.more q1 q3 q4 q5 (clipP p) (.rf (H.length + 1) 0 0 (clipP p).call.bs.length) [.row 0 23 [(clipP p).avB (.rf (H.length + 1) 0 0 (clipP p).call.bs.length)], .row 0 1 (clipP p).call.bs] (.inr ⟨H.length + 1, by omega, rfl, by rw [rowAtk]; rfl⟩)
              rw [hti, ← ht] at hfin
              rw [hcl, hc0] at hfin
              exact ⟨_, _, by omega, ⟨i + 1, .rf oid (over + 1) 0 (i + 1), by omega, rfl, (ho.set q1 _).app _, hfin, rfl⟩, ⟨rfl, rfl, by simp [alook]⟩⟩
      · have hN : ¬ i < 61 := by omega
        simp only [WK, simprocAttr, S00, b1, i0, hx, Pas.av, Pas.cells, w2, Int.toNat_natCast, cN, get0, getk, set0, setk]
        exact ⟨_, _, by omega, ⟨i + 1, out, by omega, rfl, ho.app _, by rw [upTo_stop hN]; exact hq.app _, rfl⟩, ⟨rfl, rfl, by simp [alook]⟩⟩
    · have b2 : i = l.length := by omega
      subst b2
      rw [List.take_length] at hq
      simp only [WK, simprocAttr, S00, b1]
      obtain ⟨g, rfl⟩ := ho
      have hcl : callsL l = upTo 61 l := by simp only [callsL, upTo]; rw [if_pos (by omega)]
      rw [hcl]
      exact Fin.fz hbel (.inr rfl) rfl rfl (hq.fz (upTo_ok hok _ _))
  · simp only [WK, simprocAttr, c44, n44, S00, pasV_len, gt_iff_lt, e]
    refine x_loop (calI 16 l t h) ⟨l.length, { n := 40, s := [(1, .int .i64 16), (5, .sl true []), (11, .sl t (pasV l)), (12, .int .i64 l.length), (13, .int .i64 0)], dfr := [] }, ⟨0, .sl true [], by omega, by omega, Over.refl h, .inl ⟨rfl, rfl⟩, rfl⟩, ⟨rfl, rfl, by simp [alook]⟩⟩ ?_
    rintro m τ H ⟨i, out, hi, rfl, ho, hq, rfl⟩
    have i0 : (0 : Int) ≤ (i : Int) := by omega
    by_cases b1 : (i : Int) < (l.length : Int)
    · have hlt : i < l.length := by omega
      have hx := pasV_get hlt
      have hpo := hok _ (List.getElem_mem hlt)
      have w2 : IntKind.i64.wrap ((i : Int) + 1) = ((i + 1 : Nat) : Int) := by
        simp [IntKind.wrap, IntKind.bits, IntKind.signed]; omega
      have hH := ho.len
      by_cases cN : (i : Int) < 16
      · have hN : i < 16 := by omega
        have ht := upTo_next hlt hN
        have hti := upTo_len (l := l) hi hN
        generalize hpp : l[i] = p at hx hpo ht
        have ok1 := w1 hpo.bs
        have j0 : (0 : Int) ≤ (p.call.bs.length : Int) := by omega
        by_cases c528 : (528 : Int) < (p.call.bs.length : Int)
        · have j1 : (528 : Int) ≤ (p.call.bs.length : Int) := by omega
          have tl : (p.call.bs.take 528).length = 528 := by rw [List.length_take]; omega
          have tn : ¬ p.call.bs.take 528 = [] := by intro e; rw [e] at tl; simp at tl
          have okl : (p.call.bs.take 528).all (okE 1) = true := o1 fun x hx => hpo.bs x (List.mem_of_mem_take hx)
          have hcl : (clipP p).call.bs.length = 528 := tl
          rcases hq with ⟨hd, rfl⟩ | ⟨hd, oid, over, es, q1, rfl, q3, q4, q5⟩
          · simp only [WK, simprocAttr, S00, b1, i0, hx, Pas.av, Pas.cells, w2, Int.toNat_natCast, cN, c528, j0, j1, aslc, pasV_len, ok1, okl, appR, most, Nat.zero_add, Nat.mul_one, get0, getk, set0, setk, List.append_assoc, List.drop_zero, Int.sub_zero, List.nil_append, Int.le_refl, Nat.le_refl, Bool.false_and, List.length_append, List.length_cons, List.length_nil, tl, tn]
            have hfin := OutP.nil1 (b := h.length) (H := H) hd (clipP p) (.rf (H.length + 1) 0 0 (clipP p).call.bs.length) [.row 0 23 [(clipP p).avB (.rf (H.length + 1) 0 0 (clipP p).call.bs.length)], .row 0 1 (clipP p).call.bs, .row 0 23 [(clipP p).avB (.rf (H.length + 1) 0 0 (clipP p).call.bs.length)]] 2 hH rfl (.inr ⟨H.length + 1, by omega, rfl, by rw [rowAtk]; rfl⟩)
            rw [← ht] at hfin
            rw [hcl] at hfin
            exact ⟨_, _, by omega, ⟨i + 1, .rf (H.length + 2) 0 0 1, by omega, rfl, ho.app _, hfin, rfl⟩, ⟨rfl, rfl, by simp [alook]⟩⟩
          · have u1 : ∀ X, (H ++ X)[oid]? = some (.row over 23 es) := fun X => rowAt_eq (rowAt_app q3 X)
            have u2 := rowAt_eq q3
            have u3 : i ≤ es.length := by omega
            have u4 : (i + 1) * 192 ≤ 140737488355328 := by omega
            have u5 : es.take i = es := List.take_of_length_le (by omega)
            have hso := fun X o => set_app (rowAt_lt q3) X o
            simp only [WK, simprocAttr, S00, b1, i0, hx, Pas.av, Pas.cells, w2, Int.toNat_natCast, cN, c528, j0, j1, aslc, pasV_len, ok1, okl, appR, most, Nat.zero_add, Nat.mul_one, get0, getk, set0, setk, List.append_assoc, List.drop_zero, Int.sub_zero, List.nil_append, Int.le_refl, Nat.le_refl, Bool.false_and, List.length_append, List.length_cons, List.length_nil, hti, u1, u2, u3, u4, u5, hso, tl, tn]
            have hfin := OutP.more q1 q3 q4 q5 (clipP p) (.rf (H.length + 1) 0 0 (clipP p).call.bs.length) [.row 0 23 [(clipP p).avB (.rf (H.length + 1) 0 0 (clipP p).call.bs.length)], .row 0 1 (clipP p).call.bs] (.inr ⟨H.length + 1, by omega, rfl, by rw [rowAtk]; rfl⟩)
            rw [hti, ← ht] at hfin
            rw [hcl] at hfin
            exact ⟨_, _, by omega, ⟨i + 1, .rf oid (over + 1) 0 (i + 1), by omega, rfl, (ho.set q1 _).app _, hfin, rfl⟩, ⟨rfl, rfl, by simp [alook]⟩⟩
        · have j1 : True := trivial
          have tt : p.call.bs.take p.call.bs.length = p.call.bs := List.take_length
          have hc0 : (clipP p).call.bs = p.call.bs := List.take_of_length_le (by omega)
          have okl : p.call.bs.all (okE 1) = true := o1 hpo.bs
          have okb : p.call.bs.length ≤ 140737488355328 := by omega
          by_cases hn : p.call.bs = []
          · have hcl0 : (clipP p).call.bs = [] := hc0.trans hn
            rcases hq with ⟨hd, rfl⟩ | ⟨hd, oid, over, es, q1, rfl, q3, q4, q5⟩
            · simp only [WK, simprocAttr, S00, b1, i0, hx, Pas.av, Pas.cells, w2, Int.toNat_natCast, cN, c528, j0, j1, aslc, pasV_len, ok1, okl, appR, most, Nat.zero_add, Nat.mul_one, get0, getk, set0, setk, List.append_assoc, List.drop_zero, Int.sub_zero, List.nil_append, Int.le_refl, Nat.le_refl, Bool.false_and, List.length_append, List.length_cons, List.length_nil, tt, hn]
              have hfin := OutP.nil1 (b := h.length) (H := H) hd (clipP p) (.sl true []) [.row 0 23 [(clipP p).avB (.sl true [])], .row 0 23 [(clipP p).avB (.sl true [])]] 1 hH rfl (.inl ⟨hcl0, rfl⟩)
              rw [← ht] at hfin
              exact ⟨_, _, by omega, ⟨i + 1, .rf (H.length + 1) 0 0 1, by omega, rfl, ho.app _, hfin, rfl⟩, ⟨rfl, rfl, by simp [alook]⟩⟩
            · have u1 : ∀ X, (H ++ X)[oid]? = some (.row over 23 es) := fun X => rowAt_eq (rowAt_app q3 X)
              have u2 := rowAt_eq q3
              have u3 : i ≤ es.length := by omega
              have u4 : (i + 1) * 192 ≤ 140737488355328 := by omega
              have u5 : es.take i = es := List.take_of_length_le (by omega)
              have hso := fun X o => set_app (rowAt_lt q3) X o
              simp only [WK, simprocAttr, S00, b1, i0, hx, Pas.av, Pas.cells, w2, Int.toNat_natCast, cN, c528, j0, j1, aslc, pasV_len, ok1, okl, appR, most, Nat.zero_add, Nat.mul_one, get0, getk, set0, setk, List.append_assoc, List.drop_zero, Int.sub_zero, List.nil_append, Int.le_refl, Nat.le_refl, Bool.false_and, List.length_append, List.length_cons, List.length_nil, hti, u1, u2, u3, u4, u5, hso, tt, hn]
              have hfin := OutP.more q1 q3 q4 q5 (clipP p) (.sl true []) [.row 0 23 [(clipP p).avB (.sl true [])]] (.inl ⟨hcl0, rfl⟩)
              rw [hti, ← ht] at hfin
              exact ⟨_, _, by omega, ⟨i + 1, .rf oid (over + 1) 0 (i + 1), by omega, rfl, (ho.set q1 _).app _, hfin, rfl⟩, ⟨rfl, rfl, by simp [alook]⟩⟩
          · have hcl : (clipP p).call.bs.length = p.call.bs.length := by rw [hc0]
            rcases hq with ⟨hd, rfl⟩ | ⟨hd, oid, over, es, q1, rfl, q3, q4, q5⟩
            · simp only [WK, simprocAttr, S00, b1, i0, hx, Pas.av, Pas.cells, w2, Int.toNat_natCast, cN, c528, j0, j1, aslc, pasV_len, ok1, okl, appR, most, Nat.zero_add, Nat.mul_one, get0, getk, set0, setk, List.append_assoc, List.drop_zero, Int.sub_zero, List.nil_append, Int.le_refl, Nat.le_refl, Bool.false_and, List.length_append, List.length_cons, List.length_nil, tt, hn, okb]
              have hfin := OutP.nil1 (b := h.length) (H := H) hd (clipP p) (.rf (H.length + 1) 0 0 (clipP p).call.bs.length) [.row 0 23 [(clipP p).avB (.rf (H.length + 1) 0 0 (clipP p).call.bs.length)], .row 0 1 (clipP p).call.bs, .row 0 23 [(clipP p).avB (.rf (H.length + 1) 0 0 (clipP p).call.bs.length)]] 2 hH rfl (.inr ⟨H.length + 1, by omega, rfl, by rw [rowAtk]; rfl⟩)
              rw [← ht] at hfin
              rw [hcl, hc0] at hfin
              exact ⟨_, _, by omega, ⟨i + 1, .rf (H.length + 2) 0 0 1, by omega, rfl, ho.app _, hfin, rfl⟩, ⟨rfl, rfl, by simp [alook]⟩⟩
            · have u1 : ∀ X, (H ++ X)[oid]? = some (.row over 23 es) := fun X => rowAt_eq (rowAt_app q3 X)
              have u2 := rowAt_eq q3
              have u3 : i ≤ es.length := by omega
              have u4 : (i + 1) * 192 ≤ 140737488355328 := by omega
              have u5 : es.take i = es := List.take_of_length_le (by omega)
              have hso := fun X o => set_app (rowAt_lt q3) X o
              simp only [WK, simprocAttr, S00, b1, i0, hx, Pas.av, Pas.cells, w2, Int.toNat_natCast, cN, c528, j0, j1, aslc, pasV_len, ok1, okl, appR, most, Nat.zero_add, Nat.mul_one, get0, getk, set0, setk, List.append_assoc, List.drop_zero, Int.sub_zero, List.nil_append, Int.le_refl, Nat.le_refl, Bool.false_and, List.length_append, List.length_cons, List.length_nil, hti, u1, u2, u3, u4, u5, hso, tt, hn, okb]
              have hfin := OutP.more q1 q3 q4 q5 (clipP p) (.rf (H.length + 1) 0 0 (clipP p).call.bs.length) [.row 0 23 [(clipP p).avB (.rf (H.length + 1) 0 0 (clipP p).call.bs.length)], .row 0 1 (clipP p).call.bs] (.inr ⟨H.length + 1, by omega, rfl, by rw [rowAtk]; rfl⟩)
              rw [hti, ← ht] at hfin
              rw [hcl, hc0] at hfin
              exact ⟨_, _, by omega, ⟨i + 1, .rf oid (over + 1) 0 (i + 1), by omega, rfl, (ho.set q1 _).app _, hfin, rfl⟩, ⟨rfl, rfl, by simp [alook]⟩⟩
      · have hN : ¬ i < 16 := by omega
        simp only [WK, simprocAttr, S00, b1, i0, hx, Pas.av, Pas.cells, w2, Int.toNat_natCast, cN, get0, getk, set0, setk]
        exact ⟨_, _, by omega, ⟨i + 1, out, by omega, rfl, ho.app _, by rw [upTo_stop hN]; exact hq.app _, rfl⟩, ⟨rfl, rfl, by simp [alook]⟩⟩
    · have b2 : i = l.length := by omega
      subst b2
      rw [List.take_length] at hq
      simp only [WK, simprocAttr, S00, b1]
      obtain ⟨g, rfl⟩ := ho
      have hcl : callsL l = upTo 16 l := by simp only [callsL, upTo]; rw [if_neg (by omega)]
      rw [hcl]
      exact Fin.fz hbel (.inr rfl) rfl rfl (hq.fz (upTo_ok hok _ _))
end Go.Av

/- Contracts: the statement's own function, histories checked. -/
set_option linter.unusedVariables false
set_option linter.unusedSimpArgs false
namespace Go.Av
open Go Go.Proofs
set_option maxRecDepth 100000
set_option maxHeartbeats 4000000
def rowsP (rows : List (List Pas)) : List AV := rows.map fun l => .sl false (pasV l)
theorem rowsP_len (l : List (List Pas)) : (rowsP l).length = l.length := by simp [rowsP]
theorem rowsP_get {l : List (List Pas)} {i : Nat} (h : i < l.length) : (rowsP l)[i]? = some (.sl false (pasV l[i])) := by simp [rowsP, h]
structure Row.OK (l : List Pas) : Prop where
  len : l.length ≤ maxLen
  ok : ∀ p ∈ l, p.OK
theorem callsL_len (l : List Pas) : (callsL l).length ≤ 61 := by
  simp only [callsL, List.length_map, List.length_take]
  split <;> omega
def jchI (rows : List (List Pas)) (t : Bool) (m : Nat) (τ : AFr) (H : AHeap) : Prop :=
  ∃ i : Nat, i ≤ rows.length ∧ i ≤ 8 ∧ m = rows.length - i ∧ H = [] ∧ τ = { n := 41, s := [(11, .sl t (rowsP rows)), (12, .int .i64 rows.length), (13, .int .i64 i)], dfr := [] }
theorem k10 (t : Bool) (rows : List (List Pas)) (hok : ∀ l ∈ rows, Row.OK l) : ACall PA 10 [.sl t (rowsP rows)] [] (.bool true) [] := by
  refine ACall.ofG S00ok hmA h10 (by kernel_rfl) (Nat.le_of_ble_eq_true rfl) (Hstay.refl []) fun hbel => aS_den ?_
  simp only [WK, simprocAttr, c10, n10, S00]
  refine ⟨_, _, k13, ?_⟩
  simp only [WK, simprocAttr, S00, rowsP_len]
  refine x_loop (jchI rows t) ⟨rows.length, { n := 41, s := [(11, .sl t (rowsP rows)), (12, .int .i64 rows.length), (13, .int .i64 0)], dfr := [] }, ⟨0, by omega, by omega, by omega, rfl, rfl⟩, ⟨rfl, rfl, by simp [alook]⟩⟩ ?_
  rintro m τ H ⟨i, hi, h8, rfl, rfl, rfl⟩
  have i0 : (0 : Int) ≤ (i : Int) := by omega
  by_cases b1 : (i : Int) < (rows.length : Int)
  · have hlt : i < rows.length := by omega
    have hx := rowsP_get hlt
    have hro := hok _ (List.getElem_mem hlt)
    have w2 : IntKind.i64.wrap ((i : Int) + 1) = ((i + 1 : Nat) : Int) := by
      simp [IntKind.wrap, IntKind.bits, IntKind.signed]; omega
    by_cases e8 : i = 8
    · have e8' : ((i : Int) == 8) = true := bfT (by omega)
      simp only [WK, simprocAttr, S00, rowsP_len, b1, i0, hx, w2, Int.toNat_natCast, e8']
      exact Fin.plain (.inr rfl) rfl rfl rfl
    · have e8' : ((i : Int) == 8) = false := bfF (by omega)
      simp only [WK, simprocAttr, S00, rowsP_len, b1, i0, hx, w2, Int.toNat_natCast, e8']
      refine ⟨_, _, k44 _ _ hro.len hro.ok [], ?_⟩
      try simp only [WK, simprocAttr, S00]
      refine ⟨_, _, k43 _ (callsL_len _) [], ?_⟩
      try simp only [WK, simprocAttr, S00]
      refine ⟨_, _, k44 _ _ hro.len hro.ok [], ?_⟩
      try simp only [WK, simprocAttr, S00]
      refine ⟨_, _, k45 _ (callsL_len _) [], ?_⟩
      try simp only [WK, simprocAttr, S00, w2, bne_self_eq_false]
      exact ⟨_, _, by omega, ⟨i + 1, by omega, by omega, rfl, rfl, rfl⟩, ⟨rfl, rfl, by simp [alook]⟩⟩
  · simp only [WK, simprocAttr, S00, rowsP_len, b1]
    exact Fin.plain (.inr rfl) rfl rfl rfl
/-- A past's kinds. -/
def KPast : List CK := [.int .i64, .int .i64, .int .i64, .int .i64, .sl false [.int .u8], .int .i64, .bool, .int .u32, .int .u32, .int .u64, .int .u64, .int .u64, .int .u64, .int .u64, .int .u64, .int .u64, .int .i64, .int .i64, .int .i64, .int .i64, .int .i64, .int .u16, .bool]
theorem past_of {us : List AV} (h : WfL KPast us) : ∃ p : Pas, us = p.cells ∧ p.OK := by
  obtain ⟨c0, r0, e0, b0, t0⟩ := WfL.consOf h
  obtain ⟨tid, f0, _⟩ := b0.intOf
  obtain ⟨c1, r1, e1, b1, t1⟩ := WfL.consOf t0
  obtain ⟨kind, f1, _⟩ := b1.intOf
  obtain ⟨c2, r2, e2, b2, t2⟩ := WfL.consOf t1
  obtain ⟨flags, f2, _⟩ := b2.intOf
  obtain ⟨c3, r3, e3, b3, t3⟩ := WfL.consOf t2
  obtain ⟨uid, f3, _⟩ := b3.intOf
  obtain ⟨c4, r4, e4, b4, t4⟩ := WfL.consOf t3
  obtain ⟨bs, f4, _, hbs, hbl⟩ := b4.slOf
  obtain ⟨c5, r5, e5, b5, t5⟩ := WfL.consOf t4
  obtain ⟨owner, f5, _⟩ := b5.intOf
  obtain ⟨c6, r6, e6, b6, t6⟩ := WfL.consOf t5
  obtain ⟨setu, f6⟩ := b6.boolOf
  obtain ⟨c7, r7, e7, b7, t7⟩ := WfL.consOf t6
  obtain ⟨nr, f7, _⟩ := b7.intOf
  obtain ⟨c8, r8, e8, b8, t8⟩ := WfL.consOf t7
  obtain ⟨arch, f8, _⟩ := b8.intOf
  obtain ⟨c9, r9, e9, b9, t9⟩ := WfL.consOf t8
  obtain ⟨ip, f9, _⟩ := b9.intOf
  obtain ⟨c10, r10, e10, b10, t10⟩ := WfL.consOf t9
  obtain ⟨a0, f10, _⟩ := b10.intOf
  obtain ⟨c11, r11, e11, b11, t11⟩ := WfL.consOf t10
  obtain ⟨a1, f11, _⟩ := b11.intOf
  obtain ⟨c12, r12, e12, b12, t12⟩ := WfL.consOf t11
  obtain ⟨a2, f12, _⟩ := b12.intOf
  obtain ⟨c13, r13, e13, b13, t13⟩ := WfL.consOf t12
  obtain ⟨a3, f13, _⟩ := b13.intOf
  obtain ⟨c14, r14, e14, b14, t14⟩ := WfL.consOf t13
  obtain ⟨a4, f14, _⟩ := b14.intOf
  obtain ⟨c15, r15, e15, b15, t15⟩ := WfL.consOf t14
  obtain ⟨a5, f15, _⟩ := b15.intOf
  obtain ⟨c16, r16, e16, b16, t16⟩ := WfL.consOf t15
  obtain ⟨beg, f16, _⟩ := b16.intOf
  obtain ⟨c17, r17, e17, b17, t17⟩ := WfL.consOf t16
  obtain ⟨fin, f17, _⟩ := b17.intOf
  obtain ⟨c18, r18, e18, b18, t18⟩ := WfL.consOf t17
  obtain ⟨err, f18, _⟩ := b18.intOf
  obtain ⟨c19, r19, e19, b19, t19⟩ := WfL.consOf t18
  obtain ⟨val, f19, _⟩ := b19.intOf
  obtain ⟨c20, r20, e20, b20, t20⟩ := WfL.consOf t19
  obtain ⟨act, f20, _⟩ := b20.intOf
  obtain ⟨c21, r21, e21, b21, t21⟩ := WfL.consOf t20
  obtain ⟨dat, f21, _⟩ := b21.intOf
  obtain ⟨c22, r22, e22, b22, t22⟩ := WfL.consOf t21
  obtain ⟨over, f22⟩ := b22.boolOf
  have en := WfL.nilOf t22
  subst f0 f1 f2 f3 f4 f5 f6 f7 f8 f9 f10 f11 f12 f13 f14 f15 f16 f17 f18 f19 f20 f21 f22
  subst en
  subst e22
  subst e21
  subst e20
  subst e19
  subst e18
  subst e17
  subst e16
  subst e15
  subst e14
  subst e13
  subst e12
  subst e11
  subst e10
  subst e9
  subst e8
  subst e7
  subst e6
  subst e5
  subst e4
  subst e3
  subst e2
  subst e1
  subst e0
  refine ⟨⟨tid, ⟨kind, flags, uid, bs, owner, setu, nr, arch, ip, a0, a1, a2, a3, a4, a5⟩, beg, fin, err, val, act, dat, over⟩, rfl, fun x hx => ?_, hbl, fun n x hx u hu => (hbs x hx).bel u hu⟩
  have w := hbs x hx
  have l := w.len
  simp only [okE, okC, Bool.and_eq_true, beq_iff_eq, List.all_eq_true]
  exact ⟨by rw [l]; rfl, w.one'⟩
theorem row_of {x : AV} (h : WfC (.sl true KPast) x) : ∃ l : List Pas, x = .sl false (pasV l) ∧ Row.OK l := by
  obtain ⟨xs, rfl, h1, h2, h3⟩ := h.slOf
  obtain ⟨us, rfl, hu⟩ := list_of (f := Pas.av) (p := Pas.OK) (xs := xs) fun x hx => by
    obtain ⟨cs, rfl⟩ := h1 rfl x hx
    obtain ⟨f, hf, ok⟩ := past_of (h2 _ hx)
    exact ⟨f, by rw [Pas.av, ← hf]; rfl, ok⟩
  exact ⟨us, rfl, by simpa using h3, hu⟩
theorem rows_of {x : AV} (h : WfC (.sl false [.sl true KPast]) x) : ∃ l : List (List Pas), x = .sl false (rowsP l) ∧ ∀ r ∈ l, Row.OK r := by
  obtain ⟨xs, rfl, _, h2, h3⟩ := h.slOf
  have h1 := h.slOne
  obtain ⟨us, rfl, hu⟩ := list_of (f := fun l => AV.sl false (pasV l)) (p := Row.OK) (xs := xs) fun x hx => by
    have w := h2 x hx
    rw [h1 x hx] at w
    obtain ⟨u, r, e, hu, hr⟩ := WfL.consOf w
    cases e
    exact row_of hu
  exact ⟨us, rfl, hu⟩
end Go.Av
