/- Contracts: the instruction of 8 bytes, the reference's. -/
import Derived.Test.YthhcgcbbdinenaaMo
import Derived.Test.YthhcgcbbdinenaaMn
set_option linter.unusedVariables false
set_option linter.unusedSimpArgs false
namespace Go.Av
open Go Go.Proofs
set_option maxRecDepth 100000
set_option maxHeartbeats 2000000
def numB : List Int → Int
  | [] => 0
  | b :: r => b + 256 * numB r
theorem numB_bound : ∀ {l : List Int}, (∀ b ∈ l, U8 b) → 0 ≤ numB l ∧ numB l < 256 ^ l.length
  | [], _ => ⟨Int.le_refl _, by simp [numB]⟩
  | b :: r, h => by
    have hb := h b (by simp)
    unfold U8 at hb
    obtain ⟨i1, i2⟩ := numB_bound (l := r) fun x hx => h x (by simp [hx])
    simp only [numB, List.length_cons, Int.pow_succ]
    constructor <;> omega
theorem numB_four {l : List Int} (h : ∀ b ∈ l, U8 b) (h4 : l.length ≤ 4) : 0 ≤ numB l ∧ numB l < 4294967296 := by
  obtain ⟨a, b⟩ := numB_bound h
  refine ⟨a, Int.lt_of_lt_of_le b ?_⟩
  have : l.length = 0 ∨ l.length = 1 ∨ l.length = 2 ∨ l.length = 3 ∨ l.length = 4 := by omega
  rcases this with e | e | e | e | e <;> rw [e] <;> decide
def i69 (t : Bool) (l : List Int) (m : Nat) (τ : AFr) (h : AHeap) : Prop :=
  ∃ j : Nat, j ≤ l.length ∧ m = l.length - j ∧ τ = { n := 21, s := [(0, .sl t (byts l)), (3, .int .u64 (numB (l.drop (l.length - j)))), (4, .int .i64 ((l.length : Int) - 1 - j))], dfr := [] }
theorem k69 (t : Bool) (l : List Int) (h4 : l.length ≤ 4) (hl : ∀ b ∈ l, U8 b) : ACall PA 69 [.sl t (byts l)] [] (.int .u64 (numB l)) [] := by
  refine ACall.ofS S27ok hmA h69 (by kernel_rfl) (Nat.le_of_ble_eq_true rfl) ownH_nil (own_solid (by simp [solid_int])) (aS_den ?_)
  have w0 : IntKind.i64.wrap ((l.length : Int) - 1) = (l.length : Int) - 1 := wrI64 (by omega) (by omega)
  simp only [WK, simprocAttr, c69, n69, byts_len, w0]
  refine x_loop (i69 t l) ⟨l.length, _, ⟨0, by omega, by omega, rfl⟩, ⟨rfl, rfl, by simp [alook, numB]⟩⟩ ?_
  rintro m τ h ⟨j, hj, rfl, rfl⟩
  by_cases b : j < l.length
  · obtain ⟨i, hi⟩ : ∃ i, i = l.length - 1 - j := ⟨_, rfl⟩
    have hil : i < l.length := by omega
    have b1 : (0 : Int) ≤ (i : Int) := by omega
    have e1 : (l.length : Int) - 1 - j = (i : Int) := by omega
    have e2 : l.length - j = i + 1 := by omega
    have e3 : l.length - (j + 1) = i := by omega
    have g := byts_get hil
    have hb := hl _ (List.getElem_mem hil)
    unfold U8 at hb
    have hn := numB_four (l := l.drop i) (fun b hb => hl b (List.mem_of_mem_drop hb)) (by rw [List.length_drop]; omega)
    have hd : numB (l.drop i) = l[i] + 256 * numB (l.drop (i + 1)) := by rw [List.drop_eq_getElem_cons hil]; rfl
    have hn2 := numB_four (l := l.drop (i + 1)) (fun b hb => hl b (List.mem_of_mem_drop hb)) (by rw [List.length_drop]; omega)
    have w1 : IntKind.u64.wrap (numB (l.drop (i + 1)) * 256) = numB (l.drop (i + 1)) * 256 := wrU64 (by omega) (by omega)
    have w2 : IntKind.u64.wrap l[i] = l[i] := wrU64 hb.1 (by omega)
    have w3 : IntKind.u64.wrap (numB (l.drop (i + 1)) * 256 + l[i]) = numB (l.drop i) := by rw [wrU64 (by omega) (by omega), hd]; omega
    have w4 : IntKind.i64.wrap ((i : Int) - 1) = (l.length : Int) - 1 - (j + 1 : Nat) := by rw [wrI64 (by omega) (by omega)]; omega
    rw [e1, e2]
    simp only [WK, simprocAttr, ge_iff_le, b1, g, w1, w2, w3]
    refine ⟨l.length - (j + 1), _, by omega, ⟨j + 1, by omega, rfl, rfl⟩, ⟨rfl, rfl, ?_⟩⟩
    rw [e3]
    simp [alook, w4]
  · have ej : j = l.length := by omega
    subst ej
    have b1 : ¬ (0 : Int) ≤ (l.length : Int) - 1 - l.length := by omega
    rw [Nat.sub_self, List.drop_zero]
    simp only [WK, simprocAttr, ge_iff_le, b1]
    simp only [WK, simprocAttr, EW, r69]
def S28 : Spec := fun f args => match f, args with
  | 69, [.sl _ xs] => match decBs xs with
    | some l => if l.length ≤ 4 ∧ (∀ b ∈ l, U8 b) then some (.int .u64 (numB l), []) else none
    | none => none
  | f, args => S27 f args
theorem S28ok : SpecOK PA S28 := by
  refine ⟨fun f args r l h => ?_⟩
  unfold S28 at h
  split at h
  · split at h
    · rename_i hd
      obtain rfl := decBs_inv hd
      split at h
      · rename_i hc
        cases h
        exact ⟨k69 _ _ hc.1 hc.2, by simp only [List.mem_singleton, forall_eq]; exact byts_bel _ _ _, own_solid (by simp [solid_int]), ownH_nil⟩
      · cases h
    · cases h
  · exact S27ok.ok _ _ _ _ h
def decB (l : List Int) : In := ⟨numB (l.take 2), l.getD 2 0, l.getD 3 0, numB ((l.drop 4).take 4)⟩
theorem decB_ok {l : List Int} (h8 : l.length = 8) (hl : ∀ b ∈ l, U8 b) : (decB l).OK := by
  have g2 : l.getD 2 0 ∈ l := by rw [List.getD, List.getElem?_eq_getElem (by omega)]; exact List.getElem_mem _
  have g3 : l.getD 3 0 ∈ l := by rw [List.getD, List.getElem?_eq_getElem (by omega)]; exact List.getElem_mem _
  refine ⟨?_, hl _ g2, hl _ g3, ?_⟩
  · obtain ⟨a, b⟩ := numB_bound (l := l.take 2) fun b hb => hl b (List.mem_of_mem_take hb)
    rw [List.length_take, h8] at b
    exact ⟨a, b⟩
  · exact numB_four (fun b hb => hl b (List.mem_of_mem_drop (List.mem_of_mem_take hb))) (by rw [List.length_take]; omega)
def drw44 : List AOpD := [o 3 (.mov (.t 0)), ⟨some 4, none, .slc 1 (.t 3) (some (.c (.int .i64 0))) (some (.c (.int .i64 2))) none, [0]⟩, ⟨some 5, none, .callS 69 [.t 4], [1]⟩, ⟨some 6, none, .conv .u16 (.t 5), [2]⟩, o 7 (.mov (.t 0)), ⟨some 8, none, .iaddr 1 (.t 7) (.c (.int .i64 2)), [4]⟩, ⟨some 9, none, .ld none (.t 8), [5]⟩, o 10 (.mov (.t 0)), ⟨some 11, none, .iaddr 1 (.t 10) (.c (.int .i64 3)), [7]⟩, ⟨some 12, none, .ld none (.t 11), [8]⟩, o 13 (.mov (.t 0)), ⟨some 14, none, .slc 1 (.t 13) (some (.c (.int .i64 4))) (some (.c (.int .i64 8))) none, [10]⟩, ⟨some 15, none, .callS 69 [.t 14], [11, 2]⟩, ⟨some 16, none, .conv .u32 (.t 15), [12]⟩, ⟨some 17, none, .bld [.int .u16 0, .int .u8 0, .int .u8 0, .int .u32 0] [(0, 1, .t 6), (1, 1, .t 9), (2, 1, .t 12), (3, 1, .t 16)], [3, 6, 9, 13]⟩]
theorem k44 (t : Bool) (l : List Int) (h8 : l.length = 8) (hl : ∀ b ∈ l, U8 b) : ACall PA 44 [.sl t (byts l)] [] (decB l).av [] := by
  refine ACall.ofS S28ok hmA h44 (by kernel_rfl) (Nat.le_of_ble_eq_true rfl) ownH_nil (own_solid (by simp [In.av, inV, solid_agg, solid_int])) (aS_den ?_)
  have ok := decB_ok h8 hl
  have h1 := ok.c
  have h2 := ok.k
  unfold U16 at h1
  simp only [WK, simprocAttr, c44, n44]
  refine drwL_last S28ok.tab drw44 4 (.t 2) (.t 17) _ (by kernel_rfl) ?_
  have e8 : ((l.length : Nat) : Int) = 8 := by omega
  have tk : (byts l).take 2 = byts (l.take 2) := by simp [byts, List.map_take]
  have dk : ((byts l).drop 4).take 4 = byts ((l.drop 4).take 4) := by simp [byts, List.map_take, List.map_drop]
  have d1 : (l.take 2).length ≤ 4 := by rw [List.length_take]; omega
  have d2 : ((l.drop 4).take 4).length ≤ 4 := by rw [List.length_take]; omega
  have u1 : (∀ (b : Int), b ∈ l.take 2 → U8 b) = True := by simpa using fun b hb => hl b (List.mem_of_mem_take hb)
  have u2 : (∀ (b : Int), b ∈ (l.drop 4).take 4 → U8 b) = True := by simpa using fun b hb => hl b (List.mem_of_mem_drop (List.mem_of_mem_take hb))
  have g2 : (byts l)[2]? = some (.int .u8 (l.getD 2 0)) := by rw [byts_get (by omega)]; simp [List.getD, List.getElem?_eq_getElem (show 2 < l.length by omega)]
  have g3 : (byts l)[3]? = some (.int .u8 (l.getD 3 0)) := by rw [byts_get (by omega)]; simp [List.getD, List.getElem?_eq_getElem (show 3 < l.length by omega)]
  have w1 : IntKind.u16.wrap (numB (l.take 2)) = numB (l.take 2) := wrU16 h1.1 h1.2
  have w2 : IntKind.u32.wrap (numB ((l.drop 4).take 4)) = numB ((l.drop 4).take 4) := wrU32 h2.1 h2.2
  simp only [WK, simprocAttr, drw44, aslc, byts_len, e8, byts_w, tk, dk, S28, decBs_byts, d1, d2, u1, u2, and_self, g2, g3, w1, w2, List.headD_cons]
  simp only [WK, simprocAttr, EW, r44]
  simp [decB, In.av, inV]
end Go.Av

/- Contracts: the row of bytes, the reference's. -/
namespace Go.Av
open Go Go.Proofs
set_option maxRecDepth 100000
set_option maxHeartbeats 2000000
def S29 : Spec := fun f args => match f, args with
  | 44, [.sl _ xs] => match decBs xs with
    | some l => if l.length = 8 ∧ (∀ b ∈ l, U8 b) then some ((decB l).av, []) else none
    | none => none
  | f, args => S28 f args
theorem S29ok : SpecOK PA S29 := by
  refine ⟨fun f args r l h => ?_⟩
  unfold S29 at h
  split at h
  · split at h
    · rename_i hd
      obtain rfl := decBs_inv hd
      split at h
      · rename_i hc
        cases h
        exact ⟨k44 _ _ hc.1 hc.2, by simp only [List.mem_singleton, forall_eq]; exact byts_bel _ _ _, own_solid (by simp [In.av, inV, solid_agg, solid_int]), ownH_nil⟩
      · cases h
    · cases h
  · exact S28ok.ok _ _ _ _ h
def chunk (l : List Int) (k : Nat) : List Int := (l.drop (8 * k)).take 8
def decA (l : List Int) (n : Nat) : List In := (List.range n).map fun k => decB (chunk l k)
theorem decA_len (l : List Int) (n : Nat) : (decA l n).length = n := by simp [decA]
theorem decA_succ (l : List Int) (n : Nat) : decA l (n + 1) = decA l n ++ [decB (chunk l n)] := by simp [decA, List.range_succ]
theorem chunk_len {l : List Int} {k : Nat} (h : 8 * k + 8 ≤ l.length) : (chunk l k).length = 8 := by simp [chunk]; omega
theorem chunk_u8 {l : List Int} (hl : ∀ b ∈ l, U8 b) (k : Nat) : ∀ b ∈ chunk l k, U8 b := fun b hb => hl b (List.mem_of_mem_drop (List.mem_of_mem_take hb))
theorem decA_ok {l : List Int} (hl : ∀ b ∈ l, U8 b) {n : Nat} (h : 8 * n ≤ l.length) : ∀ x ∈ decA l n, x.OK := fun x hx => by
  obtain ⟨k, hk, rfl⟩ := List.mem_map.1 hx
  have := List.mem_range.1 hk
  exact decB_ok (chunk_len (by omega)) (chunk_u8 hl k)
def iRow (l : List In) : AV × AHeap := if l = [] then (.sl true [], []) else (.rf 0 (l.length - 1) 0 l.length, [.row (l.length - 1) 4 (avs l)])
theorem iRow_own (l : List In) : Own (iRow l).2 (iRow l).1 ∧ OwnH (iRow l).2 := by
  unfold iRow
  split
  · exact ⟨own_solid (.nilsl _), ownH_nil⟩
  · exact ⟨own_rf _ _ _ _, ownH_row _ _ _ (avs_solid _)⟩
/-- What bytes are: the row; the error. -/
def decR (l : List Int) : List In × Int := if 2040 < l.length then ([], 3) else if l.length % 8 ≠ 0 then ([], 120) else (decA l (l.length / 8), 0)
def tupR (p : List In × Int) : AV × AHeap := (.tup [(iRow p.1).1, .int .i64 p.2], (iRow p.1).2)
theorem tupR_own (p : List In × Int) : Own (tupR p).2 (tupR p).1 ∧ OwnH (tupR p).2 := by
  unfold tupR iRow
  split
  · exact ⟨own_solid (by simp [solid_tup, solid_int, solid_nilsl]), ownH_nil⟩
  · refine ⟨.tup _ fun x hx => ?_, ownH_row _ _ _ (avs_solid _)⟩
    simp only [List.mem_cons, List.not_mem_nil, or_false] at hx
    rcases hx with rfl | rfl
    · exact .rf _ _ _ _ (by simp)
    · exact .solid _ (.int _ _)
def i42 (t : Bool) (l : List Int) (m : Nat) (τ : AFr) (h : AHeap) : Prop :=
  ∃ q : Nat, 8 * q ≤ l.length ∧ m = l.length / 8 - q ∧ h = (iRow (decA l q)).2 ∧ τ = { n := 29, s := [(0, .sl t (byts l)), (4, (iRow (decA l q)).1), (5, .int .i64 (8 * q : Nat))], dfr := [] }
theorem k42 (t : Bool) (l : List Int) (hl : ∀ b ∈ l, U8 b) : ACall PA 42 [.sl t (byts l)] [] (tupR (decR l)).1 (tupR (decR l)).2 := by
  refine ACall.ofS S29ok hmA h42 (by kernel_rfl) (Nat.le_of_ble_eq_true rfl) (tupR_own _).2 (tupR_own _).1 (aS_den ?_)
  by_cases g : 2040 < l.length
  · have g' : (2040 : Int) < (l.length : Int) := by omega
    simp only [WK, simprocAttr, c42, n42, byts_len, gt_iff_lt, g']
    simp only [WK, simprocAttr, EW, r42]
    simp [tupR, decR, g, iRow]
  · have g' : ¬ (2040 : Int) < (l.length : Int) := by omega
    have tm : ((l.length : Int)).tmod 8 = ((l.length % 8 : Nat) : Int) := by rw [Int.tmod_eq_emod_of_nonneg (by omega)]; omega
    by_cases g2 : l.length % 8 = 0
    · have p2 : (((l.length % 8 : Nat) : Int) != 0) = false := by simp [g2]
      have dr : decR l = (decA l (l.length / 8), 0) := by simp [decR, g, g2]
      rw [dr]
      simp only [WK, simprocAttr, c42, n42, byts_len, gt_iff_lt, g', tm, p2]
      refine x_loop (i42 t l) ⟨l.length / 8, _, ⟨0, by omega, by omega, rfl, rfl⟩, ⟨rfl, rfl, by simp [alook, iRow, decA]⟩⟩ ?_
      rintro m τ h ⟨q, hq, rfl, rfl, rfl⟩
      by_cases b1 : 8 * q < l.length
      · have b2 : ((8 * q : Nat) : Int) < (l.length : Int) := by omega
        have q0 : (0 : Int) ≤ ((8 * q : Nat) : Int) := by omega
        have q8 : 8 * q + 8 ≤ l.length := by omega
        have w : IntKind.i64.wrap (((8 * q : Nat) : Int) + 8) = ((8 * (q + 1) : Nat) : Int) := by rw [wrI64 (by omega) (by omega)]; omega
        have p1 : ((8 * q : Nat) : Int) ≤ ((8 * (q + 1) : Nat) : Int) := by omega
        have p3 : ((8 * (q + 1) : Nat) : Int) ≤ (l.length : Int) := by omega
        have p4 : (((8 * (q + 1) : Nat) : Int) - ((8 * q : Nat) : Int)).toNat = 8 := by omega
        have p5 : (((8 * q : Nat) : Int)).toNat = 8 * q := by omega
        have ck : ((byts l).drop (8 * q)).take 8 = byts (chunk l q) := by simp [byts, chunk, List.map_take, List.map_drop]
        have c8 := chunk_len q8
        have cu : (∀ (b : Int), b ∈ chunk l q → U8 b) = True := by simpa using chunk_u8 hl q
        have ds := decA_succ l q
        by_cases z : q = 0
        · subst z
          have i0 : iRow (decA l 0) = (.sl true [], []) := rfl
          have i1 : iRow (decA l 1) = (.rf 0 0 0 1, [.row 0 4 [(decB (chunk l 0)).av]]) := by simp [iRow, decA, avs]
          have e0 : ((8 * 0 : Nat) : Int) = 0 := rfl
          have b3 : (0 : Int) < (l.length : Int) := by omega
          have w8 : IntKind.i64.wrap 8 = 8 := by decide
          have p8 : (8 : Int) ≤ (l.length : Int) := by omega
          have ck0 : (byts l).take 8 = byts (chunk l 0) := by simp [byts, chunk, List.map_take]
          have e1 : ((8 * (0 + 1) : Nat) : Int) = 8 := rfl
          simp only [WK, simprocAttr, byts_len, b3, aslc, e0, w8, p8, byts_w, ck0, S29, decBs_byts, c8, cu, and_self, i0, appR, most, In.av, inV, List.drop_zero]
          refine ⟨l.length / 8 - (0 + 1), _, by omega, ⟨0 + 1, by omega, rfl, ?_, rfl⟩, ⟨rfl, rfl, ?_⟩⟩
          · rw [i1]; rfl
          · rw [i1, e1]; simp [alook]
        · have d0 : decA l q ≠ [] := fun c => by have := congrArg List.length c; rw [decA_len] at this; exact z this
          have d1 : decA l (q + 1) ≠ [] := fun c => by have := congrArg List.length c; rw [decA_len] at this; simp at this
          have i0 : iRow (decA l q) = (.rf 0 (q - 1) 0 q, [.row (q - 1) 4 (avs (decA l q))]) := by rw [iRow, if_neg d0, decA_len]
          have i1 : iRow (decA l (q + 1)) = (.rf 0 q 0 (q + 1), [.row q 4 (avs (decA l (q + 1)))]) := by rw [iRow, if_neg d1, decA_len]; rfl
          have at' : (avs (decA l q)).take q = avs (decA l q) := List.take_of_length_le (by rw [avs_len, decA_len]; exact Nat.le_refl _)
          have ap : avs (decA l q) ++ [(decB (chunk l q)).av] = avs (decA l (q + 1)) := by rw [ds]; simp [avs]
          have qv : q - 1 + 1 = q := by omega
          have m1 : (q + 1) * 8 ≤ 140737488355328 := by omega
          simp only [In.av, inV] at ap
          simp only [WK, simprocAttr, byts_len, b2, aslc, q0, w, p1, p3, p4, p5, byts_w, ck, S29, decBs_byts, c8, cu, and_self, i0, appR, most, avs_len, decA_len, at', ap, qv, m1, Nat.le_refl, In.av, inV]
          refine ⟨l.length / 8 - (q + 1), _, by omega, ⟨q + 1, by omega, rfl, ?_, rfl⟩, ⟨rfl, rfl, ?_⟩⟩
          · rw [i1]
          · rw [i1]; simp [alook]
      · have b2 : ¬ ((8 * q : Nat) : Int) < (l.length : Int) := by omega
        have eq' : l.length / 8 = q := by omega
        simp only [WK, simprocAttr, byts_len, b2]
        rw [eq']
        unfold tupR iRow
        split
        · simp only [WK, simprocAttr, EW, r42]
        · simp only [WK, simprocAttr, EW, r42]
          simp [List.idxOf]
    · have p2 : (((l.length % 8 : Nat) : Int) != 0) = true := by simp; omega
      simp only [WK, simprocAttr, c42, n42, byts_len, gt_iff_lt, g', tm, p2]
      simp only [WK, simprocAttr, EW, r42]
      simp [tupR, decR, g, g2, iRow]
end Go.Av

/- Contracts: a reader of bytes. -/
namespace Go.Av
open Go Go.Proofs
set_option maxRecDepth 100000
set_option maxHeartbeats 2000000
structure RdAt (H : AHeap) (rid mid : Nat) (l : List Int) (fr : Nat) : Prop where
  r : H[rid]? = some (.row 0 3 [.agg [.rf mid 0 0 l.length, .int .i64 fr, .int .i64 0]])
  m : H[mid]? = some (.row 0 1 (byts l))
theorem k86 {H : AHeap} {rid mid : Nat} {l : List Int} {fr : Nat} (R : RdAt H rid mid l fr) : ACall PA 86 [.rp rid 0 0 0] H (.int .i64 0) H := by
  refine ACall.ofG S29ok hmA h86 (by kernel_rfl) (Nat.le_of_ble_eq_true rfl) (Hstay.refl _) fun _ => aS_den ?_
  have r := R.r
  simp only [WK, simprocAttr, c86, n86, r]
  exact Fin.plain (.inr rfl) rfl rfl rfl
theorem k87 {H : AHeap} {rid mid : Nat} {l : List Int} {fr : Nat} (R : RdAt H rid mid l fr) (hb : l.length ≤ 100000) (hf : fr ≤ l.length) : ACall PA 87 [.rp rid 0 0 0] H (.int .i64 ((l.length : Int) - fr)) H := by
  refine ACall.ofG S29ok hmA h87 (by kernel_rfl) (Nat.le_of_ble_eq_true rfl) (Hstay.refl _) fun _ => aS_den ?_
  have r := R.r
  have w : IntKind.i64.wrap ((l.length : Int) - fr) = (l.length : Int) - fr := wrI64 (by omega) (by omega)
  simp only [WK, simprocAttr, c87, n87, r, w]
  exact Fin.plain (.inr rfl) rfl rfl rfl
def drw85 : List AOpD := [o 5 (.ld none (.t 2)), o 6 (.mov (.t 1)), ⟨some 7, none, .conv .u64 (.t 6), [1]⟩, o 8 (.mov (.t 0)), ⟨some 9, none, .bin .mul (.c (.int .i64 8)) (.t 8), [3]⟩, ⟨some 10, none, .bin .shl (.t 7) (.t 9), [2, 4]⟩, ⟨some 11, none, .bin .add (.t 5) (.t 10), [0, 5]⟩]
theorem k85 {H : AHeap} {xid : Nat} {x c : Int} (hx : H[xid]? = some (.row 0 1 [.int .u64 x])) (x0 : 0 ≤ x ∧ x < 4294967296) (hc : U8 c) (i : Nat) (hi : i ≤ 3) : ACall PA 85 [.int .i64 i, .int .u8 c, .rp xid 0 0 0] H (.tup []) (H.set xid (.row 0 1 [.int .u64 (x + c * 256 ^ i)])) := by
  have hd : H[xid]? ≠ some .dfr := by rw [hx]; simp
  refine ACall.ofG S29ok hmA h85 (by kernel_rfl) (Nat.le_of_ble_eq_true rfl) (Hstay.set _ _ _ hd) fun _ => aS_den ?_
  unfold U8 at hc
  have hp : (2 : Int) ^ (8 * i) = 256 ^ i := by rw [Int.pow_mul]; rfl
  have pb : (256 : Int) ^ i ≤ 16777216 ∧ 0 ≤ (256 : Int) ^ i := by
    have : i = 0 ∨ i = 1 ∨ i = 2 ∨ i = 3 := by omega
    rcases this with rfl | rfl | rfl | rfl <;> decide
  have cb : c * 256 ^ i ≤ 255 * 16777216 := by
    have h1 : c * 256 ^ i ≤ 255 * 256 ^ i := Int.mul_le_mul_of_nonneg_right (by omega) pb.2
    have h2 : (255 : Int) * 256 ^ i ≤ 255 * 16777216 := Int.mul_le_mul_of_nonneg_left pb.1 (by omega)
    omega
  have c0 : 0 ≤ c * 256 ^ i := Int.mul_nonneg hc.1 pb.2
  have w1 : IntKind.u64.wrap c = c := wrU64 hc.1 (by omega)
  have w2 : IntKind.i64.wrap (8 * (i : Int)) = ((8 * i : Nat) : Int) := by rw [wrI64 (by omega) (by omega)]; omega
  have n8 : ¬ ((8 * i : Nat) : Int) < 0 := by omega
  have t8 : (((8 * i : Nat) : Int)).toNat = 8 * i := by omega
  have mb : min (8 * i) IntKind.u64.bits = 8 * i := Nat.min_eq_left (by show 8 * i ≤ 64; omega)
  have w3 : IntKind.u64.wrap (c * 256 ^ i) = c * 256 ^ i := wrU64 c0 (by omega)
  have w4 : IntKind.u64.wrap (x + c * 256 ^ i) = x + c * 256 ^ i := wrU64 (by omega) (by omega)
  simp only [WK, simprocAttr, c85, n85]
  refine drwL_last S29ok.tab drw85 1 (.t 2) (.t 11) _ (by kernel_rfl) ?_
  simp only [WK, simprocAttr, drw85, hx, w1, w2, n8, t8, mb, hp, w3, w4, List.headD_cons]
  exact Fin.plain (.inl rfl) rfl rfl rfl
theorem set_same' {h : AHeap} {i : Nat} {o : AObj} (e : h[i]? = some o) : h.set i o = h := by
  refine List.ext_getElem? fun q => ?_
  by_cases c : q = i
  · subst c; rw [List.getElem?_set_self (getElem?_lt e), e]
  · rw [List.getElem?_set_ne (Ne.symm c)]
theorem numB_push : ∀ (l : List Int) (b : Int), numB (l ++ [b]) = numB l + b * 256 ^ l.length
  | [], b => by simp [numB]
  | a :: l, b => by
    simp only [List.cons_append, numB, numB_push l b, List.length_cons, Int.pow_succ]
    rw [Int.mul_add, ← Int.mul_assoc, Int.mul_comm 256 b, Int.mul_assoc, Int.mul_comm 256 (256 ^ l.length)]
    omega
def part (l : List Int) (fr i : Nat) : List Int := (l.drop fr).take i
theorem part_succ {l : List Int} {fr i : Nat} (h : fr + i < l.length) : part l fr (i + 1) = part l fr i ++ [l[fr + i]] := by
  unfold part
  rw [List.take_add_one, List.getElem?_drop, List.getElem?_eq_getElem h]; rfl
theorem part_len {l : List Int} {fr i : Nat} (h : fr + i ≤ l.length) : (part l fr i).length = i := by simp [part]; omega
def drw84 : List AOpD := [o 26 (.mov (.t 2)), o 27 (.mov (.t 6)), o 28 (.mov (.t 0)), ⟨some 29, none, .nilchk (.t 28), [2]⟩, ⟨some 30, none, .faddr 0 (.t 29), [3]⟩, ⟨some 31, none, .faddr 0 (.t 30), [4]⟩, ⟨some 32, none, .ld none (.t 31), [5]⟩, o 33 (.mov (.t 0)), ⟨some 34, none, .nilchk (.t 33), [7]⟩, ⟨some 35, none, .faddr 0 (.t 34), [8]⟩, ⟨some 36, none, .faddr 1 (.t 35), [9]⟩, ⟨some 37, none, .ld none (.t 36), [10]⟩, o 38 (.mov (.t 6)), ⟨some 39, none, .bin .add (.t 37) (.t 38), [11, 12]⟩, ⟨some 40, none, .iaddr 1 (.t 32) (.t 39), [6, 13]⟩, ⟨some 41, none, .ld none (.t 40), [14]⟩]
/-- A region that draws its order, its last operation the only one that changes memory. -/
theorem drwL_one {P : Program} {S : Tab} (hS : TabOK P S) {rd : Option Nat} {k : List It} {Q : Jump → AFr → AHeap → Prop} {τ : AFr} {h : AHeap} (l : List AOpD) (d : Option Nat) (g : Option (Nat × Bool)) (op : AOpr) (af : List Nat)
    (hok : drawOK (l ++ [⟨d, g, op, af⟩]) (masks (l ++ [⟨d, g, op, af⟩]) []) [l.length] (List.replicate (l.length + 1) (0, 0)) = true)
    (H : drw P S rd l (.code (.ops [⟨d, g, op, []⟩]) :: k) Q τ h) : drwL (P := P) (S := S) (rd := rd) (l ++ [⟨d, g, op, af⟩]) k Q τ h := by
  have hiv : ∀ i, (List.replicate (l.length + 1) ((0, 0) : Nat × Nat)).getD i (0, 0) = (0, 0) := fun i => by
    rw [List.getD, List.getElem?_replicate]; split <;> rfl
  obtain ⟨τf, k1, k4⟩ := awQ_run l.length _ hiv l τ 0 (by omega) (aSQ_aw hS l (fun τ k => k) H)
  have k2 : aSOps P S [⟨d, g, op, []⟩] (den P S rd k Q .none) τf h := k1
  have k3 := aSOps_aw hS _ (fun τ h k => k) k2
  obtain ⟨m1, m2⟩ := (awO_iff _ _ _ _ _).1 k3
  obtain ⟨x, h', m3, m4⟩ := awG_elim m2
  refine drwL_of [l.length] (List.replicate (l.length + 1) (0, 0)) (fun q => match q with
    | 0 => h
    | _ => h') hok rfl (k4 _ rfl _ _ ⟨m1, x, ?_, m4⟩)
  rw [if_pos (by simp), hiv]
  exact m3
def i84 (h : AHeap) (rid xid fr n : Nat) (l : List Int) (m : Nat) (τ : AFr) (h' : AHeap) : Prop :=
  ∃ i : Nat, i ≤ n ∧ m = n - i ∧ h' = h.set xid (.row 0 1 [.int .u64 (numB (part l fr i))]) ∧
    τ = { n := 54, s := [(0, .rp rid 0 0 0), (1, .int .i64 n), (2, .fn (.func 85) [] [.rp xid 0 0 0]), (22, .int .i64 n), (23, .int .i64 i)], dfr := [] }
theorem k84 {h : AHeap} {rid mid xid : Nat} {l : List Int} {fr n : Nat} (R : RdAt h rid mid l fr) (hb : l.length ≤ 100000) (hl : ∀ b ∈ l, U8 b) (hn : n ≤ 4) (hf : fr + n ≤ l.length) (hx : h[xid]? = some (.row 0 1 [.int .u64 0])) (x1 : rid ≠ xid) (x2 : mid ≠ xid) (x3 : rid ≠ mid) :
    ACall PA 84 [.rp rid 0 0 0, .int .i64 n, .fn (.func 85) [] [.rp xid 0 0 0]] h (.tup []) ((h.set xid (.row 0 1 [.int .u64 (numB (part l fr n))])).set rid (.row 0 3 [.agg [.rf mid 0 0 l.length, .int .i64 (fr + n : Nat), .int .i64 0]])) := by
  have hdx : h[xid]? ≠ some .dfr := by rw [hx]; simp
  have f1 : ∀ o, (h.set xid o)[rid]? = some (.row 0 3 [.agg [.rf mid 0 0 l.length, .int .i64 fr, .int .i64 0]]) := fun o => by rw [List.getElem?_set_ne (Ne.symm x1)]; exact R.r
  have f2 : ∀ o, (h.set xid o)[mid]? = some (.row 0 1 (byts l)) := fun o => by rw [List.getElem?_set_ne (Ne.symm x2)]; exact R.m
  have f3 : ∀ o, (h.set xid o)[xid]? = some o := fun o => List.getElem?_set_self (getElem?_lt hx)
  refine ACall.ofG S29ok hmA h84 (by kernel_rfl) (Nat.le_of_ble_eq_true rfl) (Hstay.trans (Hstay.set _ _ _ hdx) (Hstay.set _ _ _ (by rw [f1]; simp))) fun _ => aS_den ?_
  have n0 : ¬ (n : Int) < 0 := by omega
  have ng : ¬ (l.length : Int) - fr < (n : Int) := by omega
  have rr := R.r
  simp only [WK, simprocAttr, c84, n84, rr, S29, S28, S27, S26, S25, S24, S23, S22, S21, S20, S19, S17, S16, S15, S14, S13, S11, S10, S9, S8, S7, S6, S5, S4, S3, S2, S1]
  refine ⟨_, _, k86 R, ?_⟩
  simp only [WK, simprocAttr, n0, rr, S29, S28, S27, S26, S25, S24, S23, S22, S21, S20, S19, S17, S16, S15, S14, S13, S11, S10, S9, S8, S7, S6, S5, S4, S3, S2, S1]
  refine ⟨_, _, k87 R hb (by omega), ?_⟩
  simp only [WK, simprocAttr, gt_iff_lt, ng]
  refine x_loop (i84 h rid xid fr n l) ⟨n, _, ⟨0, by omega, by omega, ?_, rfl⟩, ⟨rfl, rfl, by simp [alook]⟩⟩ ?_
  · exact (set_same' (by simpa [part, numB] using hx)).symm
  rintro m τ h' ⟨i, hi, rfl, rfl, rfl⟩
  by_cases b1 : (i : Int) < (n : Int)
  · have w : IntKind.i64.wrap ((i : Int) + 1) = ((i + 1 : Nat) : Int) := by rw [wrI64 (by omega) (by omega)]; omega
    have wf : IntKind.i64.wrap ((fr : Int) + i) = ((fr + i : Nat) : Int) := by rw [wrI64 (by omega) (by omega)]; omega
    have p0 : (0 : Int) ≤ ((fr + i : Nat) : Int) := by omega
    have fl : fr + i < l.length := by omega
    have g := byts_get fl
    have ps := part_succ fl
    have pl := part_len (l := l) (fr := fr) (i := i) (by omega)
    have pb := numB_four (l := part l fr i) (fun b hb => hl b (List.mem_of_mem_drop (List.mem_of_mem_take hb))) (by omega)
    have hc := k85 (H := h.set xid (.row 0 1 [.int .u64 (numB (part l fr i))])) (f3 _) pb (hl _ (List.getElem_mem fl)) i (by omega)
    have he : numB (part l fr i) + l[fr + i] * 256 ^ i = numB (part l fr (i + 1)) := by rw [ps, numB_push, pl]
    rw [he, List.set_set] at hc
    simp only [WK, simprocAttr, b1]
    refine drwL_one S29ok.tab drw84 (some 42) none (.callV (.t 26) [.t 27, .t 41]) _ (by kernel_rfl) ?_
    simp only [WK, simprocAttr, drw84, f1, f2, f3, wf, p0, fl, g, S29, S28, S27, S26, S25, S24, S23, S22, S21, S20, S19, S17, S16, S15, S14, S13, S11, S10, S9, S8, S7, S6, S5, S4, S3, S2, S1]
    refine ⟨_, _, hc, ?_⟩
    try simp only [WK, simprocAttr]
    refine ⟨n - (i + 1), _, by omega, ⟨i + 1, by omega, rfl, rfl, rfl⟩, ⟨rfl, rfl, by simp [alook, w]⟩⟩
  · have ei : i = n := by omega
    subst ei
    have wf : IntKind.i64.wrap ((fr : Int) + i) = ((fr + i : Nat) : Int) := by rw [wrI64 (by omega) (by omega)]; omega
    simp only [WK, simprocAttr, b1, f1, wf, List.headD_cons]
    exact Fin.plain (.inl rfl) rfl rfl rfl
end Go.Av

/- Contracts: numbers read; Decode. -/
namespace Go.Av
open Go Go.Proofs
set_option maxRecDepth 100000
set_option maxHeartbeats 2000000
theorem HB.set {h : AHeap} (hb : HB h) (i : Nat) {o : AObj} (ho : OBel h.length o) : HB (h.set i o) := by
  intro j p hp
  rw [List.length_set]
  by_cases e : j = i
  · subst e
    have := getElem?_lt hp
    rw [List.length_set] at this
    rw [List.getElem?_set_self this] at hp
    cases hp; exact ho
  · rw [List.getElem?_set_ne (Ne.symm e)] at hp
    exact hb j p hp
theorem set_left {h l : AHeap} {i : Nat} (hi : i < h.length) (o : AObj) : (h ++ l).set i o = h.set i o ++ l := List.set_append_left _ _ hi
theorem Fin.lost' {P : Program} {h hR l : AHeap} {rs : List RV} {r : AV} {j : Jump} {τ : AFr} {xs : List AV} (hbel : HB hR) (hlen : h.length ≤ hR.length) (hj : j = .none ∨ j = .ret) (hd : τ.dfr = [])
    (hx : aresl τ.s (hR ++ l) rs = some xs) (hr : r = resv xs) (hrb : Bel hR.length r) : Fin P h rs r hR j τ (hR ++ l) := by
  refine ⟨hj, by rw [hd]; simp, by rw [hd]; intro i L _ hm; simp at hm, xs, by rw [hd]; exact hx, ?_⟩
  rw [hd, ← hr]
  exact Gst.drop hlen hbel hrb
def rdr (mid len fr : Nat) : AObj := .row 0 3 [.agg [.rf mid 0 0 len, .int .i64 fr, .int .i64 0]]
theorem RdAt.lt {H : AHeap} {rid mid : Nat} {l : List Int} {fr : Nat} (R : RdAt H rid mid l fr) : rid < H.length ∧ mid < H.length ∧ rid ≠ mid := by
  refine ⟨getElem?_lt R.r, getElem?_lt R.m, fun e => ?_⟩
  have h1 := R.r
  have h2 := R.m
  rw [e, h2] at h1
  simp at h1
theorem RdAt.app {H : AHeap} {rid mid : Nat} {l : List Int} {fr : Nat} (R : RdAt H rid mid l fr) (X : AHeap) : RdAt (H ++ X) rid mid l fr := by
  obtain ⟨a, b, _⟩ := R.lt
  exact ⟨by rw [List.getElem?_append_left a]; exact R.r, by rw [List.getElem?_append_left b]; exact R.m⟩
theorem RdAt.set {H : AHeap} {rid mid : Nat} {l : List Int} {fr : Nat} (R : RdAt H rid mid l fr) (fr' : Nat) : RdAt (H.set rid (rdr mid l.length fr')) rid mid l fr' := by
  obtain ⟨a, b, c⟩ := R.lt
  exact ⟨by rw [List.getElem?_set_self a]; rfl, by rw [List.getElem?_set_ne c]; exact R.m⟩
theorem k81 {h : AHeap} {rid mid : Nat} {l : List Int} {fr n : Nat} (R : RdAt h rid mid l fr) (hb : l.length ≤ 100000) (hl : ∀ b ∈ l, U8 b) (hn : n ≤ 4) (hf : fr + n ≤ l.length) :
    ACall PA 81 [.rp rid 0 0 0, .int .i64 n] h (.int .u64 (numB (part l fr n))) (h.set rid (rdr mid l.length (fr + n))) := by
  obtain ⟨r1, r2, r3⟩ := R.lt
  refine ACall.ofG S29ok hmA h81 (by kernel_rfl) (Nat.le_of_ble_eq_true rfl) (Hstay.set _ _ _ (by rw [R.r]; simp)) fun hbel => aS_den ?_
  have hc := k84 (n := n) (xid := h.length) (R.app [.row 0 1 [.int .u64 0]]) hb hl hn hf (by rw [get0]; rfl) (by omega) (by omega) r3
  rw [set0, List.set_cons_zero, set_left r1] at hc
  have rr : ∀ X : AHeap, (h ++ X)[rid]? = some (.row 0 3 [.agg [.rf mid 0 0 l.length, .int .i64 fr, .int .i64 0]]) := fun X => (R.app X).r
  simp only [WK, simprocAttr, c81, n81, S29, S28, S27, S26, S25, S24, S23, S22, S21, S20, S19, S17, S16, S15, S14, S13, S11, S10, S9, S8, S7, S6, S5, S4, S3, S2, S1, get0, getk, set0, setk, rr, List.headD_cons]
  refine ⟨_, _, hc, ?_⟩
  have hlen : (h.set rid (rdr mid l.length (fr + n))).length = h.length := List.length_set
  have g0 := fun E => hget0 hlen E
  simp only [rdr] at g0
  simp only [WK, simprocAttr, g0]
  exact Fin.lost' (xs := [.int .u64 (numB (part l fr n))]) (hbel.set rid (by
    intro u hu
    simp [flat, cells_agg] at hu
    rcases hu with rfl | rfl | rfl
    · exact .rf _ _ _ _ r2
    · exact .int _ _
    · exact .int _ _)) (by simp) (.inr rfl) rfl (by simp [r81, aresl, ares, alook]) rfl (.int _ _)
theorem k66 {h : AHeap} {rid mid : Nat} {l : List Int} {fr : Nat} (R : RdAt h rid mid l fr) (hb : l.length ≤ 100000) (hl : ∀ b ∈ l, U8 b) (hf : fr + 2 ≤ l.length) :
    ACall PA 66 [.rp rid 0 0 0] h (.int .u16 (numB (part l fr 2))) (h.set rid (rdr mid l.length (fr + 2))) := by
  refine ACall.ofG S29ok hmA h66 (by kernel_rfl) (Nat.le_of_ble_eq_true rfl) (Hstay.set _ _ _ (by rw [R.r]; simp)) fun hbel => aS_den ?_
  have hc := k81 (n := 2) R hb hl (by omega) hf
  have pb := numB_bound (l := part l fr 2) (fun b hb => hl b (List.mem_of_mem_drop (List.mem_of_mem_take hb)))
  rw [part_len hf] at pb
  have w : IntKind.u16.wrap (numB (part l fr 2)) = numB (part l fr 2) := wrU16 pb.1 pb.2
  have rr := R.r
  simp only [WK, simprocAttr, c66, n66, S29, S28, S27, S26, S25, S24, S23, S22, S21, S20, S19, S17, S16, S15, S14, S13, S11, S10, S9, S8, S7, S6, S5, S4, S3, S2, S1, rr]
  refine ⟨_, _, hc, ?_⟩
  simp only [WK, simprocAttr, w]
  exact Fin.plain (.inr rfl) rfl rfl rfl
theorem k67 {h : AHeap} {rid mid : Nat} {l : List Int} {fr : Nat} (R : RdAt h rid mid l fr) (hb : l.length ≤ 100000) (hl : ∀ b ∈ l, U8 b) (hf : fr + 1 ≤ l.length) :
    ACall PA 67 [.rp rid 0 0 0] h (.int .u8 (numB (part l fr 1))) (h.set rid (rdr mid l.length (fr + 1))) := by
  refine ACall.ofG S29ok hmA h67 (by kernel_rfl) (Nat.le_of_ble_eq_true rfl) (Hstay.set _ _ _ (by rw [R.r]; simp)) fun hbel => aS_den ?_
  have hc := k81 (n := 1) R hb hl (by omega) hf
  have pb := numB_bound (l := part l fr 1) (fun b hb => hl b (List.mem_of_mem_drop (List.mem_of_mem_take hb)))
  rw [part_len hf] at pb
  have w : IntKind.u8.wrap (numB (part l fr 1)) = numB (part l fr 1) := wrU8 pb.1 pb.2
  have rr := R.r
  simp only [WK, simprocAttr, c67, n67, S29, S28, S27, S26, S25, S24, S23, S22, S21, S20, S19, S17, S16, S15, S14, S13, S11, S10, S9, S8, S7, S6, S5, S4, S3, S2, S1, rr]
  refine ⟨_, _, hc, ?_⟩
  simp only [WK, simprocAttr, w]
  exact Fin.plain (.inr rfl) rfl rfl rfl
theorem k68 {h : AHeap} {rid mid : Nat} {l : List Int} {fr : Nat} (R : RdAt h rid mid l fr) (hb : l.length ≤ 100000) (hl : ∀ b ∈ l, U8 b) (hf : fr + 4 ≤ l.length) :
    ACall PA 68 [.rp rid 0 0 0] h (.int .u32 (numB (part l fr 4))) (h.set rid (rdr mid l.length (fr + 4))) := by
  refine ACall.ofG S29ok hmA h68 (by kernel_rfl) (Nat.le_of_ble_eq_true rfl) (Hstay.set _ _ _ (by rw [R.r]; simp)) fun hbel => aS_den ?_
  have hc := k81 (n := 4) R hb hl (by omega) hf
  have pb := numB_four (l := part l fr 4) (fun b hb => hl b (List.mem_of_mem_drop (List.mem_of_mem_take hb))) (by rw [part_len hf]; omega)
  have w : IntKind.u32.wrap (numB (part l fr 4)) = numB (part l fr 4) := wrU32 pb.1 pb.2
  have rr := R.r
  simp only [WK, simprocAttr, c68, n68, S29, S28, S27, S26, S25, S24, S23, S22, S21, S20, S19, S17, S16, S15, S14, S13, S11, S10, S9, S8, S7, S6, S5, S4, S3, S2, S1, rr]
  refine ⟨_, _, hc, ?_⟩
  simp only [WK, simprocAttr, w]
  exact Fin.plain (.inr rfl) rfl rfl rfl
theorem k65 (t : Bool) (l : List Int) (hb : l.length ≤ 100000) (hne : l ≠ []) (h : AHeap) : ACall PA 65 [.sl t (byts l)] h (.rp (h.length + 1) 0 0 0) (h ++ [.row 0 1 (byts l), rdr h.length l.length 0]) := by
  refine ACall.ofG S29ok hmA h65 (by kernel_rfl) (Nat.le_of_ble_eq_true rfl) (Hstay.app _ _) fun hbel => aS_den ?_
  have b0 : bRow 0 l = (.rf 0 0 0 l.length, [.row 0 1 (byts l)]) := by rw [bRow, if_neg hne]
  have hb' : l.length ≤ 1000000000 := by omega
  simp only [WK, simprocAttr, c65, n65, S29, S28, S27, S26, S25, S24, S23, S22, S21, S20, S19, S17, S16, S15, S14, S13, S11, S10, S9, S8, S7, S6, S5, S4, S3, S2, S1, decBs_byts, hb', b0, List.append_assoc]
  exact Fin.plain (.inr rfl) rfl rfl rfl
def decD (l : List Int) : In × Int := if l.length < 8 then (⟨0, 0, 0, 0⟩, 7) else (decB (l.take 8), 0)
theorem part_dec {l : List Int} (h : 8 ≤ l.length) : decB (l.take 8) = ⟨numB (part l 0 2), numB (part l 2 1), numB (part l 3 1), numB (part l 4 4)⟩ := by
  match l, h with
  | a0 :: a1 :: a2 :: a3 :: a4 :: a5 :: a6 :: a7 :: r, _ => simp [decB, part, numB]
theorem k43 (t : Bool) (l : List Int) (hb : l.length ≤ 100000) (hl : ∀ b ∈ l, U8 b) : ACall PA 43 [.sl t (byts l)] [] (.tup [(decD l).1.av, .int .i64 (decD l).2]) [] := by
  refine ACall.ofS S29ok hmA h43 (by kernel_rfl) (Nat.le_of_ble_eq_true rfl) ownH_nil (own_solid (by simp [solid_tup, In.av, inV, solid_agg, solid_int])) (aS_den ?_)
  by_cases g : l.length < 8
  · have g' : (l.length : Int) < 8 := by omega
    simp only [WK, simprocAttr, c43, n43, byts_len, g', List.headD_cons]
    simp only [WK, simprocAttr, EW, r43]
    simp [decD, g, In.av, inV]
  · have g' : ¬ (l.length : Int) < 8 := by omega
    have hne : l ≠ [] := fun c => by rw [c] at g; simp at g
    simp only [WK, simprocAttr, c43, n43, byts_len, g', S29, S28, S27, S26, S25, S24, S23, S22, S21, S20, S19, S17, S16, S15, S14, S13, S11, S10, S9, S8, S7, S6, S5, S4, S3, S2, S1]
    refine ⟨_, _, k65 t l hb hne _, ?_⟩
    obtain ⟨c, hc⟩ : ∃ c : AV, c = .agg [.int .u16 0, .int .u8 0, .int .u8 0, .int .u32 0] := ⟨_, rfl⟩
    rw [← hc]
    have R0 : RdAt [.row 0 4 [c], .row 0 1 (byts l), rdr 1 l.length 0] 2 1 l 0 := ⟨rfl, rfl⟩
    have l8 : 8 ≤ l.length := by omega
    have R2 := R0.set 2
    have R3 := R2.set 3
    have R4 := R3.set 4
    refine ⟨_, _, k66 R0 hb hl (by omega), _, _, k67 R2 hb hl (by omega), _, _, k67 R3 hb hl (by omega), _, _, k68 R4 hb hl (by omega), ?_⟩
    have hp := part_dec l8
    have dd : decD l = (⟨numB (part l 0 2), numB (part l 2 1), numB (part l 3 1), numB (part l 4 4)⟩, 0) := by rw [decD, if_neg g, hp]
    simp only [WK, simprocAttr, hc, List.headD_cons]
    simp only [WK, simprocAttr, EW, r43, dd]
    simp [In.av, inV]
def S30 : Spec := fun f args => match f, args with
  | 43, [.sl _ xs] => match decBs xs with
    | some l => if l.length ≤ 100000 ∧ (∀ b ∈ l, U8 b) then some (.tup [(decD l).1.av, .int .i64 (decD l).2], []) else none
    | none => none
  | 42, [.sl _ xs] => match decBs xs with
    | some l => if (∀ b ∈ l, U8 b) then some (tupR (decR l)) else none
    | none => none
  | f, args => S29 f args
theorem S30ok : SpecOK PA S30 := by
  refine ⟨fun f args r l h => ?_⟩
  unfold S30 at h
  split at h
  · split at h
    · rename_i hd
      obtain rfl := decBs_inv hd
      split at h
      · rename_i hc
        cases h
        exact ⟨k43 _ _ hc.1 hc.2, by simp only [List.mem_singleton, forall_eq]; exact byts_bel _ _ _, own_solid (by simp [solid_tup, In.av, inV, solid_agg, solid_int]), ownH_nil⟩
      · cases h
    · cases h
  · rename_i tt xs
    split at h
    · rename_i l' hd
      obtain rfl := decBs_inv hd
      split at h
      · rename_i hc
        have e : tupR (decR l') = (r, l) := by injection h
        have k := k42 tt l' hc
        have o := tupR_own (decR l')
        rw [e] at k o
        exact ⟨k, by simp only [List.mem_singleton, forall_eq]; exact byts_bel _ _ _, o.1, o.2⟩
      · cases h
    · cases h
  · exact S29ok.ok _ _ _ _ h
end Go.Av

/- Contracts: DecodeAll. -/
namespace Go.Av
open Go Go.Proofs
set_option maxRecDepth 100000
set_option maxHeartbeats 2000000
theorem k64 (t : Bool) (l : List Int) (h : AHeap) : ACall PA 64 [.sl t (byts l), .int .i64 8] h (.fn (.func 79) [] [.rp h.length 0 0 0, .rp (h.length + 1) 0 0 0]) (h ++ [.row 0 1 [.sl t (byts l)], .row 0 1 [.int .i64 8]]) := by
  refine ACall.ofG S30ok hmA h64 (by kernel_rfl) (Nat.le_of_ble_eq_true rfl) (Hstay.app _ _) fun _ => aS_den ?_
  simp only [WK, simprocAttr, c64, n64, List.append_assoc, get0, getk, rowAt0, rowAtk]
  exact Fin.plain (.inr rfl) rfl rfl rfl
structure Gen79 (t : Bool) (l : List Int) (n p q id : Nat) (Hs : Nat → AHeap) : Prop where
  p : ∀ j, rowAt (Hs j) p 0 = some (1, [.sl t (byts l)])
  q : ∀ j, rowAt (Hs j) q 0 = some (1, [.int .i64 8])
  y : ∀ j, j < n → AYield PA id [.sl true (byts (chunk l j))] (Hs j) (.bool true) (Hs (j + 1))
  st : Hstay (Hs 0) (Hs n)
def i79 (n id p q : Nat) (Hs : Nat → AHeap) (m : Nat) (τ : AFr) (h : AHeap) : Prop :=
  ∃ j : Nat, j ≤ n ∧ m = n - j ∧ h = Hs j ∧ τ = { n := 31, s := [(0, .yld id), (1, .rp p 0 0 0), (2, .rp q 0 0 0), (4, .int .i64 (8 * j : Nat))], dfr := [] }
theorem k79 (t : Bool) (l : List Int) (n : Nat) (hn : l.length = 8 * n) (hb : l.length ≤ 100000) (p q id : Nat) (Hs : Nat → AHeap) (G : Gen79 t l n p q id Hs) : ACall PA 79 [.yld id, .rp p 0 0 0, .rp q 0 0 0] (Hs 0) (.tup []) (Hs n) := by
  refine ACall.ofG S30ok hmA h79 (by kernel_rfl) (Nat.le_of_ble_eq_true rfl) G.st fun _ => aS_den ?_
  simp only [WN, simprocAttr, c79, n79]
  refine x_loop (i79 n id p q Hs) ⟨n, _, ⟨0, by omega, by omega, rfl, rfl⟩, ⟨rfl, rfl, by simp [alook]⟩⟩ ?_
  rintro m τ h ⟨j, hj, rfl, rfl, rfl⟩
  have pj := G.p j
  have qj := G.q j
  have ln : ((l.length : Nat) : Int) = ((8 * n : Nat) : Int) := by rw [hn]
  by_cases b : j < n
  · have b1 : ((8 * j : Nat) : Int) < ((8 * n : Nat) : Int) := by omega
    have q0 : (0 : Int) ≤ ((8 * j : Nat) : Int) := by omega
    have q1 : ((8 * j : Nat) : Int) ≤ ((8 * n : Nat) : Int) := by omega
    have q2 : (((8 * j : Nat) : Int)).toNat = 8 * j := by omega
    have q3 : (((8 * n : Nat) : Int) - ((8 * j : Nat) : Int)).toNat = 8 * n - 8 * j := by omega
    have q4 : ((byts l).drop (8 * j)).take (8 * n - 8 * j) = byts (l.drop (8 * j)) := by
      rw [List.take_of_length_le (by rw [List.length_drop, byts_len]; omega)]
      simp [byts, List.map_drop]
    have q5 : ((((l.drop (8 * j)).length : Nat)) : Int) = ((8 * n - 8 * j : Nat) : Int) := by rw [List.length_drop, hn]
    have q6 : ¬ ((8 * n - 8 * j : Nat) : Int) < 8 := by omega
    have w8 : IntKind.i64.wrap (((8 * j : Nat) : Int) + 8) = ((8 * (j + 1) : Nat) : Int) := by rw [wrI64 (by omega) (by omega)]; omega
    have p1 : ((8 * j : Nat) : Int) ≤ ((8 * (j + 1) : Nat) : Int) := by omega
    have p3 : ((8 * (j + 1) : Nat) : Int) ≤ ((8 * n : Nat) : Int) := by omega
    have p4 : (((8 * (j + 1) : Nat) : Int) - ((8 * j : Nat) : Int)).toNat = 8 := by omega
    have ck : ((byts l).drop (8 * j)).take 8 = byts (chunk l j) := by simp [byts, chunk, List.map_take, List.map_drop]
    simp only [WN, simprocAttr, pj, qj, byts_len, ln, b1, aslc, q0, q1, q2, q3, q4, q5, q6, byts_w, w8, p1, p3, p4, ck, Int.le_refl, List.head?_cons, Option.isSome_some]
    refine ⟨_, _, G.y j b, ?_⟩
    have pj1 := G.p (j + 1)
    have qj1 := G.q (j + 1)
    simp only [WN, simprocAttr, qj1, w8, List.head?_cons]
    refine ⟨n - (j + 1), _, by omega, ⟨j + 1, by omega, rfl, rfl, rfl⟩, ⟨rfl, rfl, by simp [alook]⟩⟩
  · have ej : j = n := by omega
    subst ej
    simp only [WN, simprocAttr, pj, byts_len, ln, Int.lt_irrefl, List.head?_cons]
    exact Fin.plain (.inl rfl) rfl rfl rfl
def asg41 : AC := (.ops [o 5 (.mov (.t 19))])
def bod41 : AC := (.block 2 (.seq (.ops [o 21 (.mov (.t 5)), o 22 (.callS 43 [.t 21]), o 20 (.mov (.t 22)), o 23 (.ext (.t 20) 0), o 24 (.ext (.t 20) 1), o 6 (.alloc (.agg [.int .u16 0, .int .u8 0, .int .u8 0, .int .u32 0])), u (.st 4 (.t 6) (.t 23)), o 7 (.mov (.t 24))]) (.seq (.seq (.ops [o 25 (.mov (.t 7)), o 26 (.bin .neq (.t 25) (.c (.int .i64 0)))]) (.cond (.t 26) (.seq (.ops [o 27 (.mov (.t 7)), u (.st 1 (.t 2) (.c (.sl true []))), u (.st 1 (.t 3) (.t 27))]) .ret) .skip)) (.ops [o 28 (.ld none (.t 4)), o 29 (.ld (some 4) (.t 6)), o 30 (.bsl 4 [.t 29]), o 31 (.app 4 8 (.t 28) (.t 30)), u (.st 1 (.t 4) (.t 31))]))))
def loop41 (s : List (Nat × AV)) : ALoop := { st := .ready, pend := .none, slots := s, n := 33, ps := [19], assign := asg41, body := bod41, dfr := 5 }
def oV (k : Nat) : AV := if k = 0 then .sl true [] else .rf 8 (k - 1) 0 k
def tl41 (l : List Int) : Nat → AHeap
  | 0 => []
  | k + 1 => rowI (decB (chunk l 0)) :: .row k 4 (avs (decA l (k + 1))) :: (List.range k).map fun j => rowI (decB (chunk l (j + 1)))
def H41 (t : Bool) (l : List Int) (s : List (Nat × AV)) (k : Nat) : AHeap := [.row 0 1 [.sl true []], .row 0 1 [.int .i64 0], .row 0 1 [oV k], .row 0 1 [.sl t (byts l)], .row 0 1 [.int .i64 8], .dfr, .loop (loop41 s)] ++ tl41 l k
theorem st41 (t : Bool) (l : List Int) (s : List (Nat × AV)) (a b : Nat) : Hstay (H41 t l s a) (H41 t l s b) := by
  intro d hd
  have e5 : d = 5 := by
    rcases d with _ | _ | _ | _ | _ | _ | _ | d
    · simp [H41] at hd
    · simp [H41] at hd
    · simp [H41] at hd
    · simp [H41] at hd
    · simp [H41] at hd
    · rfl
    · simp [H41] at hd
    · exfalso
      have hd' : (tl41 l a)[d]? = some .dfr := by simpa [H41] using hd
      have hm := List.mem_of_getElem? hd'
      cases a with
      | zero => simp [tl41] at hm
      | succ a => simp [tl41, rowI] at hm
  subst e5; rfl
theorem y41 (t : Bool) (l : List Int) (hl : ∀ b ∈ l, U8 b) (n : Nat) (hn : l.length = 8 * n) (hb : l.length ≤ 100000) (s : List (Nat × AV)) (s4 : alook s 4 = .rp 2 0 0 0) (k : Nat) (hk : k < n) : AYield PA 6 [.sl true (byts (chunk l k))] (H41 t l s k) (.bool true) (H41 t l s (k + 1)) := by
  have c8 := chunk_len (l := l) (k := k) (by omega)
  have cu : (∀ (b : Int), b ∈ chunk l k → U8 b) = True := by simpa using chunk_u8 hl k
  have cb : (chunk l k).length ≤ 100000 := by omega
  have dd : decD (chunk l k) = (decB (chunk l k), 0) := by rw [decD, if_neg (by omega), List.take_of_length_le (by omega)]
  have ds := decA_succ l k
  refine AYield.ofS S30ok hmA (L := loop41 s) rfl rfl (by simp [loop41]) (st41 t l s k (k + 1)) (by kernel_rfl) (by kernel_rfl) (aS_den ?_)
  cases k with
  | zero =>
    have o0 : oV 0 = .sl true [] := rfl
    simp only [loop41, asg41, bod41, putArgs, H41, tl41, o0]
    simp only [WK, simprocAttr]
    refine ⟨rfl, _, rfl, rfl, aS_den ?_⟩
    simp only [WK, simprocAttr, S30, decBs_byts, cb, cu, and_self, dd, In.av, inV, s4, appR, most, List.headD_cons]
    refine ⟨_, rfl, rfl, ?_⟩
    simp [oV, decA, avs, In.av, inV]
  | succ k =>
    have o1 : oV (k + 1) = .rf 8 k 0 (k + 1) := rfl
    have o2 : oV (k + 1 + 1) = .rf 8 (k + 1) 0 (k + 2) := rfl
    have at' : (avs (decA l (k + 1))).take (k + 1) = avs (decA l (k + 1)) := List.take_of_length_le (by rw [avs_len, decA_len]; exact Nat.le_refl _)
    have ap : avs (decA l (k + 1)) ++ [(decB (chunk l (k + 1))).av] = avs (decA l (k + 2)) := by rw [ds]; simp [avs]
    have m1 : (k + 1 + 1) * 8 ≤ 140737488355328 := by omega
    simp only [In.av, inV] at ap
    simp only [loop41, asg41, bod41, putArgs, H41, tl41, o1, o2, List.range_succ, List.map_append, List.map_cons, List.map_nil]
    generalize (List.range k).map (fun j => rowI (decB (chunk l (j + 1)))) = g
    simp only [WK, simprocAttr]
    refine ⟨rfl, _, rfl, rfl, aS_den ?_⟩
    simp only [WK, simprocAttr, S30, decBs_byts, cb, cu, and_self, dd, In.av, inV, s4, appR, most, List.headD_cons, avs_len, decA_len, at', ap, m1, Nat.le_refl]
    exact ⟨_, rfl, rfl, rfl⟩
theorem n64s (t : Bool) (l : List Int) : S30 64 [.sl t (byts l), .int .i64 8] = none := rfl
theorem k41 (t : Bool) (l : List Int) (hl : ∀ b ∈ l, U8 b) : ACall PA 41 [.sl t (byts l)] [] (tupR (decR l)).1 (tupR (decR l)).2 := by
  refine ACall.ofS S30ok hmA h41 (by kernel_rfl) (Nat.le_of_ble_eq_true rfl) (tupR_own _).2 (tupR_own _).1 (aS_den ?_)
  by_cases g : 2040 < l.length
  · have g' : (2040 : Int) < (l.length : Int) := by omega
    simp only [WK, simprocAttr, c41, n41, byts_len, gt_iff_lt, g', List.headD_cons]
    simp only [WK, simprocAttr, EW, r41]
    simp [tupR, decR, g, iRow]
  · have g' : ¬ (2040 : Int) < (l.length : Int) := by omega
    have tm : ((l.length : Int)).tmod 8 = ((l.length % 8 : Nat) : Int) := by rw [Int.tmod_eq_emod_of_nonneg (by omega)]; omega
    by_cases g2 : l.length % 8 = 0
    · have p2 : (((l.length % 8 : Nat) : Int) != 0) = false := by simp [g2]
      obtain ⟨n, hn⟩ : ∃ n, l.length = 8 * n := ⟨l.length / 8, by omega⟩
      have dr : decR l = (decA l n, 0) := by rw [decR, if_neg g, if_neg (by omega)]; congr 2; omega
      rw [dr]
      simp only [WK, simprocAttr, c41, n41, byts_len, gt_iff_lt, g', tm, p2, n64s]
      refine ⟨_, _, k64 t l _, ?_⟩
      try simp only [WK, simprocAttr]
      obtain ⟨s, hs⟩ : ∃ s : List (Nat × AV), s = [(18, .fn (.func 79) [] [.rp 3 0 0 0, .rp 4 0 0 0]), (17, .sl t (byts l)), (4, .rp 2 0 0 0), (12, .bool false), (16, .bool false), (15, .int .i64 ((l.length % 8 : Nat) : Int)), (14, .int .i64 l.length), (13, .sl t (byts l)), (8, .bool false), (11, .bool false), (10, .int .i64 l.length), (9, .sl t (byts l)), (3, .rp 1 0 0 0), (2, .rp 0 0 0 0), (0, .sl t (byts l))] := ⟨_, rfl⟩
      rw [← hs]
      have s4 : alook s 4 = .rp 2 0 0 0 := by rw [hs]; rfl
      have hc := k79 t l n hn (by omega) 3 4 6 (H41 t l s) ⟨fun j => rfl, fun j => rfl, fun j hj => y41 t l hl n hn (by omega) s s4 j hj, st41 t l s 0 n⟩
      refine x_rangeG 5 6 rfl rfl (H41 t l s 0) (by rw [hs]; rfl) (by simp [H41, tl41, loop41, asg41, bod41, oV]) (.tup []) (H41 t l s n) (loop41 s) hc rfl (by simp [loop41]) ?_
      cases n with
      | zero =>
        simp only [H41, tl41, loop41, hs, oV]
        simp only [WK, simprocAttr, List.headD_cons]
        simp only [WK, simprocAttr, EW, r41, noLoop]
        simp [tupR, iRow, decA]
      | succ k =>
        have o1 : oV (k + 1) = .rf 8 k 0 (k + 1) := rfl
        have d1 : decA l (k + 1) ≠ [] := fun c => by have := congrArg List.length c; rw [decA_len] at this; simp at this
        have i1 : iRow (decA l (k + 1)) = (.rf 0 k 0 (k + 1), [.row k 4 (avs (decA l (k + 1)))]) := by rw [iRow, if_neg d1, decA_len]; rfl
        simp only [H41, tl41, loop41, hs, o1]
        have hgb : ∀ x ∈ (List.range k).map (fun j => rowI (decB (chunk l (j + 1)))), ∃ v e q, x = AObj.row v e q := by
          intro x hx
          obtain ⟨j, _, rfl⟩ := List.mem_map.1 hx
          exact ⟨_, _, _, rfl⟩
        generalize (List.range k).map (fun j => rowI (decB (chunk l (j + 1)))) = gb at *
        simp only [WK, simprocAttr, List.headD_cons]
        simp only [WK, simprocAttr, EW, r41, noLoop]
        refine ⟨⟨⟨?_, by simp⟩, ?_, ?_⟩, by simp⟩
        · rw [List.all_eq_true]
          intro x hx
          obtain ⟨v, e, q, rfl⟩ := hgb x hx
          rfl
        · simp only [tupR]; rw [i1]; rfl
        · simp only [tupR]; rw [i1]
    · have p2 : (((l.length % 8 : Nat) : Int) != 0) = true := by simp; omega
      simp only [WK, simprocAttr, c41, n41, byts_len, gt_iff_lt, g', tm, p2, List.headD_cons]
      simp only [WK, simprocAttr, EW, r41]
      simp [tupR, decR, g, g2, iRow]
def S31 : Spec := fun f args => match f, args with
  | 41, [.sl _ xs] => match decBs xs with
    | some l => if (∀ b ∈ l, U8 b) then some (tupR (decR l)) else none
    | none => none
  | 13, args => S21 13 args
  | 27, args => S8 27 args
  | 29, args => S8 29 args
  | 47, args => S8 47 args
  | 31, args => S24 31 args
  | 30, args => S27 30 args
  | 44, args => S29 44 args
  | f, args => S30 f args
theorem S31ok : SpecOK PA S31 := by
  refine ⟨fun f args r l h => ?_⟩
  unfold S31 at h
  split at h
  · rename_i tt xs
    split at h
    · rename_i l' hd
      obtain rfl := decBs_inv hd
      split at h
      · rename_i hc
        have e : tupR (decR l') = (r, l) := by injection h
        have k := k41 tt l' hc
        have o := tupR_own (decR l')
        rw [e] at k o
        exact ⟨k, by simp only [List.mem_singleton, forall_eq]; exact byts_bel _ _ _, o.1, o.2⟩
      · cases h
    · cases h
  · exact S21ok.ok _ _ _ _ h
  · exact S8ok.ok _ _ _ _ h
  · exact S8ok.ok _ _ _ _ h
  · exact S8ok.ok _ _ _ _ h
  · exact S24ok.ok _ _ _ _ h
  · exact S27ok.ok _ _ _ _ h
  · exact S29ok.ok _ _ _ _ h
  · exact S30ok.ok _ _ _ _ h
end Go.Av

/- InsnBack: pure facts, and its walk. -/
namespace Go.Av
open Go Go.Proofs
set_option maxRecDepth 100000
set_option maxHeartbeats 2000000
theorem numB_lowB : ∀ (n : Nat) {x : Int}, 0 ≤ x → x < 256 ^ n → numB (lowB n x) = x
  | 0, x, h0, h1 => by simp at h1; simp [lowB, numB]; omega
  | n + 1, x, h0, h1 => by
    rw [Int.pow_succ] at h1
    have := numB_lowB n (x := x / 256) (by omega) (by omega)
    simp only [lowB, numB, this]
    omega
theorem lowB_numB : ∀ {l : List Int}, (∀ b ∈ l, U8 b) → lowB l.length (numB l) = l
  | [], _ => rfl
  | b :: r, h => by
    have hb := h b (by simp)
    unfold U8 at hb
    have i := lowB_numB (l := r) fun x hx => h x (by simp [hx])
    have e1 : (b + 256 * numB r) % 256 = b := by omega
    have e2 : (b + 256 * numB r) / 256 = numB r := by omega
    simp only [List.length_cons, lowB, numB, e1, e2, i]
theorem dec_enc {x : In} (hx : x.OK) : decB (encB x) = x := by
  obtain ⟨c, a, b, k⟩ := x
  obtain ⟨h1, h2, h3, h4⟩ : InOK c a b k := hx
  unfold U16 at h1
  have p := numB_lowB 2 (x := c) h1.1 (by simpa using h1.2)
  have q := numB_lowB 4 (x := k) h4.1 (by simpa using h4.2)
  simp only [lowB] at p q
  simp only [decB, encB, lowB]
  simp [p, q]
theorem enc_dec {l : List Int} (h8 : l.length = 8) (hl : ∀ b ∈ l, U8 b) : encB (decB l) = l := by
  match l, h8 with
  | [a, b, c, d, e, f, g, h], _ =>
    have p := lowB_numB (l := [a, b]) (fun x hx => hl x (by simp only [List.mem_cons, List.not_mem_nil, or_false] at hx ⊢; omega))
    have q := lowB_numB (l := [e, f, g, h]) (fun x hx => hl x (by simp only [List.mem_cons, List.not_mem_nil, or_false] at hx ⊢; omega))
    simp only [List.length_cons, List.length_nil, Nat.zero_add] at p q
    simp only [decB, encB, List.take, List.drop, List.getD, List.getElem?_cons_succ, List.getElem?_cons_zero, Option.getD_some, Nat.reduceAdd] at p q ⊢
    rw [p, q]
    rfl
theorem chunk_cons {b r : List Int} (hb : b.length = 8) (k : Nat) : chunk (b ++ r) (k + 1) = chunk r k := by
  have : 8 * (k + 1) = b.length + 8 * k := by omega
  rw [chunk, this, ← List.drop_drop, List.drop_left]; rfl
theorem chunk_zero {b r : List Int} (hb : b.length = 8) : chunk (b ++ r) 0 = b := by
  rw [chunk, Nat.mul_zero, List.drop_zero, ← hb, List.take_left]
theorem decA_cons {b r : List Int} (hb : b.length = 8) (n : Nat) : decA (b ++ r) (n + 1) = decB b :: decA r n := by
  rw [decA, List.range_succ_eq_map, List.map_cons, List.map_map, chunk_zero hb]
  congr 1
  exact List.map_congr_left fun k _ => by simp only [Function.comp, chunk_cons hb]
theorem decA_allB : ∀ {l : List In}, (∀ x ∈ l, x.OK) → decA (allB l) l.length = l
  | [], _ => rfl
  | x :: l, h => by
    rw [show allB (x :: l) = encB x ++ allB l from rfl, List.length_cons, decA_cons (encB_len x), dec_enc (h x (by simp)), decA_allB fun y hy => h y (by simp [hy])]
theorem allB_decA : ∀ (n : Nat) {l : List Int}, l.length = 8 * n → (∀ b ∈ l, U8 b) → allB (decA l n) = l
  | 0, l, h, _ => by
    have e : l = [] := List.length_eq_zero_iff.1 (by omega)
    subst e; rfl
  | n + 1, l, h, hl => by
    have e : l = l.take 8 ++ l.drop 8 := (List.take_append_drop 8 l).symm
    have h8 : (l.take 8).length = 8 := by rw [List.length_take]; omega
    have i := allB_decA n (l := l.drop 8) (by rw [List.length_drop]; omega) fun b hb => hl b (List.mem_of_mem_drop hb)
    have d := enc_dec h8 fun b hb => hl b (List.mem_of_mem_take hb)
    conv => lhs; rw [e]
    rw [decA_cons h8, show allB (decB (l.take 8) :: decA (l.drop 8) n) = encB (decB (l.take 8)) ++ allB (decA (l.drop 8) n) from rfl, d, i, ← e]
theorem decR_enc {l : List In} (h : ∀ x ∈ l, x.OK) (h5 : l.length ≤ 255) : decR (allB l) = (l, 0) := by
  rw [decR, if_neg (by rw [allB_len]; omega), if_neg (by rw [allB_len]; omega), allB_len]
  rw [show 8 * l.length / 8 = l.length by omega, decA_allB h]
theorem k12 (t : Bool) (l : List In) (hok : ∀ x ∈ l, x.OK) (t2 : Bool) (bs : List Int) (hbs : ∀ x ∈ bs, U8 x) : ACall PA 12 [.sl t (avs l), .sl t2 (byts bs)] [] (.bool true) [] := by
  refine ACall.ofS S31ok hmA h12 (by kernel_rfl) (Nat.le_of_ble_eq_true rfl) ownH_nil (own_solid (by simp [solid_bool])) (aS_den ?_)
  have hd := decIns_avs hok
  obtain ⟨L, hL⟩ : ∃ L, L = l.take 256 := ⟨_, rfl⟩
  have hLok : ∀ y ∈ L, y.OK := fun y hy => hok y (List.mem_of_mem_take (hL ▸ hy))
  have hLl : L.length ≤ 256 := by rw [hL, List.length_take]; omega
  have hdL := decIns_avs hLok
  have ea : avs ([] : List In) = [] := rfl
  have d0 : decIns [] = some [] := rfl
  have b0 : decBs [] = some [] := rfl
  have n0 : (∀ x : Int, x ∈ ([] : List Int) → U8 x) = True := by simp
  have z0 : ((0 : Nat) : Int) = 0 := rfl
  have e0 : encR [] = (.tup [.sl true [], .int .i64 0], []) := by simp [encR]
  have t0 : tupR (decR []) = (.tup [.sl true [], .int .i64 0], []) := rfl
  have w0 : IntKind.i64.wrap 0 = 0 := by decide
  have l0 : (0 : Int) ≤ (bs.length : Int) := by omega
  have tm : ((bs.length : Int)).tmod 8 = ((bs.length % 8 : Nat) : Int) := by rw [Int.tmod_eq_emod_of_nonneg (by omega)]; omega
  by_cases e : L = []
  · by_cases g4 : 2048 < bs.length
    · obtain rfl : L = [] := e
      have tb : tupR (decR (bs.take 2048)) = (.tup [.sl true [], .int .i64 3], []) := by rw [decR, if_pos (by rw [List.length_take]; omega)]; rfl
      have bt : (byts bs).take 2048 = byts (bs.take 2048) := by simp [byts, List.map_take]
      have bu : (∀ (y : Int), y ∈ bs.take 2048 → U8 y) = True := by simpa using fun y hy => hbs y (List.mem_of_mem_take hy)
      have bl1 : (bs.take 2048).length = 2048 := by rw [List.length_take]; omega
      have g1 : (2048 : Int) < (bs.length : Int) := by omega
      have g3 : (2048 : Int) ≤ (bs.length : Int) := by omega
      simp only [WK, simprocAttr, c12, n12, byts_w, S31, S21, S8, S27, S24, hd, ← hL, ownRow, byts_len, aslc, l0, tm, gt_iff_lt, Int.sub_zero, decBs_byts, and_self, decIns_avs, List.drop_zero, ea, d0, e0, b0, n0, z0, t0, w0, tb, bt, bu, bl1, g1, g3]
      simp only [WK, simprocAttr, EW, r12]
    · by_cases g5 : 2040 < bs.length
      · by_cases g6 : bs.length % 8 ≠ 0
        · obtain rfl : L = [] := e
          have tb : tupR (decR bs) = (.tup [.sl true [], .int .i64 3], []) := by rw [decR, if_pos g5]; rfl
          have bt : (byts bs).take bs.length = byts bs := List.take_of_length_le (by rw [byts_len]; exact Nat.le_refl _)
          have bu : (∀ (y : Int), y ∈ bs → U8 y) = True := by simpa using hbs
          have g1 : ¬ (2048 : Int) < (bs.length : Int) := by omega
          have g7 : (2040 : Int) < (bs.length : Int) := by omega
          have g8 : (((bs.length % 8 : Nat) : Int) != 0) = true := by simp; omega
          simp only [WK, simprocAttr, c12, n12, byts_w, S31, S21, S8, S27, S24, hd, ← hL, ownRow, byts_len, aslc, l0, tm, gt_iff_lt, Int.sub_zero, decBs_byts, and_self, decIns_avs, List.drop_zero, ea, d0, e0, b0, n0, z0, t0, w0, tb, bt, bu, g1, g7, g8]
          simp only [WK, simprocAttr, EW, r12]
        · obtain rfl : L = [] := e
          have tb : tupR (decR bs) = (.tup [.sl true [], .int .i64 3], []) := by rw [decR, if_pos g5]; rfl
          have bt : (byts bs).take bs.length = byts bs := List.take_of_length_le (by rw [byts_len]; exact Nat.le_refl _)
          have bu : (∀ (y : Int), y ∈ bs → U8 y) = True := by simpa using hbs
          have g1 : ¬ (2048 : Int) < (bs.length : Int) := by omega
          have g7 : (2040 : Int) < (bs.length : Int) := by omega
          have g8 : (((bs.length % 8 : Nat) : Int) != 0) = false := by simp; omega
          simp only [WK, simprocAttr, c12, n12, byts_w, S31, S21, S8, S27, S24, hd, ← hL, ownRow, byts_len, aslc, l0, tm, gt_iff_lt, Int.sub_zero, decBs_byts, and_self, decIns_avs, List.drop_zero, ea, d0, e0, b0, n0, z0, t0, w0, tb, bt, bu, g1, g7, g8]
          simp only [WK, simprocAttr, EW, r12]
      · by_cases g6 : bs.length % 8 ≠ 0
        · obtain rfl : L = [] := e
          have tb : tupR (decR bs) = (.tup [.sl true [], .int .i64 120], []) := by rw [decR, if_neg g5, if_pos g6]; rfl
          have bt : (byts bs).take bs.length = byts bs := List.take_of_length_le (by rw [byts_len]; exact Nat.le_refl _)
          have bu : (∀ (y : Int), y ∈ bs → U8 y) = True := by simpa using hbs
          have g1 : ¬ (2048 : Int) < (bs.length : Int) := by omega
          have g7 : ¬ (2040 : Int) < (bs.length : Int) := by omega
          have g8 : (((bs.length % 8 : Nat) : Int) != 0) = true := by simp; omega
          simp only [WK, simprocAttr, c12, n12, byts_w, S31, S21, S8, S27, S24, hd, ← hL, ownRow, byts_len, aslc, l0, tm, gt_iff_lt, Int.sub_zero, decBs_byts, and_self, decIns_avs, List.drop_zero, ea, d0, e0, b0, n0, z0, t0, w0, tb, bt, bu, g1, g7, g8]
          simp only [WK, simprocAttr, EW, r12]
        · by_cases g9 : bs = []
          · obtain rfl : L = [] := e
            subst g9
            have y0 : byts [] = [] := rfl
            simp only [WK, simprocAttr, c12, n12, byts_w, S31, S21, S8, S27, S24, hd, ← hL, ownRow, byts_len, aslc, l0, tm, gt_iff_lt, Int.sub_zero, decBs_byts, and_self, decIns_avs, List.drop_zero, ea, d0, e0, b0, n0, z0, t0, w0, y0, List.length_nil]
            simp only [WK, simprocAttr, EW, r12]
          · obtain rfl : L = [] := e
            obtain ⟨n, hn⟩ : ∃ n, bs.length = 8 * n := ⟨bs.length / 8, by omega⟩
            have n1 : n ≠ 0 := fun c => by subst c; exact g9 (List.length_eq_zero_iff.1 (by omega))
            have d1 : decA bs n ≠ [] := fun c => n1 (by have := congrArg List.length c; rw [decA_len] at this; exact this)
            have dB : decR bs = (decA bs n, 0) := by rw [decR, if_neg g5, if_neg (by omega)]; congr 2; omega
            have tb : tupR (decA bs n, 0) = (.tup [.rf 0 (n - 1) 0 n, .int .i64 0], [.row (n - 1) 4 (avs (decA bs n))]) := by simp [tupR, iRow, d1, decA_len]
            have ok : ∀ x ∈ decA bs n, x.OK := decA_ok hbs (by omega)
            have dd := decIns_avs ok
            have at' : (avs (decA bs n)).take n = avs (decA bs n) := List.take_of_length_le (by rw [avs_len, decA_len]; exact Nat.le_refl _)
            have eB : encR (decA bs n) = (.tup [.rf 0 4 0 (8 * n), .int .i64 0], [.row 4 1 (byts bs)]) := by
              rw [encR, if_neg (by rw [decA_len]; omega), if_neg d1, allB_decA n hn hbs, decA_len]
            have bt : (byts bs).take bs.length = byts bs := List.take_of_length_le (by rw [byts_len]; exact Nat.le_refl _)
            have bt2 : (byts bs).take (8 * n) = byts bs := List.take_of_length_le (by rw [byts_len]; omega)
            have bu : (∀ (y : Int), y ∈ bs → U8 y) = True := by simpa using hbs
            have g1 : ¬ (2048 : Int) < (bs.length : Int) := by omega
            have hb6 : n ≤ 10000 := by omega
            have w12 : decide (bs = bs) = true := by simp
            simp only [WK, simprocAttr, c12, n12, byts_w, S31, S21, S8, S27, S24, hd, ← hL, ownRow, byts_len, aslc, l0, tm, gt_iff_lt, Int.sub_zero, decBs_byts, and_self, decIns_avs, List.drop_zero, ea, d0, e0, b0, n0, z0, t0, w0, dB, tb, dd, at', eB, bt, bt2, bu, g1, hb6, decA_len, w12]
            simp only [WK, simprocAttr, EW, r12]
  · by_cases g : 255 < L.length
    · by_cases g4 : 2048 < bs.length
      · have e' : ¬ avs L = [] := by rw [avs_nil]; exact e
        have el : (avs L).take L.length = avs L := by rw [avs_take, List.take_length]
        have er : encR L = (.tup [.sl true [], .int .i64 3], []) := by simp [encR, g]
        have hb : L.length ≤ 10000 := by omega
        have tb : tupR (decR (bs.take 2048)) = (.tup [.sl true [], .int .i64 3], []) := by rw [decR, if_pos (by rw [List.length_take]; omega)]; rfl
        have bt : (byts bs).take 2048 = byts (bs.take 2048) := by simp [byts, List.map_take]
        have bu : (∀ (y : Int), y ∈ bs.take 2048 → U8 y) = True := by simpa using fun y hy => hbs y (List.mem_of_mem_take hy)
        have bl1 : (bs.take 2048).length = 2048 := by rw [List.length_take]; omega
        have g1 : (2048 : Int) < (bs.length : Int) := by omega
        have g3 : (2048 : Int) ≤ (bs.length : Int) := by omega
        simp only [WK, simprocAttr, c12, n12, byts_w, S31, S21, S8, S27, S24, hd, ← hL, ownRow, byts_len, aslc, l0, tm, gt_iff_lt, Int.sub_zero, decBs_byts, and_self, decIns_avs, List.drop_zero, e', hdL, el, er, hb, avs_len, tb, bt, bu, bl1, g1, g3]
        simp only [WK, simprocAttr, EW, r12]
      · by_cases g5 : 2040 < bs.length
        · by_cases g6 : bs.length % 8 ≠ 0
          · have e' : ¬ avs L = [] := by rw [avs_nil]; exact e
            have el : (avs L).take L.length = avs L := by rw [avs_take, List.take_length]
            have er : encR L = (.tup [.sl true [], .int .i64 3], []) := by simp [encR, g]
            have hb : L.length ≤ 10000 := by omega
            have tb : tupR (decR bs) = (.tup [.sl true [], .int .i64 3], []) := by rw [decR, if_pos g5]; rfl
            have bt : (byts bs).take bs.length = byts bs := List.take_of_length_le (by rw [byts_len]; exact Nat.le_refl _)
            have bu : (∀ (y : Int), y ∈ bs → U8 y) = True := by simpa using hbs
            have g1 : ¬ (2048 : Int) < (bs.length : Int) := by omega
            have g7 : (2040 : Int) < (bs.length : Int) := by omega
            have g8 : (((bs.length % 8 : Nat) : Int) != 0) = true := by simp; omega
            simp only [WK, simprocAttr, c12, n12, byts_w, S31, S21, S8, S27, S24, hd, ← hL, ownRow, byts_len, aslc, l0, tm, gt_iff_lt, Int.sub_zero, decBs_byts, and_self, decIns_avs, List.drop_zero, e', hdL, el, er, hb, avs_len, tb, bt, bu, g1, g7, g8]
            simp only [WK, simprocAttr, EW, r12]
          · have e' : ¬ avs L = [] := by rw [avs_nil]; exact e
            have el : (avs L).take L.length = avs L := by rw [avs_take, List.take_length]
            have er : encR L = (.tup [.sl true [], .int .i64 3], []) := by simp [encR, g]
            have hb : L.length ≤ 10000 := by omega
            have tb : tupR (decR bs) = (.tup [.sl true [], .int .i64 3], []) := by rw [decR, if_pos g5]; rfl
            have bt : (byts bs).take bs.length = byts bs := List.take_of_length_le (by rw [byts_len]; exact Nat.le_refl _)
            have bu : (∀ (y : Int), y ∈ bs → U8 y) = True := by simpa using hbs
            have g1 : ¬ (2048 : Int) < (bs.length : Int) := by omega
            have g7 : (2040 : Int) < (bs.length : Int) := by omega
            have g8 : (((bs.length % 8 : Nat) : Int) != 0) = false := by simp; omega
            simp only [WK, simprocAttr, c12, n12, byts_w, S31, S21, S8, S27, S24, hd, ← hL, ownRow, byts_len, aslc, l0, tm, gt_iff_lt, Int.sub_zero, decBs_byts, and_self, decIns_avs, List.drop_zero, e', hdL, el, er, hb, avs_len, tb, bt, bu, g1, g7, g8]
            simp only [WK, simprocAttr, EW, r12]
        · by_cases g6 : bs.length % 8 ≠ 0
          · have e' : ¬ avs L = [] := by rw [avs_nil]; exact e
            have el : (avs L).take L.length = avs L := by rw [avs_take, List.take_length]
            have er : encR L = (.tup [.sl true [], .int .i64 3], []) := by simp [encR, g]
            have hb : L.length ≤ 10000 := by omega
            have tb : tupR (decR bs) = (.tup [.sl true [], .int .i64 120], []) := by rw [decR, if_neg g5, if_pos g6]; rfl
            have bt : (byts bs).take bs.length = byts bs := List.take_of_length_le (by rw [byts_len]; exact Nat.le_refl _)
            have bu : (∀ (y : Int), y ∈ bs → U8 y) = True := by simpa using hbs
            have g1 : ¬ (2048 : Int) < (bs.length : Int) := by omega
            have g7 : ¬ (2040 : Int) < (bs.length : Int) := by omega
            have g8 : (((bs.length % 8 : Nat) : Int) != 0) = true := by simp; omega
            simp only [WK, simprocAttr, c12, n12, byts_w, S31, S21, S8, S27, S24, hd, ← hL, ownRow, byts_len, aslc, l0, tm, gt_iff_lt, Int.sub_zero, decBs_byts, and_self, decIns_avs, List.drop_zero, e', hdL, el, er, hb, avs_len, tb, bt, bu, g1, g7, g8]
            simp only [WK, simprocAttr, EW, r12]
          · by_cases g9 : bs = []
            · have e' : ¬ avs L = [] := by rw [avs_nil]; exact e
              have el : (avs L).take L.length = avs L := by rw [avs_take, List.take_length]
              have er : encR L = (.tup [.sl true [], .int .i64 3], []) := by simp [encR, g]
              have hb : L.length ≤ 10000 := by omega
              subst g9
              have y0 : byts [] = [] := rfl
              simp only [WK, simprocAttr, c12, n12, byts_w, S31, S21, S8, S27, S24, hd, ← hL, ownRow, byts_len, aslc, l0, tm, gt_iff_lt, Int.sub_zero, decBs_byts, and_self, decIns_avs, List.drop_zero, e', hdL, el, er, hb, avs_len, ea, d0, e0, b0, n0, z0, t0, w0, y0, List.length_nil]
              simp only [WK, simprocAttr, EW, r12]
            · have e' : ¬ avs L = [] := by rw [avs_nil]; exact e
              have el : (avs L).take L.length = avs L := by rw [avs_take, List.take_length]
              have er : encR L = (.tup [.sl true [], .int .i64 3], []) := by simp [encR, g]
              have hb : L.length ≤ 10000 := by omega
              obtain ⟨n, hn⟩ : ∃ n, bs.length = 8 * n := ⟨bs.length / 8, by omega⟩
              have n1 : n ≠ 0 := fun c => by subst c; exact g9 (List.length_eq_zero_iff.1 (by omega))
              have d1 : decA bs n ≠ [] := fun c => n1 (by have := congrArg List.length c; rw [decA_len] at this; exact this)
              have dB : decR bs = (decA bs n, 0) := by rw [decR, if_neg g5, if_neg (by omega)]; congr 2; omega
              have tb : tupR (decA bs n, 0) = (.tup [.rf 0 (n - 1) 0 n, .int .i64 0], [.row (n - 1) 4 (avs (decA bs n))]) := by simp [tupR, iRow, d1, decA_len]
              have ok : ∀ x ∈ decA bs n, x.OK := decA_ok hbs (by omega)
              have dd := decIns_avs ok
              have at' : (avs (decA bs n)).take n = avs (decA bs n) := List.take_of_length_le (by rw [avs_len, decA_len]; exact Nat.le_refl _)
              have eB : encR (decA bs n) = (.tup [.rf 0 4 0 (8 * n), .int .i64 0], [.row 4 1 (byts bs)]) := by
                rw [encR, if_neg (by rw [decA_len]; omega), if_neg d1, allB_decA n hn hbs, decA_len]
              have bt : (byts bs).take bs.length = byts bs := List.take_of_length_le (by rw [byts_len]; exact Nat.le_refl _)
              have bt2 : (byts bs).take (8 * n) = byts bs := List.take_of_length_le (by rw [byts_len]; omega)
              have bu : (∀ (y : Int), y ∈ bs → U8 y) = True := by simpa using hbs
              have g1 : ¬ (2048 : Int) < (bs.length : Int) := by omega
              have hb6 : n ≤ 10000 := by omega
              have w12 : decide (bs = bs) = true := by simp
              simp only [WK, simprocAttr, c12, n12, byts_w, S31, S21, S8, S27, S24, hd, ← hL, ownRow, byts_len, aslc, l0, tm, gt_iff_lt, Int.sub_zero, decBs_byts, and_self, decIns_avs, List.drop_zero, e', hdL, el, er, hb, avs_len, dB, tb, dd, at', eB, bt, bt2, bu, g1, hb6, decA_len, w12]
              simp only [WK, simprocAttr, EW, r12]
    · by_cases g4 : 2048 < bs.length
      · have e' : ¬ avs L = [] := by rw [avs_nil]; exact e
        have el : (avs L).take L.length = avs L := by rw [avs_take, List.take_length]
        have er : encR L = (.tup [.rf 0 4 0 (8 * L.length), .int .i64 0], [.row 4 1 (byts (allB L))]) := by simp [encR, g, e]
        have hb : L.length ≤ 10000 := by omega
        have hb2 : L.length ≤ 1000000000 := by omega
        have hu : (∀ (x : Int), x ∈ allB L → U8 x) = True := by simpa using u8_all hLok
        have bl : (byts (allB L)).take (8 * L.length) = byts (allB L) := List.take_of_length_le (by rw [byts_len, allB_len]; exact Nat.le_refl _)
        have dr := decR_enc hLok (by omega)
        have tr : tupR (L, 0) = (.tup [.rf 0 (L.length - 1) 0 L.length, .int .i64 0], [.row (L.length - 1) 4 (avs L)]) := by simp [tupR, iRow, e]
        have w8 : IntKind.i64.wrap (8 * (L.length : Int)) = 8 * (L.length : Int) := wrI64 (by omega) (by omega)
        have w9 : ((8 * L.length : Nat) : Int) = 8 * (L.length : Int) := by omega
        have w10 : (8 * (L.length : Int) != 8 * (L.length : Int)) = false := by simp
        have w11 : decide (L = L) = true := by simp
        have tb : tupR (decR (bs.take 2048)) = (.tup [.sl true [], .int .i64 3], []) := by rw [decR, if_pos (by rw [List.length_take]; omega)]; rfl
        have bt : (byts bs).take 2048 = byts (bs.take 2048) := by simp [byts, List.map_take]
        have bu : (∀ (y : Int), y ∈ bs.take 2048 → U8 y) = True := by simpa using fun y hy => hbs y (List.mem_of_mem_take hy)
        have bl1 : (bs.take 2048).length = 2048 := by rw [List.length_take]; omega
        have g1 : (2048 : Int) < (bs.length : Int) := by omega
        have g3 : (2048 : Int) ≤ (bs.length : Int) := by omega
        simp only [WK, simprocAttr, c12, n12, byts_w, S31, S21, S8, S27, S24, hd, ← hL, ownRow, byts_len, aslc, l0, tm, gt_iff_lt, Int.sub_zero, decBs_byts, and_self, decIns_avs, List.drop_zero, e', hdL, el, er, hb, hb2, hu, bl, dr, tr, avs_len, w8, w9, w10, w11, tb, bt, bu, bl1, g1, g3]
        simp only [WK, simprocAttr, EW, r12]
      · by_cases g5 : 2040 < bs.length
        · by_cases g6 : bs.length % 8 ≠ 0
          · have e' : ¬ avs L = [] := by rw [avs_nil]; exact e
            have el : (avs L).take L.length = avs L := by rw [avs_take, List.take_length]
            have er : encR L = (.tup [.rf 0 4 0 (8 * L.length), .int .i64 0], [.row 4 1 (byts (allB L))]) := by simp [encR, g, e]
            have hb : L.length ≤ 10000 := by omega
            have hb2 : L.length ≤ 1000000000 := by omega
            have hu : (∀ (x : Int), x ∈ allB L → U8 x) = True := by simpa using u8_all hLok
            have bl : (byts (allB L)).take (8 * L.length) = byts (allB L) := List.take_of_length_le (by rw [byts_len, allB_len]; exact Nat.le_refl _)
            have dr := decR_enc hLok (by omega)
            have tr : tupR (L, 0) = (.tup [.rf 0 (L.length - 1) 0 L.length, .int .i64 0], [.row (L.length - 1) 4 (avs L)]) := by simp [tupR, iRow, e]
            have w8 : IntKind.i64.wrap (8 * (L.length : Int)) = 8 * (L.length : Int) := wrI64 (by omega) (by omega)
            have w9 : ((8 * L.length : Nat) : Int) = 8 * (L.length : Int) := by omega
            have w10 : (8 * (L.length : Int) != 8 * (L.length : Int)) = false := by simp
            have w11 : decide (L = L) = true := by simp
            have tb : tupR (decR bs) = (.tup [.sl true [], .int .i64 3], []) := by rw [decR, if_pos g5]; rfl
            have bt : (byts bs).take bs.length = byts bs := List.take_of_length_le (by rw [byts_len]; exact Nat.le_refl _)
            have bu : (∀ (y : Int), y ∈ bs → U8 y) = True := by simpa using hbs
            have g1 : ¬ (2048 : Int) < (bs.length : Int) := by omega
            have g7 : (2040 : Int) < (bs.length : Int) := by omega
            have g8 : (((bs.length % 8 : Nat) : Int) != 0) = true := by simp; omega
            simp only [WK, simprocAttr, c12, n12, byts_w, S31, S21, S8, S27, S24, hd, ← hL, ownRow, byts_len, aslc, l0, tm, gt_iff_lt, Int.sub_zero, decBs_byts, and_self, decIns_avs, List.drop_zero, e', hdL, el, er, hb, hb2, hu, bl, dr, tr, avs_len, w8, w9, w10, w11, tb, bt, bu, g1, g7, g8]
            simp only [WK, simprocAttr, EW, r12]
          · have e' : ¬ avs L = [] := by rw [avs_nil]; exact e
            have el : (avs L).take L.length = avs L := by rw [avs_take, List.take_length]
            have er : encR L = (.tup [.rf 0 4 0 (8 * L.length), .int .i64 0], [.row 4 1 (byts (allB L))]) := by simp [encR, g, e]
            have hb : L.length ≤ 10000 := by omega
            have hb2 : L.length ≤ 1000000000 := by omega
            have hu : (∀ (x : Int), x ∈ allB L → U8 x) = True := by simpa using u8_all hLok
            have bl : (byts (allB L)).take (8 * L.length) = byts (allB L) := List.take_of_length_le (by rw [byts_len, allB_len]; exact Nat.le_refl _)
            have dr := decR_enc hLok (by omega)
            have tr : tupR (L, 0) = (.tup [.rf 0 (L.length - 1) 0 L.length, .int .i64 0], [.row (L.length - 1) 4 (avs L)]) := by simp [tupR, iRow, e]
            have w8 : IntKind.i64.wrap (8 * (L.length : Int)) = 8 * (L.length : Int) := wrI64 (by omega) (by omega)
            have w9 : ((8 * L.length : Nat) : Int) = 8 * (L.length : Int) := by omega
            have w10 : (8 * (L.length : Int) != 8 * (L.length : Int)) = false := by simp
            have w11 : decide (L = L) = true := by simp
            have tb : tupR (decR bs) = (.tup [.sl true [], .int .i64 3], []) := by rw [decR, if_pos g5]; rfl
            have bt : (byts bs).take bs.length = byts bs := List.take_of_length_le (by rw [byts_len]; exact Nat.le_refl _)
            have bu : (∀ (y : Int), y ∈ bs → U8 y) = True := by simpa using hbs
            have g1 : ¬ (2048 : Int) < (bs.length : Int) := by omega
            have g7 : (2040 : Int) < (bs.length : Int) := by omega
            have g8 : (((bs.length % 8 : Nat) : Int) != 0) = false := by simp; omega
            simp only [WK, simprocAttr, c12, n12, byts_w, S31, S21, S8, S27, S24, hd, ← hL, ownRow, byts_len, aslc, l0, tm, gt_iff_lt, Int.sub_zero, decBs_byts, and_self, decIns_avs, List.drop_zero, e', hdL, el, er, hb, hb2, hu, bl, dr, tr, avs_len, w8, w9, w10, w11, tb, bt, bu, g1, g7, g8]
            simp only [WK, simprocAttr, EW, r12]
        · by_cases g6 : bs.length % 8 ≠ 0
          · have e' : ¬ avs L = [] := by rw [avs_nil]; exact e
            have el : (avs L).take L.length = avs L := by rw [avs_take, List.take_length]
            have er : encR L = (.tup [.rf 0 4 0 (8 * L.length), .int .i64 0], [.row 4 1 (byts (allB L))]) := by simp [encR, g, e]
            have hb : L.length ≤ 10000 := by omega
            have hb2 : L.length ≤ 1000000000 := by omega
            have hu : (∀ (x : Int), x ∈ allB L → U8 x) = True := by simpa using u8_all hLok
            have bl : (byts (allB L)).take (8 * L.length) = byts (allB L) := List.take_of_length_le (by rw [byts_len, allB_len]; exact Nat.le_refl _)
            have dr := decR_enc hLok (by omega)
            have tr : tupR (L, 0) = (.tup [.rf 0 (L.length - 1) 0 L.length, .int .i64 0], [.row (L.length - 1) 4 (avs L)]) := by simp [tupR, iRow, e]
            have w8 : IntKind.i64.wrap (8 * (L.length : Int)) = 8 * (L.length : Int) := wrI64 (by omega) (by omega)
            have w9 : ((8 * L.length : Nat) : Int) = 8 * (L.length : Int) := by omega
            have w10 : (8 * (L.length : Int) != 8 * (L.length : Int)) = false := by simp
            have w11 : decide (L = L) = true := by simp
            have tb : tupR (decR bs) = (.tup [.sl true [], .int .i64 120], []) := by rw [decR, if_neg g5, if_pos g6]; rfl
            have bt : (byts bs).take bs.length = byts bs := List.take_of_length_le (by rw [byts_len]; exact Nat.le_refl _)
            have bu : (∀ (y : Int), y ∈ bs → U8 y) = True := by simpa using hbs
            have g1 : ¬ (2048 : Int) < (bs.length : Int) := by omega
            have g7 : ¬ (2040 : Int) < (bs.length : Int) := by omega
            have g8 : (((bs.length % 8 : Nat) : Int) != 0) = true := by simp; omega
            simp only [WK, simprocAttr, c12, n12, byts_w, S31, S21, S8, S27, S24, hd, ← hL, ownRow, byts_len, aslc, l0, tm, gt_iff_lt, Int.sub_zero, decBs_byts, and_self, decIns_avs, List.drop_zero, e', hdL, el, er, hb, hb2, hu, bl, dr, tr, avs_len, w8, w9, w10, w11, tb, bt, bu, g1, g7, g8]
            simp only [WK, simprocAttr, EW, r12]
          · by_cases g9 : bs = []
            · have e' : ¬ avs L = [] := by rw [avs_nil]; exact e
              have el : (avs L).take L.length = avs L := by rw [avs_take, List.take_length]
              have er : encR L = (.tup [.rf 0 4 0 (8 * L.length), .int .i64 0], [.row 4 1 (byts (allB L))]) := by simp [encR, g, e]
              have hb : L.length ≤ 10000 := by omega
              have hb2 : L.length ≤ 1000000000 := by omega
              have hu : (∀ (x : Int), x ∈ allB L → U8 x) = True := by simpa using u8_all hLok
              have bl : (byts (allB L)).take (8 * L.length) = byts (allB L) := List.take_of_length_le (by rw [byts_len, allB_len]; exact Nat.le_refl _)
              have dr := decR_enc hLok (by omega)
              have tr : tupR (L, 0) = (.tup [.rf 0 (L.length - 1) 0 L.length, .int .i64 0], [.row (L.length - 1) 4 (avs L)]) := by simp [tupR, iRow, e]
              have w8 : IntKind.i64.wrap (8 * (L.length : Int)) = 8 * (L.length : Int) := wrI64 (by omega) (by omega)
              have w9 : ((8 * L.length : Nat) : Int) = 8 * (L.length : Int) := by omega
              have w10 : (8 * (L.length : Int) != 8 * (L.length : Int)) = false := by simp
              have w11 : decide (L = L) = true := by simp
              subst g9
              have y0 : byts [] = [] := rfl
              simp only [WK, simprocAttr, c12, n12, byts_w, S31, S21, S8, S27, S24, hd, ← hL, ownRow, byts_len, aslc, l0, tm, gt_iff_lt, Int.sub_zero, decBs_byts, and_self, decIns_avs, List.drop_zero, e', hdL, el, er, hb, hb2, hu, bl, dr, tr, avs_len, w8, w9, w10, w11, ea, d0, e0, b0, n0, z0, t0, w0, y0, List.length_nil]
              simp only [WK, simprocAttr, EW, r12]
            · have e' : ¬ avs L = [] := by rw [avs_nil]; exact e
              have el : (avs L).take L.length = avs L := by rw [avs_take, List.take_length]
              have er : encR L = (.tup [.rf 0 4 0 (8 * L.length), .int .i64 0], [.row 4 1 (byts (allB L))]) := by simp [encR, g, e]
              have hb : L.length ≤ 10000 := by omega
              have hb2 : L.length ≤ 1000000000 := by omega
              have hu : (∀ (x : Int), x ∈ allB L → U8 x) = True := by simpa using u8_all hLok
              have bl : (byts (allB L)).take (8 * L.length) = byts (allB L) := List.take_of_length_le (by rw [byts_len, allB_len]; exact Nat.le_refl _)
              have dr := decR_enc hLok (by omega)
              have tr : tupR (L, 0) = (.tup [.rf 0 (L.length - 1) 0 L.length, .int .i64 0], [.row (L.length - 1) 4 (avs L)]) := by simp [tupR, iRow, e]
              have w8 : IntKind.i64.wrap (8 * (L.length : Int)) = 8 * (L.length : Int) := wrI64 (by omega) (by omega)
              have w9 : ((8 * L.length : Nat) : Int) = 8 * (L.length : Int) := by omega
              have w10 : (8 * (L.length : Int) != 8 * (L.length : Int)) = false := by simp
              have w11 : decide (L = L) = true := by simp
              obtain ⟨n, hn⟩ : ∃ n, bs.length = 8 * n := ⟨bs.length / 8, by omega⟩
              have n1 : n ≠ 0 := fun c => by subst c; exact g9 (List.length_eq_zero_iff.1 (by omega))
              have d1 : decA bs n ≠ [] := fun c => n1 (by have := congrArg List.length c; rw [decA_len] at this; exact this)
              have dB : decR bs = (decA bs n, 0) := by rw [decR, if_neg g5, if_neg (by omega)]; congr 2; omega
              have tb : tupR (decA bs n, 0) = (.tup [.rf 0 (n - 1) 0 n, .int .i64 0], [.row (n - 1) 4 (avs (decA bs n))]) := by simp [tupR, iRow, d1, decA_len]
              have ok : ∀ x ∈ decA bs n, x.OK := decA_ok hbs (by omega)
              have dd := decIns_avs ok
              have at' : (avs (decA bs n)).take n = avs (decA bs n) := List.take_of_length_le (by rw [avs_len, decA_len]; exact Nat.le_refl _)
              have eB : encR (decA bs n) = (.tup [.rf 0 4 0 (8 * n), .int .i64 0], [.row 4 1 (byts bs)]) := by
                rw [encR, if_neg (by rw [decA_len]; omega), if_neg d1, allB_decA n hn hbs, decA_len]
              have bt : (byts bs).take bs.length = byts bs := List.take_of_length_le (by rw [byts_len]; exact Nat.le_refl _)
              have bt2 : (byts bs).take (8 * n) = byts bs := List.take_of_length_le (by rw [byts_len]; omega)
              have bu : (∀ (y : Int), y ∈ bs → U8 y) = True := by simpa using hbs
              have g1 : ¬ (2048 : Int) < (bs.length : Int) := by omega
              have hb6 : n ≤ 10000 := by omega
              have w12 : decide (bs = bs) = true := by simp
              simp only [WK, simprocAttr, c12, n12, byts_w, S31, S21, S8, S27, S24, hd, ← hL, ownRow, byts_len, aslc, l0, tm, gt_iff_lt, Int.sub_zero, decBs_byts, and_self, decIns_avs, List.drop_zero, e', hdL, el, er, hb, hb2, hu, bl, dr, tr, avs_len, w8, w9, w10, w11, dB, tb, dd, at', eB, bt, bt2, bu, g1, hb6, decA_len, w12]
              simp only [WK, simprocAttr, EW, r12]
end Go.Av

/- More arguments opened: bytes, rows of bytes. -/
set_option maxRecDepth 100000
namespace Go.Av
open Go Go.Proofs
def rowsB (l : List (List Int)) : List AV := l.map fun b => .sl false (byts b)
section
variable {H : Type} {enc : TypeId × Value → H} {ρ : Nat → Nat} {w : World} {sp : Nat → Bool} {held : Bool}
theorem u53 : PA.underlying 53 = some (.slice 5) := by kernel_rfl
theorem u67 : PA.underlying 67 = some (.slice 53) := by kernel_rfl
theorem ce53 : PA.cellsOf 53 = 1 := by kernel_rfl
theorem open_bytes {fuel : Nat} {cs : List Value} {x : DataW H × List MemPlace} (h : DataW.trod enc PA w 0 sp held fuel 53 cs = some x) : ∃ (v : Value) (l : List Int), cs = [v] ∧ VR ρ [] w (.sl false (byts l)) v ∧ ∀ b ∈ l, U8 b :=
  open_list (f := AV.int .u8) (p := U8) u53 ce5 (by omega) (fun u => rfl) (fun fuel cs x h => by
    obtain ⟨n, rfl, hw⟩ := open_int u5 h
    exact ⟨n, VRs.one (.int _ _), wf8 hw⟩) h
theorem open_bytess {fuel : Nat} {cs : List Value} {x : DataW H × List MemPlace} (h : DataW.trod enc PA w 0 sp held fuel 67 cs = some x) : ∃ (v : Value) (l : List (List Int)), cs = [v] ∧ VR ρ [] w (.sl false (rowsB l)) v ∧ ∀ b ∈ l, ∀ x ∈ b, U8 x :=
  open_list (f := fun b => AV.sl false (byts b)) (p := fun b => ∀ x ∈ b, U8 x) u67 ce53 (by omega) (fun u => rfl) (fun fuel cs x h => by
    obtain ⟨v, l, rfl, h1, h2⟩ := open_bytes (ρ := ρ) h
    exact ⟨l, VRs.one h1, h2⟩) h
end
end Go.Av

/- InsnDecodes: the walk. -/
namespace Go.Av
open Go Go.Proofs
set_option maxRecDepth 100000
set_option maxHeartbeats 4000000
theorem rowsB_len (r : List (List Int)) : (rowsB r).length = r.length := by simp [rowsB]
theorem rowsB_get {r : List (List Int)} {i : Nat} (h : i < r.length) : (rowsB r)[i]? = some (.sl false (byts r[i])) := by simp [rowsB, h]
def i10 (t : Bool) (rows : List (List Int)) (m : Nat) (τ : AFr) (h : AHeap) : Prop :=
  ∃ q : Nat, q ≤ rows.length ∧ q ≤ 10 ∧ m = 10 - q ∧ τ = { n := 86, s := [(15, .sl t (rowsB rows)), (16, .int .i64 rows.length), (17, .int .i64 q)], dfr := [] }
def i10b (t : Bool) (rows : List (List Int)) (q : Nat) (h0 : AHeap) (g6 : AV) (e : Int) (g8 : AV) (n : Nat) (rest : AHeap) (m : Nat) (τ : AFr) (h : AHeap) : Prop :=
  ∃ (C : List Int) (k : Nat), C.length = n ∧ k ≤ n ∧ m = n - k ∧ h = h0 ++ .row 0 1 (byts C) :: rest ∧ τ = { n := 86, s := [(5, .rf h0.length 0 0 n), (6, g6), (7, .int .i64 e), (8, g8), (9, .int .i64 e), (15, .sl t (rowsB rows)), (16, .int .i64 rows.length), (17, .int .i64 q), (68, .int .i64 n), (69, .int .i64 k)], dfr := [] }
theorem decBs_u8 {l : List Int} (h : ∀ b ∈ l, U8 b) : (∀ (b : Int), b ∈ l → U8 b) = True := by simpa using h
theorem k10 (t : Bool) (rows : List (List Int)) (hr : ∀ b ∈ rows, ∀ x ∈ b, U8 x) : ACall PA 10 [.sl t (rowsB rows)] [] (.bool true) [] := by
  refine ACall.ofS S31ok hmA h10 (by kernel_rfl) (Nat.le_of_ble_eq_true rfl) ownH_nil (own_solid (by simp [solid_bool])) (aS_den ?_)
  simp only [WK, simprocAttr, c10, n10, S31, S21, rowsB_len]
  refine x_loop (i10 t rows) ⟨10, _, ⟨0, by omega, by omega, by omega, rfl⟩, ⟨rfl, rfl, by simp [alook]⟩⟩ ?_
  rintro m τ h ⟨q, hq, hq2, rfl, rfl⟩
  by_cases b1 : q < rows.length
  · have b2 : (q : Int) < (rows.length : Int) := by omega
    have q0 : (0 : Int) ≤ (q : Int) := by omega
    have gx := rowsB_get b1
    by_cases b3 : q = 10
    · subst b3
      have b2' : (10 : Int) < (rows.length : Int) := by omega
      simp only [WK, simprocAttr, b2', gx]
      simp only [WK, simprocAttr, EW, r10]
    · have b4 : ¬ (q : Int) = 10 := by omega
      obtain ⟨x, hx⟩ : ∃ x, x = rows[q] := ⟨_, rfl⟩
      rw [← hx] at gx
      have hxu : ∀ y ∈ x, U8 y := hx ▸ hr _ (List.getElem_mem b1)
      have w : IntKind.i64.wrap ((q : Int) + 1) = ((q + 1 : Nat) : Int) := by rw [wrI64 (by omega) (by omega)]; omega
      obtain ⟨B, hB⟩ : ∃ B, B = x.take 2048 := ⟨_, rfl⟩
      have hBu : ∀ y ∈ B, U8 y := fun y hy => hxu y (List.mem_of_mem_take (hB ▸ hy))
      have hBl : B.length ≤ 2048 := by rw [hB, List.length_take]; omega
      have mn : (if (2048 : Int) < (x.length : Int) then (2048 : Int) else (x.length : Int)) = (B.length : Int) := by rw [hB, List.length_take]; split <;> omega
      have bt : (byts x).take B.length = byts B := by
        rw [hB, List.length_take]
        by_cases c : 2048 ≤ x.length
        · rw [Nat.min_eq_left c]; simp [byts, List.map_take]
        · rw [Nat.min_eq_right (by omega), List.take_of_length_le (by rw [byts_len]; exact Nat.le_refl _), List.take_of_length_le (by omega)]
      have l0 : (0 : Int) ≤ (B.length : Int) := by omega
      have l1 : (B.length : Int) ≤ (x.length : Int) := by rw [hB, List.length_take]; omega
      have l2 : ((B.length : Int)).toNat = B.length := by omega
      have bu := decBs_u8 hBu
      have b5 : B.length ≤ 100000 := by omega
      clear hB
      by_cases e : B = []
      · subst e
        have d0 : decIns [] = some [] := rfl
        have t0 : tupR (decR []) = (.tup [.sl true [], .int .i64 0], []) := rfl
        have dd : decD [] = (⟨0, 0, 0, 0⟩, 7) := rfl
        have y0 : byts [] = [] := rfl
        have z0 : ((0 : Nat) : Int) = 0 := rfl
        have c0 : decBs [] = some [] := rfl
        have c1 : ([] : List Int).length ≤ 100000 := by simp
        simp only [List.length_nil, z0, y0] at mn l0 l1 l2 bt
        simp only [WK, simprocAttr, b2, q0, gx, b4, byts_len, aslc, byts_w, mn, l0, l1, l2, bt, Int.sub_zero, List.drop_zero, gt_iff_lt, S31, S30, S8, S29, y0, z0, c0, c1, bu, and_self, t0, dd, appR, In.av, inV, aeqs, aeq1, d0]
        refine x_loop (fun m τ h => m = 0 ∧ τ = { n := 86, s := [(6, .sl true []), (7, .int .i64 0), (8, .sl true []), (9, .int .i64 0), (15, .sl t (rowsB rows)), (16, .int .i64 rows.length), (17, .int .i64 q), (68, .int .i64 0), (69, .int .i64 0)], dfr := [] }) ⟨0, _, ⟨rfl, rfl⟩, ⟨rfl, rfl, by simp [alook]⟩⟩ ?_
        rintro m τ h2 ⟨rfl, rfl⟩
        simp only [WK, simprocAttr, S31, S8, d0, w]
        refine ⟨10 - (q + 1), _, by omega, ⟨q + 1, by omega, by omega, rfl, rfl⟩, ⟨rfl, rfl, by simp [alook]⟩⟩
      · have be : byts B ≠ [] := fun c => e (by have := congrArg List.length c; rw [byts_len] at this; exact List.length_eq_zero_iff.1 this)
        have bt2 : (byts B).take B.length = byts B := List.take_of_length_le (by rw [byts_len]; exact Nat.le_refl _)
        have d0 : decIns [] = some [] := rfl
        have hm : B.length ≤ 140737488355328 := by omega
        have hm1 : B.length * 1 ≤ 140737488355328 := by omega
        by_cases b6 : B.length < 8
        · have b7 : (B.length : Int) < 8 := by omega
          have dd : decD B = (⟨0, 0, 0, 0⟩, 7) := by rw [decD, if_pos b6]
          have b8 : 0 < B.length := by
            cases B with
            | nil => exact absurd rfl e
            | cons a r => simp
          have tR : tupR (decR B) = (.tup [.sl true [], .int .i64 120], []) := by rw [decR, if_neg (by omega), if_pos (by omega)]; rfl
          simp only [WK, simprocAttr, b2, q0, gx, b4, byts_len, aslc, byts_w, mn, l0, l1, l2, bt, Int.sub_zero, List.drop_zero, gt_iff_lt, S31, S30, S8, S29, b5, bu, and_self, tR, dd, appR, In.av, inV, be, byts_okE, most, get0, getk, rowAt0, rowAtk, set0, setk, bt2, decBs_byts, List.append_assoc, hm, hm1, b7, aeqs, aeq1]
          refine x_loop (i10b t rows q h (.sl true []) 120 (.sl true []) B.length [.row 0 1 (byts B), .row 0 4 [.agg [.int .u16 0, .int .u8 0, .int .u8 0, .int .u32 0]]]) ⟨B.length, _, ⟨B, 0, rfl, by omega, by omega, rfl, rfl⟩, ⟨rfl, rfl, by simp [alook]⟩⟩ ?_
          rintro m τ h2 ⟨C, k, hC, hk, rfl, rfl, rfl⟩
          by_cases b9 : k < B.length
          · have c2 : (k : Int) < (B.length : Int) := by omega
            have k0 : (0 : Int) ≤ (k : Int) := by omega
            have wk : IntKind.i64.wrap ((k : Int) + 1) = ((k + 1 : Nat) : Int) := by rw [wrI64 (by omega) (by omega)]; omega
            have gk := byts_get (l := C) (i := k) (by omega)
            have sk : (byts C).set k (.int .u8 99) = byts (C.set k 99) := by simp [byts, List.map_set]
            simp only [WK, simprocAttr, c2, k0, wk, gk, List.headD_cons, sk, b9, get0, getk, rowAt0, rowAtk, set0, setk, Nat.zero_add]
            exact ⟨B.length - (k + 1), _, by omega, ⟨C.set k 99, k + 1, by rw [List.length_set, hC], by omega, rfl, rfl, rfl⟩, ⟨rfl, rfl, by simp [alook]⟩⟩
          · have ek : k = B.length := by omega
            subst ek
            simp only [WK, simprocAttr, S31, S8, d0, w, Int.lt_irrefl]
            exact ⟨10 - (q + 1), _, by omega, ⟨q + 1, by omega, by omega, rfl, rfl⟩, ⟨rfl, rfl, by simp [alook]⟩⟩
        · have b7 : ¬ (B.length : Int) < 8 := by omega
          have b10 : (8 : Int) ≤ (B.length : Int) := by omega
          have b11 : 8 ≤ B.length := by omega
          have dd : decD B = (decB (B.take 8), 0) := by rw [decD, if_neg b6]
          have t8 : (byts B).take 8 = byts (B.take 8) := by simp [byts, List.map_take]
          have u8t := decBs_u8 (l := B.take 8) fun y hy => hBu y (List.mem_of_mem_take hy)
          have l8 : (B.take 8).length = 8 := by rw [List.length_take]; omega
          by_cases er : 2040 < B.length ∨ B.length % 8 ≠ 0
          · obtain ⟨e1, tR⟩ : ∃ e1, tupR (decR B) = (.tup [.sl true [], .int .i64 e1], []) := by
              by_cases c : 2040 < B.length
              · exact ⟨3, by rw [decR, if_pos c]; rfl⟩
              · exact ⟨120, by rw [decR, if_neg c, if_pos (by omega)]; rfl⟩
            simp only [WK, simprocAttr, b2, q0, gx, b4, byts_len, aslc, byts_w, mn, l0, l1, l2, bt, Int.sub_zero, List.drop_zero, gt_iff_lt, S31, S30, S8, S29, b5, bu, and_self, tR, dd, appR, In.av, inV, be, byts_okE, most, get0, getk, rowAt0, rowAtk, set0, setk, bt2, decBs_byts, List.append_assoc, hm, hm1, b7, aeqs, aeq1, t8, u8t, l8, b10, b11]
            refine x_loop (i10b t rows q h (.sl true []) e1 (.sl true []) B.length [.row 0 1 (byts B), .row 0 4 [.agg [.int .u16 (decB (B.take 8)).c, .int .u8 (decB (B.take 8)).a, .int .u8 (decB (B.take 8)).b, .int .u32 (decB (B.take 8)).k]]]) ⟨B.length, _, ⟨B, 0, rfl, by omega, by omega, rfl, rfl⟩, ⟨rfl, rfl, by simp [alook]⟩⟩ ?_
            rintro m τ h2 ⟨C, k, hC, hk, rfl, rfl, rfl⟩
            by_cases b9 : k < B.length
            · have c2 : (k : Int) < (B.length : Int) := by omega
              have k0 : (0 : Int) ≤ (k : Int) := by omega
              have wk : IntKind.i64.wrap ((k : Int) + 1) = ((k + 1 : Nat) : Int) := by rw [wrI64 (by omega) (by omega)]; omega
              have gk := byts_get (l := C) (i := k) (by omega)
              have sk : (byts C).set k (.int .u8 99) = byts (C.set k 99) := by simp [byts, List.map_set]
              simp only [WK, simprocAttr, c2, k0, wk, gk, List.headD_cons, sk, b9, get0, getk, rowAt0, rowAtk, set0, setk, Nat.zero_add]
              exact ⟨B.length - (k + 1), _, by omega, ⟨C.set k 99, k + 1, by rw [List.length_set, hC], by omega, rfl, rfl, rfl⟩, ⟨rfl, rfl, by simp [alook]⟩⟩
            · have ek : k = B.length := by omega
              subst ek
              simp only [WK, simprocAttr, S31, S8, d0, w, Int.lt_irrefl]
              exact ⟨10 - (q + 1), _, by omega, ⟨q + 1, by omega, by omega, rfl, rfl⟩, ⟨rfl, rfl, by simp [alook]⟩⟩
          · obtain ⟨n, hn⟩ : ∃ n, B.length = 8 * n := ⟨B.length / 8, by omega⟩
            have n1 : n ≠ 0 := by omega
            have d1 : decA B n ≠ [] := fun c => n1 (by have := congrArg List.length c; rw [decA_len] at this; exact this)
            have dB : decR B = (decA B n, 0) := by rw [decR, if_neg (by omega), if_neg (by omega)]; congr 2; omega
            have tR : tupR (decR B) = (.tup [.rf 0 (n - 1) 0 n, .int .i64 0], [.row (n - 1) 4 (avs (decA B n))]) := by rw [dB]; simp [tupR, iRow, d1, decA_len]
            have ok : ∀ x ∈ decA B n, x.OK := decA_ok hBu (by omega)
            have d2 := decIns_avs ok
            have at' : (avs (decA B n)).take n = avs (decA B n) := List.take_of_length_le (by rw [avs_len, decA_len]; exact Nat.le_refl _)
            have hb6 : n ≤ 1000000000 := by omega
            have w12 : decide (decA B n = decA B n) = true := by simp
            simp only [WK, simprocAttr, b2, q0, gx, b4, byts_len, aslc, byts_w, mn, l0, l1, l2, bt, Int.sub_zero, List.drop_zero, gt_iff_lt, S31, S30, S8, S29, b5, bu, and_self, tR, dd, appR, In.av, inV, be, byts_okE, most, get0, getk, rowAt0, rowAtk, set0, setk, bt2, decBs_byts, List.append_assoc, hm, hm1, b7, aeqs, aeq1, t8, u8t, l8, b10, b11]
            refine x_loop (i10b t rows q h (.rf (h.length + 1) (n - 1) 0 n) 0 (.rf (h.length + 3) (n - 1) 0 n) B.length [.row (n - 1) 4 (avs (decA B n)), .row 0 1 (byts B), .row (n - 1) 4 (avs (decA B n)), .row 0 4 [.agg [.int .u16 (decB (B.take 8)).c, .int .u8 (decB (B.take 8)).a, .int .u8 (decB (B.take 8)).b, .int .u32 (decB (B.take 8)).k]]]) ⟨B.length, _, ⟨B, 0, rfl, by omega, by omega, rfl, rfl⟩, ⟨rfl, rfl, by simp [alook]⟩⟩ ?_
            rintro m τ h2 ⟨C, k, hC, hk, rfl, rfl, rfl⟩
            by_cases b9 : k < B.length
            · have c2 : (k : Int) < (B.length : Int) := by omega
              have k0 : (0 : Int) ≤ (k : Int) := by omega
              have wk : IntKind.i64.wrap ((k : Int) + 1) = ((k + 1 : Nat) : Int) := by rw [wrI64 (by omega) (by omega)]; omega
              have gk := byts_get (l := C) (i := k) (by omega)
              have sk : (byts C).set k (.int .u8 99) = byts (C.set k 99) := by simp [byts, List.map_set]
              simp only [WK, simprocAttr, c2, k0, wk, gk, List.headD_cons, sk, b9, get0, getk, rowAt0, rowAtk, set0, setk, Nat.zero_add]
              exact ⟨B.length - (k + 1), _, by omega, ⟨C.set k 99, k + 1, by rw [List.length_set, hC], by omega, rfl, rfl, rfl⟩, ⟨rfl, rfl, by simp [alook]⟩⟩
            · have ek : k = B.length := by omega
              subst ek
              simp only [WK, simprocAttr, S31, S8, d0, w, Int.lt_irrefl, get0, getk, rowAt0, rowAtk, at', d2, decA_len, hb6, w12]
              exact ⟨10 - (q + 1), _, by omega, ⟨q + 1, by omega, by omega, rfl, rfl⟩, ⟨rfl, rfl, by simp [alook]⟩⟩
  · have b2 : ¬ (q : Int) < (rows.length : Int) := by omega
    simp only [WK, simprocAttr, b2]
    simp only [WK, simprocAttr, EW, r10]
end Go.Av
