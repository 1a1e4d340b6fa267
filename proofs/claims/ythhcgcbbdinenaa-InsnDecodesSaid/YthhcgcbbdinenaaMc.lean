/- The walk's rules as one set of rewriting rules. -/
import Derived.Test.YthhcgcbbdinenaaMg
import Derived.Test.YthhcgcbbdinenaaMf
import Derived.Laws.BitsLemmas
set_option linter.unusedVariables false
set_option linter.unusedSimpArgs false
namespace Go.Av
open Go
theorem gcl {α : Type} (l : List α) (a : α) : (l ++ [a])[l.length]? = some a := by simp
theorem WN : type_of% (And.intro (And.intro (And.intro (And.intro (And.intro (And.intro (And.intro (And.intro @argS.eq_1 @argS.eq_2) (And.intro @x_skip @x_exit)) (And.intro (And.intro @x_ret @x_seq) (And.intro @x_block @x_cond))) (And.intro (And.intro (And.intro @x_nil @x_cons) (And.intro @x_draw @q_nil)) (And.intro (And.intro @q_cons @den_nil) (And.intro @den_code (And.intro @den_codeR @den_codeE))))) (And.intro (And.intro (And.intro (And.intro @den_blk @den_blkR) (And.intro @den_blkE @den_lp)) (And.intro (And.intro @den_lpR @den_lpE) (And.intro @set_push @stp_v))) (And.intro (And.intro (And.intro @stp_call @stp_yield) (And.intro @stp_ite @stpQ_v)) (And.intro (And.intro @stpQ_call @stpQ_ite) (And.intro @cnd_bool (And.intro @cnd_any @stepR.eq_1)))))) (And.intro (And.intro (And.intro (And.intro (And.intro @stepR.eq_2 @callR.eq_1) (And.intro @callR.eq_2 @callR.eq_3)) (And.intro (And.intro @astep.eq_1 @astep.eq_2) (And.intro @astep.eq_3 @astep.eq_4))) (And.intro (And.intro (And.intro @astep.eq_5 @astep.eq_6) (And.intro @astep.eq_7 @astep.eq_8)) (And.intro (And.intro @astep.eq_9 @astep.eq_10) (And.intro @astep.eq_11 (And.intro @astep.eq_12 @astep.eq_13))))) (And.intro (And.intro (And.intro (And.intro @astep.eq_14 @astep.eq_15) (And.intro @astep.eq_16 @astep.eq_17)) (And.intro (And.intro @astep.eq_18 @astep.eq_19) (And.intro @astep.eq_20 (And.intro @astep.eq_21 @astep.eq_22)))) (And.intro (And.intro (And.intro @astep.eq_23 @astep.eq_24) (And.intro @astep.eq_25 @astep.eq_26)) (And.intro (And.intro @astep.eq_27 @astep.eq_28) (And.intro @astep.eq_29 (And.intro @astep.eq_30 @astep.eq_31))))))) (And.intro (And.intro (And.intro (And.intro (And.intro (And.intro @astep.eq_32 @astep.eq_33) (And.intro @astep.eq_34 @astep.eq_35)) (And.intro (And.intro @astep.eq_36 @astep.eq_37) (And.intro @astep.eq_38 @astep.eq_39))) (And.intro (And.intro (And.intro @astep.eq_40 @astep.eq_41) (And.intro @astep.eq_42 @astep.eq_43)) (And.intro (And.intro @astep.eq_44 @astep.eq_45) (And.intro @astep.eq_46 (And.intro @astep.eq_47 @astep.eq_48))))) (And.intro (And.intro (And.intro (And.intro @ev.eq_1 @ev.eq_2) (And.intro @alook.eq_1 @alook.eq_2)) (And.intro (And.intro @AFr.put.eq_1 @AFr.put.eq_2) (And.intro @AFr.inb.eq_1 (And.intro @AFr.inb.eq_2 @rv.eq_1)))) (And.intro (And.intro (And.intro @rv.eq_2 @abin.eq_1) (And.intro @abin.eq_2 @abin.eq_3)) (And.intro (And.intro @abin.eq_4 @abin.eq_5) (And.intro @abin.eq_6 (And.intro @abin.eq_7 @abin.eq_8)))))) (And.intro (And.intro (And.intro (And.intro (And.intro @abin.eq_9 @abin.eq_10) (And.intro @abin.eq_11 @abin.eq_12)) (And.intro (And.intro @abin.eq_13 @abin.eq_14) (And.intro @abin.eq_15 @abin.eq_16))) (And.intro (And.intro (And.intro @abin.eq_17 @abin.eq_18) (And.intro @abin.eq_19 @abin.eq_20)) (And.intro (And.intro @abin.eq_21 @abin.eq_22) (And.intro @aeqp.eq_1 (And.intro @aeqp.eq_2 @aeqp.eq_3))))) (And.intro (And.intro (And.intro (And.intro @aeqp.eq_4 @afill.eq_1) (And.intro @afill.eq_2 @splice.eq_1)) (And.intro (And.intro @okE.eq_1 @okC.eq_1) (And.intro @cells_agg (And.intro @cells_int @cells_bool)))) (And.intro (And.intro (And.intro @cells_str @cells_nilp) (And.intro @cells_rp @cells_cp)) (And.intro (And.intro @cells_sl @cells_rf) (And.intro @cells_mp (And.intro @cells_nilmap @cells_fn)))))))) (And.intro (And.intro (And.intro (And.intro (And.intro (And.intro (And.intro @cells_yld @cells_nilfn) (And.intro @AV.one.eq_1 @AV.one.eq_2)) (And.intro (And.intro @AV.one.eq_3 @AV.one.eq_4) (And.intro @ptrCells.eq_1 @ptrCells.eq_2))) (And.intro (And.intro (And.intro @ptrCells.eq_3 @takeAs.eq_1) (And.intro @takeAs.eq_2 @recell.eq_1)) (And.intro (And.intro @recell.eq_2 @snap.eq_1) (And.intro @snap.eq_2 (And.intro @sn1.eq_1 @sn1.eq_2))))) (And.intro (And.intro (And.intro (And.intro @sn1.eq_3 @shift.eq_1) (And.intro @shift.eq_2 @sh1.eq_1)) (And.intro (And.intro @sh1.eq_2 @sh1.eq_3) (And.intro @stAt.eq_1 (And.intro @stAt.eq_2 @elems.eq_1)))) (And.intro (And.intro (And.intro @elems.eq_2 @elems.eq_3) (And.intro @amin.eq_1 @amin.eq_2)) (And.intro (And.intro @amax.eq_1 @amax.eq_2) (And.intro @optInt.eq_1 (And.intro @optInt.eq_2 @true_and)))))) (And.intro (And.intro (And.intro (And.intro (And.intro @and_true @decide_true) (And.intro @decide_false @decide_eq_true_eq)) (And.intro (And.intro @decide_eq_false_iff_not @ne_eq.{1}) (And.intro @not_true_eq_false @not_false_eq_true))) (And.intro (And.intro (And.intro @beq_iff_eq.{0} @beq_eq_false_iff_ne.{0}) (And.intro @bne_iff_ne.{0} @Jump.exit.injEq)) (And.intro (And.intro @List.foldl_nil.{0,0} @List.foldl_cons.{0,0}) (And.intro @List.map_cons.{0,0} (And.intro @List.map_nil.{0,0} @List.getD_nil.{0}))))) (And.intro (And.intro (And.intro (And.intro @List.nodup_nil.{0} @List.flatMap_cons.{0,0}) (And.intro @List.flatMap_nil.{0,0} @List.append_nil.{0})) (And.intro (And.intro @List.nil_append.{0} @List.cons_append.{0}) (And.intro @Option.getD_some.{0} (And.intro @Option.getD_none.{0} @List.length_cons.{0})))) (And.intro (And.intro (And.intro @List.length_nil.{0} @List.getElem?_cons_zero.{0}) (And.intro @List.getElem?_cons_succ.{0} @List.getElem?_nil.{0})) (And.intro (And.intro @List.set_cons_zero.{0} @List.set_cons_succ.{0}) (And.intro @List.set_nil.{0} (And.intro @List.take_succ_cons.{0} @List.take_zero.{0}))))))) (And.intro (And.intro (And.intro (And.intro (And.intro (And.intro @List.drop_zero.{0} @List.drop_succ_cons.{0}) (And.intro @List.all_cons.{0} @List.all_nil.{0})) (And.intro (And.intro @Bool.and_true @Bool.true_and) (And.intro @beq_self_eq_true.{0} @true_or))) (And.intro (And.intro (And.intro @or_true @false_or) (And.intro @or_false @false_and)) (And.intro (And.intro @and_false @Bool.false_eq_true) (And.intro @Bool.true_eq_false (And.intro @forall_const.{0} @forall_const.{1}))))) (And.intro (And.intro (And.intro (And.intro @implies_true.{0} @implies_true.{1}) (And.intro @List.head?_cons.{0} @List.getD_cons_zero.{0})) (And.intro (And.intro @List.getD_cons_succ.{0} @List.drop_nil.{0}) (And.intro @List.take_nil.{0} (And.intro @Nat.zero_add @Nat.add_zero)))) (And.intro (And.intro (And.intro @sb_eq @sb_size) (And.intro @sb_append @forall_eq.{1})) (And.intro (And.intro @imp_self @List.length_append.{0}) (And.intro @List.length_map.{0,0} (And.intro @Bool.not_eq_true @Bool.not_true)))))) (And.intro (And.intro (And.intro (And.intro (And.intro @Bool.not_false @Int.toNat_natCast) (And.intro @Bool.not_eq_eq_eq_not @bne_self_eq_false.{0})) (And.intro (And.intro @Bool.false_bne @Bool.true_bne) (And.intro @Bool.bne_false @Bool.bne_true))) (And.intro (And.intro (And.intro @bne_eq_false_iff_eq.{0} @Bool.not_eq_false) (And.intro @Bool.not_not @Bool.true_beq)) (And.intro (And.intro @Bool.false_beq @Int.le_refl) (And.intro @Nat.mul_one (And.intro @Nat.one_mul @Int.cast_ofNat_Int))))) (And.intro (And.intro (And.intro (And.intro @gcl @tab_s) (And.intro @tab_g @tab_l)) (And.intro (And.intro @loudD.eq_1 @loudD.eq_2) (And.intro @opLoud.eq_1 (And.intro @opLoud.eq_2 @opLoud.eq_3)))) (And.intro (And.intro (And.intro @opLoud.eq_4 @opLoud.eq_5) (And.intro @opLoud.eq_6 @opLoud.eq_7)) (And.intro (And.intro @opLoud.eq_8 @Option.isNone_some.{0}) (And.intro @Option.isNone_none.{0} (And.intro @Bool.false_or @Bool.or_false))))))))) := (And.intro (And.intro (And.intro (And.intro (And.intro (And.intro (And.intro (And.intro @argS.eq_1 @argS.eq_2) (And.intro @x_skip @x_exit)) (And.intro (And.intro @x_ret @x_seq) (And.intro @x_block @x_cond))) (And.intro (And.intro (And.intro @x_nil @x_cons) (And.intro @x_draw @q_nil)) (And.intro (And.intro @q_cons @den_nil) (And.intro @den_code (And.intro @den_codeR @den_codeE))))) (And.intro (And.intro (And.intro (And.intro @den_blk @den_blkR) (And.intro @den_blkE @den_lp)) (And.intro (And.intro @den_lpR @den_lpE) (And.intro @set_push @stp_v))) (And.intro (And.intro (And.intro @stp_call @stp_yield) (And.intro @stp_ite @stpQ_v)) (And.intro (And.intro @stpQ_call @stpQ_ite) (And.intro @cnd_bool (And.intro @cnd_any @stepR.eq_1)))))) (And.intro (And.intro (And.intro (And.intro (And.intro @stepR.eq_2 @callR.eq_1) (And.intro @callR.eq_2 @callR.eq_3)) (And.intro (And.intro @astep.eq_1 @astep.eq_2) (And.intro @astep.eq_3 @astep.eq_4))) (And.intro (And.intro (And.intro @astep.eq_5 @astep.eq_6) (And.intro @astep.eq_7 @astep.eq_8)) (And.intro (And.intro @astep.eq_9 @astep.eq_10) (And.intro @astep.eq_11 (And.intro @astep.eq_12 @astep.eq_13))))) (And.intro (And.intro (And.intro (And.intro @astep.eq_14 @astep.eq_15) (And.intro @astep.eq_16 @astep.eq_17)) (And.intro (And.intro @astep.eq_18 @astep.eq_19) (And.intro @astep.eq_20 (And.intro @astep.eq_21 @astep.eq_22)))) (And.intro (And.intro (And.intro @astep.eq_23 @astep.eq_24) (And.intro @astep.eq_25 @astep.eq_26)) (And.intro (And.intro @astep.eq_27 @astep.eq_28) (And.intro @astep.eq_29 (And.intro @astep.eq_30 @astep.eq_31))))))) (And.intro (And.intro (And.intro (And.intro (And.intro (And.intro @astep.eq_32 @astep.eq_33) (And.intro @astep.eq_34 @astep.eq_35)) (And.intro (And.intro @astep.eq_36 @astep.eq_37) (And.intro @astep.eq_38 @astep.eq_39))) (And.intro (And.intro (And.intro @astep.eq_40 @astep.eq_41) (And.intro @astep.eq_42 @astep.eq_43)) (And.intro (And.intro @astep.eq_44 @astep.eq_45) (And.intro @astep.eq_46 (And.intro @astep.eq_47 @astep.eq_48))))) (And.intro (And.intro (And.intro (And.intro @ev.eq_1 @ev.eq_2) (And.intro @alook.eq_1 @alook.eq_2)) (And.intro (And.intro @AFr.put.eq_1 @AFr.put.eq_2) (And.intro @AFr.inb.eq_1 (And.intro @AFr.inb.eq_2 @rv.eq_1)))) (And.intro (And.intro (And.intro @rv.eq_2 @abin.eq_1) (And.intro @abin.eq_2 @abin.eq_3)) (And.intro (And.intro @abin.eq_4 @abin.eq_5) (And.intro @abin.eq_6 (And.intro @abin.eq_7 @abin.eq_8)))))) (And.intro (And.intro (And.intro (And.intro (And.intro @abin.eq_9 @abin.eq_10) (And.intro @abin.eq_11 @abin.eq_12)) (And.intro (And.intro @abin.eq_13 @abin.eq_14) (And.intro @abin.eq_15 @abin.eq_16))) (And.intro (And.intro (And.intro @abin.eq_17 @abin.eq_18) (And.intro @abin.eq_19 @abin.eq_20)) (And.intro (And.intro @abin.eq_21 @abin.eq_22) (And.intro @aeqp.eq_1 (And.intro @aeqp.eq_2 @aeqp.eq_3))))) (And.intro (And.intro (And.intro (And.intro @aeqp.eq_4 @afill.eq_1) (And.intro @afill.eq_2 @splice.eq_1)) (And.intro (And.intro @okE.eq_1 @okC.eq_1) (And.intro @cells_agg (And.intro @cells_int @cells_bool)))) (And.intro (And.intro (And.intro @cells_str @cells_nilp) (And.intro @cells_rp @cells_cp)) (And.intro (And.intro @cells_sl @cells_rf) (And.intro @cells_mp (And.intro @cells_nilmap @cells_fn)))))))) (And.intro (And.intro (And.intro (And.intro (And.intro (And.intro (And.intro @cells_yld @cells_nilfn) (And.intro @AV.one.eq_1 @AV.one.eq_2)) (And.intro (And.intro @AV.one.eq_3 @AV.one.eq_4) (And.intro @ptrCells.eq_1 @ptrCells.eq_2))) (And.intro (And.intro (And.intro @ptrCells.eq_3 @takeAs.eq_1) (And.intro @takeAs.eq_2 @recell.eq_1)) (And.intro (And.intro @recell.eq_2 @snap.eq_1) (And.intro @snap.eq_2 (And.intro @sn1.eq_1 @sn1.eq_2))))) (And.intro (And.intro (And.intro (And.intro @sn1.eq_3 @shift.eq_1) (And.intro @shift.eq_2 @sh1.eq_1)) (And.intro (And.intro @sh1.eq_2 @sh1.eq_3) (And.intro @stAt.eq_1 (And.intro @stAt.eq_2 @elems.eq_1)))) (And.intro (And.intro (And.intro @elems.eq_2 @elems.eq_3) (And.intro @amin.eq_1 @amin.eq_2)) (And.intro (And.intro @amax.eq_1 @amax.eq_2) (And.intro @optInt.eq_1 (And.intro @optInt.eq_2 @true_and)))))) (And.intro (And.intro (And.intro (And.intro (And.intro @and_true @decide_true) (And.intro @decide_false @decide_eq_true_eq)) (And.intro (And.intro @decide_eq_false_iff_not @ne_eq.{1}) (And.intro @not_true_eq_false @not_false_eq_true))) (And.intro (And.intro (And.intro @beq_iff_eq.{0} @beq_eq_false_iff_ne.{0}) (And.intro @bne_iff_ne.{0} @Jump.exit.injEq)) (And.intro (And.intro @List.foldl_nil.{0,0} @List.foldl_cons.{0,0}) (And.intro @List.map_cons.{0,0} (And.intro @List.map_nil.{0,0} @List.getD_nil.{0}))))) (And.intro (And.intro (And.intro (And.intro @List.nodup_nil.{0} @List.flatMap_cons.{0,0}) (And.intro @List.flatMap_nil.{0,0} @List.append_nil.{0})) (And.intro (And.intro @List.nil_append.{0} @List.cons_append.{0}) (And.intro @Option.getD_some.{0} (And.intro @Option.getD_none.{0} @List.length_cons.{0})))) (And.intro (And.intro (And.intro @List.length_nil.{0} @List.getElem?_cons_zero.{0}) (And.intro @List.getElem?_cons_succ.{0} @List.getElem?_nil.{0})) (And.intro (And.intro @List.set_cons_zero.{0} @List.set_cons_succ.{0}) (And.intro @List.set_nil.{0} (And.intro @List.take_succ_cons.{0} @List.take_zero.{0}))))))) (And.intro (And.intro (And.intro (And.intro (And.intro (And.intro @List.drop_zero.{0} @List.drop_succ_cons.{0}) (And.intro @List.all_cons.{0} @List.all_nil.{0})) (And.intro (And.intro @Bool.and_true @Bool.true_and) (And.intro @beq_self_eq_true.{0} @true_or))) (And.intro (And.intro (And.intro @or_true @false_or) (And.intro @or_false @false_and)) (And.intro (And.intro @and_false @Bool.false_eq_true) (And.intro @Bool.true_eq_false (And.intro @forall_const.{0} @forall_const.{1}))))) (And.intro (And.intro (And.intro (And.intro @implies_true.{0} @implies_true.{1}) (And.intro @List.head?_cons.{0} @List.getD_cons_zero.{0})) (And.intro (And.intro @List.getD_cons_succ.{0} @List.drop_nil.{0}) (And.intro @List.take_nil.{0} (And.intro @Nat.zero_add @Nat.add_zero)))) (And.intro (And.intro (And.intro @sb_eq @sb_size) (And.intro @sb_append @forall_eq.{1})) (And.intro (And.intro @imp_self @List.length_append.{0}) (And.intro @List.length_map.{0,0} (And.intro @Bool.not_eq_true @Bool.not_true)))))) (And.intro (And.intro (And.intro (And.intro (And.intro @Bool.not_false @Int.toNat_natCast) (And.intro @Bool.not_eq_eq_eq_not @bne_self_eq_false.{0})) (And.intro (And.intro @Bool.false_bne @Bool.true_bne) (And.intro @Bool.bne_false @Bool.bne_true))) (And.intro (And.intro (And.intro @bne_eq_false_iff_eq.{0} @Bool.not_eq_false) (And.intro @Bool.not_not @Bool.true_beq)) (And.intro (And.intro @Bool.false_beq @Int.le_refl) (And.intro @Nat.mul_one (And.intro @Nat.one_mul @Int.cast_ofNat_Int))))) (And.intro (And.intro (And.intro (And.intro @gcl @tab_s) (And.intro @tab_g @tab_l)) (And.intro (And.intro @loudD.eq_1 @loudD.eq_2) (And.intro @opLoud.eq_1 (And.intro @opLoud.eq_2 @opLoud.eq_3)))) (And.intro (And.intro (And.intro @opLoud.eq_4 @opLoud.eq_5) (And.intro @opLoud.eq_6 @opLoud.eq_7)) (And.intro (And.intro @opLoud.eq_8 @Option.isNone_some.{0}) (And.intro @Option.isNone_none.{0} (And.intro @Bool.false_or @Bool.or_false)))))))))
theorem WK : type_of% (And.intro @rowAt.eq_1 WN) := And.intro @rowAt.eq_1 WN
theorem EW : type_of% (And.intro (And.intro (And.intro (And.intro @EndQ.eq_1 @End.eq_1) (And.intro @aresl.eq_1 @aresl.eq_2)) (And.intro (And.intro @ares.eq_1 @ares.eq_2) (And.intro @kills.eq_1 (And.intro @resv.eq_1 @resv.eq_2)))) (And.intro (And.intro (And.intro @refs.eq_1 @refs.eq_2) (And.intro @refs1.eq_1 (And.intro @refs1.eq_2 @refs1.eq_3))) (And.intro (And.intro @rn.eq_1 @rn.eq_2) (And.intro @rn1.eq_1 (And.intro @rn1.eq_2 @rn1.eq_3))))) := (And.intro (And.intro (And.intro (And.intro @EndQ.eq_1 @End.eq_1) (And.intro @aresl.eq_1 @aresl.eq_2)) (And.intro (And.intro @ares.eq_1 @ares.eq_2) (And.intro @kills.eq_1 (And.intro @resv.eq_1 @resv.eq_2)))) (And.intro (And.intro (And.intro @refs.eq_1 @refs.eq_2) (And.intro @refs1.eq_1 (And.intro @refs1.eq_2 @refs1.eq_3))) (And.intro (And.intro @rn.eq_1 @rn.eq_2) (And.intro @rn1.eq_1 (And.intro @rn1.eq_2 @rn1.eq_3)))))
end Go.Av

/- Contracts: the leaves. -/
namespace Go.Av
open Go Go.Proofs
set_option maxRecDepth 100000
set_option maxHeartbeats 2000000
def S0 : Spec := fun _ _ => none
theorem S0ok : SpecOK PA S0 := ⟨fun f args r l h => by cases h⟩
def singleT (c : Int) : List UInt8 × Int :=
  if c = 0 then ([108, 100, 46, 105, 109, 109], 1) else
  if c = 1 then ([108, 100, 120, 46, 105, 109, 109], 1) else
  if c = 2 then ([115, 116], 3) else
  if c = 3 then ([115, 116, 120], 3) else
  if c = 5 then ([106, 97], 4) else
  if c = 6 then ([114, 101, 116, 46, 107], 1) else
  if c = 7 then ([116, 97, 120], 0) else
  if c = 22 then ([114, 101, 116, 46, 97], 0) else
  if c = 32 then ([108, 100, 46, 97, 98, 115], 2) else
  if c = 96 then ([108, 100, 46, 109, 101, 109], 3) else
  if c = 97 then ([108, 100, 120, 46, 109, 101, 109], 3) else
  if c = 128 then ([108, 100, 46, 108, 101, 110], 0) else
  if c = 129 then ([108, 100, 120, 46, 108, 101, 110], 0) else
  if c = 132 then ([110, 101, 103], 0) else
  if c = 135 then ([116, 120, 97], 0) else
  (([] : List UInt8), (-1 : Int))
theorem k50 (c : Int) : ACall PA 50 [.int .u16 c] [] (.tup [.str (sb (singleT c).1), .int .i64 (singleT c).2]) [] := by
  refine ACall.ofS S0ok hmA h50 (by kernel_rfl) (Nat.le_of_ble_eq_true rfl) (ownH_nil) (own_solid (by simp [solid_int, solid_bool, solid_str, solid_agg, solid_tup, solid_nilsl, solid_nilp])) (aS_den ?_)
  simp only [WK, simprocAttr, c50, n50]
  simp only [WK, simprocAttr, EW, r50]
  simp +contextual [singleT]
def reckT : List (List UInt8) := [[97, 100, 100], [115, 117, 98], [109, 117, 108], [100, 105, 118], [111, 114], [97, 110, 100], [108, 115, 104], [114, 115, 104], [], [], [120, 111, 114], [], [], [], [], []]
def testT : List (List UInt8) := [[], [106, 101, 113], [106, 103, 116], [106, 103, 101], [106, 115, 101, 116], [], [], [], [], [], [], [], [], [], [], []]
def strs (l : List (List UInt8)) : AV := .agg (l.map fun x => .str (sb x))
theorem k73  : ACall PA 73 [] [] (.rp 0 0 0 0) [.row 0 16 [strs reckT]] := by
  refine ACall.ofS S0ok hmA h73 (by kernel_rfl) (Nat.le_of_ble_eq_true rfl) (ownH_row _ _ _ (by simp [strs, reckT, AV.cells, solid_str])) (own_rp _ _ _ _) (aS_den ?_)
  simp only [WK, simprocAttr, c73, n73]
  simp only [WK, simprocAttr, EW, r73]
  simp [strs, reckT]
theorem k74  : ACall PA 74 [] [] (.rp 0 0 0 0) [.row 0 16 [strs testT]] := by
  refine ACall.ofS S0ok hmA h74 (by kernel_rfl) (Nat.le_of_ble_eq_true rfl) (ownH_row _ _ _ (by simp [strs, testT, AV.cells, solid_str])) (own_rp _ _ _ _) (aS_den ?_)
  simp only [WK, simprocAttr, c74, n74]
  simp only [WK, simprocAttr, EW, r74]
  simp [strs, testT]
end Go.Av

/- Contracts: names and forms. -/
namespace Go.Av
open Go Go.Proofs
set_option maxRecDepth 100000
set_option maxHeartbeats 2000000
abbrev rowR : AObj := .row 0 16 [strs reckT]
abbrev rowT : AObj := .row 0 16 [strs testT]
theorem strs_solid (l : List (List UInt8)) : ∀ x ∈ [strs l], ∀ u ∈ x.cells, Solid u := by simp [strs, AV.cells, solid_str]
def S1 : Spec := fun f args => match f, args with
  | 50, [.int .u16 c] => some (.tup [.str (sb (singleT c).1), .int .i64 (singleT c).2], [])
  | 73, [] => some (.rp 0 0 0 0, [rowR])
  | 74, [] => some (.rp 0 0 0 0, [rowT])
  | _, _ => none
theorem S1ok : SpecOK PA S1 := by
  refine ⟨fun f args r l h => ?_⟩
  unfold S1 at h
  split at h
  · cases h; exact ⟨k50 _, by simp [bel_int], own_solid (by simp [solid_tup, solid_str, solid_int]), ownH_nil⟩
  · cases h; exact ⟨k73, by simp, own_rp _ _ _ _, ownH_row _ _ _ (strs_solid _)⟩
  · cases h; exact ⟨k74, by simp, own_rp _ _ _ _, ownH_row _ _ _ (strs_solid _)⟩
  · cases h
def U16 (c : Int) : Prop := 0 ≤ c ∧ c < 65536
theorem nib_eq {c : Int} (hc : U16 c) : IntKind.u16.wrap (BitVec.ofInt IntKind.u16.bits c &&& BitVec.ofInt IntKind.u16.bits 15).toNat = c % 16 := by
  obtain ⟨h0, h1⟩ := hc
  obtain ⟨n, rfl⟩ := Int.eq_ofNat_of_zero_le h0
  have : (BitVec.ofInt IntKind.u16.bits (n : Int) &&& BitVec.ofInt IntKind.u16.bits 15).toNat = n % 16 := by
    show (BitVec.ofInt 16 (n : Int) &&& BitVec.ofInt 16 15).toNat = n % 16
    rw [BitVec.toNat_and]
    have e1 : (BitVec.ofInt 16 (n : Int)).toNat = n := by
      rw [BitVec.toNat_ofInt]; omega
    have e2 : (BitVec.ofInt 16 15).toNat = 2 ^ 4 - 1 := by decide
    rw [e1, e2, Nat.and_two_pow_sub_one_eq_mod]
  rw [this]
  have hw : ∀ m : Int, 0 ≤ m → m < 65536 → IntKind.u16.wrap m = m := fun m a b => by
    have : IntKind.u16.wrap m = m % 2 ^ 16 := by simp [IntKind.wrap, IntKind.bits, IntKind.signed]
    rw [this]
    omega
  rw [hw _ (by omega) (by omega)]
  omega
theorem shr_eq {c : Int} (hc : U16 c) : c.fdiv (2 ^ (min 4 IntKind.u16.bits)) = c / 16 := by
  show c.fdiv (2 ^ 4) = c / 16
  rw [Int.fdiv_eq_ediv_of_nonneg _ (by decide)]
  rfl
theorem strs_get (l : List (List UInt8)) (n : Nat) (hn : n < l.length) : takeAs none ((strs l).cells.drop n) = some (.str (sb (l.getD n []))) := by
  simp only [strs, AV.cells, takeAs, List.head?_drop, List.getElem?_map, List.getD]
  rw [List.getElem?_eq_getElem hn]; rfl
def sidedR (c : Int) : AV × AHeap :=
  if c % 16 = 4 then (.tup [.rp 0 0 0 0, .str (sb [46, 107]), .int .i64 1], [rowR]) else
  if c % 16 = 12 then (.tup [.rp 0 0 0 0, .str (sb [46, 120]), .int .i64 0], [rowR]) else
  if c % 16 = 5 then (.tup [.rp 0 0 0 0, .str (sb [46, 107]), .int .i64 5], [rowT]) else
  if c % 16 = 13 then (.tup [.rp 0 0 0 0, .str (sb [46, 120]), .int .i64 6], [rowT]) else
  (.tup [.nilp, .str (sb []), .int .i64 (-1)], [])
theorem sidedR_own (c : Int) : Own (sidedR c).2 (sidedR c).1 ∧ OwnH (sidedR c).2 := by
  have o3 : ∀ (o : AObj) (s : ByteArray) (n : Int), Own [o] (.tup [.rp 0 0 0 0, .str s, .int .i64 n]) := fun o s n => .tup _ fun x hx => by
    simp at hx
    rcases hx with rfl | rfl | rfl
    · exact .rp _ _ _ _ (by simp)
    · exact .solid _ (.str _)
    · exact .solid _ (.int _ _)
  unfold sidedR
  repeat' split
  all_goals first
    | exact ⟨o3 _ _ _, ownH_row _ _ _ (strs_solid _)⟩
    | exact ⟨own_solid (by simp [solid_tup, solid_nilp, solid_str, solid_int]), ownH_nil⟩
theorem k51 (c : Int) (hc : U16 c) : ACall PA 51 [.int .u16 c] [] (sidedR c).1 (sidedR c).2 := by
  refine ACall.ofS S1ok hmA h51 (by kernel_rfl) (Nat.le_of_ble_eq_true rfl) ((sidedR_own c).2) ((sidedR_own c).1) (aS_den ?_)
  simp only [WK, simprocAttr, c51, n51, S1, nib_eq hc]
  simp only [WK, simprocAttr, EW, r51, S1, nib_eq hc]
  simp +contextual [sidedR, List.idxOf]
end Go.Av

/- Contracts: names and forms, the tool's. -/
namespace Go.Av
open Go Go.Proofs
set_option maxRecDepth 100000
set_option maxHeartbeats 2000000
instance (c : Int) : Decidable (U16 c) := by unfold U16; infer_instance
def S2 : Spec := fun f args => match f, args with
  | 51, [.int .u16 c] => if U16 c then some (sidedR c) else none
  | f, args => S1 f args
theorem S2ok : SpecOK PA S2 := by
  refine ⟨fun f args r l h => ?_⟩
  unfold S2 at h
  split at h
  · split at h
    · rename_i c hc
      have e : sidedR c = (r, l) := by injection h
      have := k51 c hc
      have o := sidedR_own c
      rw [e] at this o
      exact ⟨this, by simp [bel_int], o.1, o.2⟩
    · cases h
  · exact S1ok.ok _ _ _ _ h
def pickN (l : List (List UInt8)) (c : Int) : List UInt8 := l.getD (c / 16).toNat []
def formK (c : Int) : Int :=
  if 0 ≤ (singleT c).2 ∨ 256 ≤ c then (singleT c).2 else
  if c % 16 = 4 then (if pickN reckT c = [] then -1 else 1) else
  if c % 16 = 12 then (if pickN reckT c = [] then -1 else 0) else
  if c % 16 = 5 then (if pickN testT c = [] then -1 else 5) else
  if c % 16 = 13 then (if pickN testT c = [] then -1 else 6) else -1
def nameK (c : Int) : List UInt8 × Bool :=
  if 0 ≤ (singleT c).2 ∨ 256 ≤ c then ((singleT c).1, decide (0 ≤ (singleT c).2)) else
  if c % 16 = 4 then (if pickN reckT c = [] then ([], false) else (pickN reckT c ++ [46, 107], true)) else
  if c % 16 = 12 then (if pickN reckT c = [] then ([], false) else (pickN reckT c ++ [46, 120], true)) else
  if c % 16 = 5 then (if pickN testT c = [] then ([], false) else (pickN testT c ++ [46, 107], true)) else
  if c % 16 = 13 then (if pickN testT c = [] then ([], false) else (pickN testT c ++ [46, 120], true)) else ([], false)
theorem pick_get (l : List (List UInt8)) (hl : l.length = 16) (c : Int) (h0 : 0 ≤ c) (h1 : c < 256) : (List.map (fun x => AV.str (sb x)) l)[(c / 16).toNat]? = some (.str (sb (pickN l c))) := by
  rw [List.getElem?_map, List.getElem?_eq_getElem (by omega)]
  simp only [pickN, List.getD]
  rw [List.getElem?_eq_getElem (by omega)]; rfl
theorem i64max : IntKind.i64.max = 9223372036854775807 := by decide
theorem pick_len (l : List (List UInt8)) (hl : l.all (fun x => decide (x.length ≤ 4)) = true) (c : Int) : ¬ (9223372036854775807 : Int) < ((pickN l c).length : Int) + 2 := by
  have : (pickN l c).length ≤ 4 := by
    unfold pickN
    rw [List.getD]
    cases h : l[(c / 16).toNat]? with
    | none => simp
    | some x =>
      rw [List.all_eq_true] at hl
      have := hl x (List.mem_of_getElem? h)
      simpa using this
  omega
theorem k18 (c : Int) (hc : U16 c) : ACall PA 18 [.int .u16 c] [] (.int .i64 (formK c)) [] := by
  refine ACall.ofS S2ok hmA h18 (by kernel_rfl) (Nat.le_of_ble_eq_true rfl) (ownH_nil) (own_solid (by simp [solid_int, solid_bool, solid_str, solid_agg, solid_tup, solid_nilsl, solid_nilp])) (aS_den ?_)
  by_cases a1 : 0 ≤ (singleT c).2
  · simp only [WK, simprocAttr, c18, n18, S2, S1, ge_iff_le, a1]
    simp only [WK, simprocAttr, EW, r18, S2, S1, ge_iff_le, a1]
    simp [formK, a1]
  · by_cases a2 : 256 ≤ c
    · simp only [WK, simprocAttr, c18, n18, S2, S1, ge_iff_le, a1, a2]
      simp only [WK, simprocAttr, EW, r18, S2, S1, ge_iff_le, a1, a2]
      simp [formK, a1, a2]
    · have b0 : 0 ≤ c / 16 := by have := hc.1; omega
      have b1 : c / 16 < 16 := by have := hc.1; omega
      have p1 := pick_get reckT rfl c hc.1 (by omega)
      have p2 := pick_get testT rfl c hc.1 (by omega)
      have q1 := pick_len reckT rfl c
      have q2 := pick_len testT rfl c
      by_cases a3 : c % 16 = 4
      · by_cases z : pickN reckT c = []
        · simp only [WK, simprocAttr, c18, n18, S2, S1, ge_iff_le, shr_eq hc, b0, b1, p1, p2, q1, q2, hc, sidedR, strs, List.head?_drop, a1, a2, a3, z]
          simp only [WK, simprocAttr, EW, r18, S2, S1, ge_iff_le, shr_eq hc, b0, b1, p1, p2, q1, q2, hc, sidedR, strs, List.head?_drop, a1, a2, a3, z]
          simp [formK, a1, a2, a3, z]
        · simp only [WK, simprocAttr, c18, n18, S2, S1, ge_iff_le, shr_eq hc, b0, b1, p1, p2, q1, q2, hc, sidedR, strs, List.head?_drop, a1, a2, a3, z]
          simp only [WK, simprocAttr, EW, r18, S2, S1, ge_iff_le, shr_eq hc, b0, b1, p1, p2, q1, q2, hc, sidedR, strs, List.head?_drop, a1, a2, a3, z]
          simp [formK, a1, a2, a3, z]
      · by_cases a4 : c % 16 = 12
        · by_cases z : pickN reckT c = []
          · simp only [WK, simprocAttr, c18, n18, S2, S1, ge_iff_le, shr_eq hc, b0, b1, p1, p2, q1, q2, hc, sidedR, strs, List.head?_drop, a1, a2, a3, a4, z]
            simp only [WK, simprocAttr, EW, r18, S2, S1, ge_iff_le, shr_eq hc, b0, b1, p1, p2, q1, q2, hc, sidedR, strs, List.head?_drop, a1, a2, a3, a4, z]
            simp [formK, a1, a2, a3, a4, z]
          · simp only [WK, simprocAttr, c18, n18, S2, S1, ge_iff_le, shr_eq hc, b0, b1, p1, p2, q1, q2, hc, sidedR, strs, List.head?_drop, a1, a2, a3, a4, z]
            simp only [WK, simprocAttr, EW, r18, S2, S1, ge_iff_le, shr_eq hc, b0, b1, p1, p2, q1, q2, hc, sidedR, strs, List.head?_drop, a1, a2, a3, a4, z]
            simp [formK, a1, a2, a3, a4, z]
        · by_cases a5 : c % 16 = 5
          · by_cases z : pickN testT c = []
            · simp only [WK, simprocAttr, c18, n18, S2, S1, ge_iff_le, shr_eq hc, b0, b1, p1, p2, q1, q2, hc, sidedR, strs, List.head?_drop, a1, a2, a3, a4, a5, z]
              simp only [WK, simprocAttr, EW, r18, S2, S1, ge_iff_le, shr_eq hc, b0, b1, p1, p2, q1, q2, hc, sidedR, strs, List.head?_drop, a1, a2, a3, a4, a5, z]
              simp [formK, a1, a2, a3, a4, a5, z]
            · simp only [WK, simprocAttr, c18, n18, S2, S1, ge_iff_le, shr_eq hc, b0, b1, p1, p2, q1, q2, hc, sidedR, strs, List.head?_drop, a1, a2, a3, a4, a5, z]
              simp only [WK, simprocAttr, EW, r18, S2, S1, ge_iff_le, shr_eq hc, b0, b1, p1, p2, q1, q2, hc, sidedR, strs, List.head?_drop, a1, a2, a3, a4, a5, z]
              simp [formK, a1, a2, a3, a4, a5, z]
          · by_cases a6 : c % 16 = 13
            · by_cases z : pickN testT c = []
              · simp only [WK, simprocAttr, c18, n18, S2, S1, ge_iff_le, shr_eq hc, b0, b1, p1, p2, q1, q2, hc, sidedR, strs, List.head?_drop, a1, a2, a3, a4, a5, a6, z]
                simp only [WK, simprocAttr, EW, r18, S2, S1, ge_iff_le, shr_eq hc, b0, b1, p1, p2, q1, q2, hc, sidedR, strs, List.head?_drop, a1, a2, a3, a4, a5, a6, z]
                simp [formK, a1, a2, a3, a4, a5, a6, z]
              · simp only [WK, simprocAttr, c18, n18, S2, S1, ge_iff_le, shr_eq hc, b0, b1, p1, p2, q1, q2, hc, sidedR, strs, List.head?_drop, a1, a2, a3, a4, a5, a6, z]
                simp only [WK, simprocAttr, EW, r18, S2, S1, ge_iff_le, shr_eq hc, b0, b1, p1, p2, q1, q2, hc, sidedR, strs, List.head?_drop, a1, a2, a3, a4, a5, a6, z]
                simp [formK, a1, a2, a3, a4, a5, a6, z]
            · simp only [WK, simprocAttr, c18, n18, S2, S1, ge_iff_le, shr_eq hc, b0, b1, p1, p2, q1, q2, hc, sidedR, strs, List.head?_drop, a1, a2, a3, a4, a5, a6]
              simp only [WK, simprocAttr, EW, r18, S2, S1, ge_iff_le, shr_eq hc, b0, b1, p1, p2, q1, q2, hc, sidedR, strs, List.head?_drop, a1, a2, a3, a4, a5, a6]
              simp [formK, a1, a2, a3, a4, a5, a6]
theorem k17 (c : Int) (hc : U16 c) : ACall PA 17 [.int .u16 c] [] (.tup [.str (sb (nameK c).1), .bool (nameK c).2]) [] := by
  refine ACall.ofS S2ok hmA h17 (by kernel_rfl) (Nat.le_of_ble_eq_true rfl) (ownH_nil) (own_solid (by simp [solid_int, solid_bool, solid_str, solid_agg, solid_tup, solid_nilsl, solid_nilp])) (aS_den ?_)
  by_cases a1 : 0 ≤ (singleT c).2
  · simp only [WK, simprocAttr, c17, n17, S2, S1, ge_iff_le, a1]
    simp only [WK, simprocAttr, EW, r17, S2, S1, ge_iff_le, a1]
    simp [nameK, a1]
  · by_cases a2 : 256 ≤ c
    · simp only [WK, simprocAttr, c17, n17, S2, S1, ge_iff_le, a1, a2]
      simp only [WK, simprocAttr, EW, r17, S2, S1, ge_iff_le, a1, a2]
      simp [nameK, a1, a2]
    · have b0 : 0 ≤ c / 16 := by have := hc.1; omega
      have b1 : c / 16 < 16 := by have := hc.1; omega
      have p1 := pick_get reckT rfl c hc.1 (by omega)
      have p2 := pick_get testT rfl c hc.1 (by omega)
      have q1 := pick_len reckT rfl c
      have q2 := pick_len testT rfl c
      by_cases a3 : c % 16 = 4
      · by_cases z : pickN reckT c = []
        · simp only [WK, simprocAttr, c17, n17, S2, S1, ge_iff_le, shr_eq hc, b0, b1, p1, p2, q1, q2, hc, sidedR, strs, List.head?_drop, a1, a2, a3, z]
          simp only [WK, simprocAttr, EW, r17, S2, S1, ge_iff_le, shr_eq hc, b0, b1, p1, p2, q1, q2, hc, sidedR, strs, List.head?_drop, a1, a2, a3, z]
          simp [nameK, a1, a2, a3, z]
        · simp only [WK, simprocAttr, c17, n17, S2, S1, ge_iff_le, shr_eq hc, b0, b1, p1, p2, hc, sidedR, strs, List.head?_drop, a1, a2, a3, z]
          rw [if_neg (by have := i64max; omega)]
          simp only [WK, simprocAttr, c17, n17, S2, S1, ge_iff_le, shr_eq hc, b0, b1, p1, p2, q1, q2, hc, sidedR, strs, List.head?_drop, a1, a2, a3, z]
          simp only [WK, simprocAttr, EW, r17, S2, S1, ge_iff_le, shr_eq hc, b0, b1, p1, p2, q1, q2, hc, sidedR, strs, List.head?_drop, a1, a2, a3, z]
          simp [nameK, a1, a2, a3, z]
      · by_cases a4 : c % 16 = 12
        · by_cases z : pickN reckT c = []
          · simp only [WK, simprocAttr, c17, n17, S2, S1, ge_iff_le, shr_eq hc, b0, b1, p1, p2, q1, q2, hc, sidedR, strs, List.head?_drop, a1, a2, a3, a4, z]
            simp only [WK, simprocAttr, EW, r17, S2, S1, ge_iff_le, shr_eq hc, b0, b1, p1, p2, q1, q2, hc, sidedR, strs, List.head?_drop, a1, a2, a3, a4, z]
            simp [nameK, a1, a2, a3, a4, z]
          · simp only [WK, simprocAttr, c17, n17, S2, S1, ge_iff_le, shr_eq hc, b0, b1, p1, p2, hc, sidedR, strs, List.head?_drop, a1, a2, a3, a4, z]
            rw [if_neg (by have := i64max; omega)]
            simp only [WK, simprocAttr, c17, n17, S2, S1, ge_iff_le, shr_eq hc, b0, b1, p1, p2, q1, q2, hc, sidedR, strs, List.head?_drop, a1, a2, a3, a4, z]
            simp only [WK, simprocAttr, EW, r17, S2, S1, ge_iff_le, shr_eq hc, b0, b1, p1, p2, q1, q2, hc, sidedR, strs, List.head?_drop, a1, a2, a3, a4, z]
            simp [nameK, a1, a2, a3, a4, z]
        · by_cases a5 : c % 16 = 5
          · by_cases z : pickN testT c = []
            · simp only [WK, simprocAttr, c17, n17, S2, S1, ge_iff_le, shr_eq hc, b0, b1, p1, p2, q1, q2, hc, sidedR, strs, List.head?_drop, a1, a2, a3, a4, a5, z]
              simp only [WK, simprocAttr, EW, r17, S2, S1, ge_iff_le, shr_eq hc, b0, b1, p1, p2, q1, q2, hc, sidedR, strs, List.head?_drop, a1, a2, a3, a4, a5, z]
              simp [nameK, a1, a2, a3, a4, a5, z]
            · simp only [WK, simprocAttr, c17, n17, S2, S1, ge_iff_le, shr_eq hc, b0, b1, p1, p2, hc, sidedR, strs, List.head?_drop, a1, a2, a3, a4, a5, z]
              rw [if_neg (by have := i64max; omega)]
              simp only [WK, simprocAttr, c17, n17, S2, S1, ge_iff_le, shr_eq hc, b0, b1, p1, p2, q1, q2, hc, sidedR, strs, List.head?_drop, a1, a2, a3, a4, a5, z]
              simp only [WK, simprocAttr, EW, r17, S2, S1, ge_iff_le, shr_eq hc, b0, b1, p1, p2, q1, q2, hc, sidedR, strs, List.head?_drop, a1, a2, a3, a4, a5, z]
              simp [nameK, a1, a2, a3, a4, a5, z]
          · by_cases a6 : c % 16 = 13
            · by_cases z : pickN testT c = []
              · simp only [WK, simprocAttr, c17, n17, S2, S1, ge_iff_le, shr_eq hc, b0, b1, p1, p2, q1, q2, hc, sidedR, strs, List.head?_drop, a1, a2, a3, a4, a5, a6, z]
                simp only [WK, simprocAttr, EW, r17, S2, S1, ge_iff_le, shr_eq hc, b0, b1, p1, p2, q1, q2, hc, sidedR, strs, List.head?_drop, a1, a2, a3, a4, a5, a6, z]
                simp [nameK, a1, a2, a3, a4, a5, a6, z]
              · simp only [WK, simprocAttr, c17, n17, S2, S1, ge_iff_le, shr_eq hc, b0, b1, p1, p2, hc, sidedR, strs, List.head?_drop, a1, a2, a3, a4, a5, a6, z]
                rw [if_neg (by have := i64max; omega)]
                simp only [WK, simprocAttr, c17, n17, S2, S1, ge_iff_le, shr_eq hc, b0, b1, p1, p2, q1, q2, hc, sidedR, strs, List.head?_drop, a1, a2, a3, a4, a5, a6, z]
                simp only [WK, simprocAttr, EW, r17, S2, S1, ge_iff_le, shr_eq hc, b0, b1, p1, p2, q1, q2, hc, sidedR, strs, List.head?_drop, a1, a2, a3, a4, a5, a6, z]
                simp [nameK, a1, a2, a3, a4, a5, a6, z]
            · simp only [WK, simprocAttr, c17, n17, S2, S1, ge_iff_le, shr_eq hc, b0, b1, p1, p2, q1, q2, hc, sidedR, strs, List.head?_drop, a1, a2, a3, a4, a5, a6]
              simp only [WK, simprocAttr, EW, r17, S2, S1, ge_iff_le, shr_eq hc, b0, b1, p1, p2, q1, q2, hc, sidedR, strs, List.head?_drop, a1, a2, a3, a4, a5, a6]
              simp [nameK, a1, a2, a3, a4, a5, a6]
end Go.Av

/- Contracts: names and forms, the reference's. -/
namespace Go.Av
open Go Go.Proofs
set_option maxRecDepth 100000
set_option maxHeartbeats 2000000
def S3 : Spec := fun f args => match f, args with
  | 18, [.int .u16 c] => if U16 c then some (.int .i64 (formK c), []) else none
  | 17, [.int .u16 c] => if U16 c then some (.tup [.str (sb (nameK c).1), .bool (nameK c).2], []) else none
  | f, args => S2 f args
theorem S3ok : SpecOK PA S3 := by
  refine ⟨fun f args r l h => ?_⟩
  unfold S3 at h
  split at h
  · split at h
    · rename_i c hc; cases h; exact ⟨k18 _ hc, by simp [bel_int], own_solid (by simp [solid_int]), ownH_nil⟩
    · cases h
  · split at h
    · rename_i c hc; cases h; exact ⟨k17 _ hc, by simp [bel_int], own_solid (by simp [solid_tup, solid_bool, solid_str]), ownH_nil⟩
    · cases h
  · exact S2ok.ok _ _ _ _ h
def U8 (c : Int) : Prop := 0 ≤ c ∧ c < 256
instance (c : Int) : Decidable (U8 c) := by unfold U8; infer_instance
theorem U8.u16 {c : Int} (h : U8 c) : U16 c := ⟨h.1, by have := h.2; omega⟩
theorem tmod_eq {c : Int} (h : U8 c) : c.tmod 16 = c % 16 := Int.tmod_eq_emod_of_nonneg h.1
theorem lit_reck (c : Int) (h : U8 c) : ([AV.str (sb [97, 100, 100]), AV.str (sb [115, 117, 98]), AV.str (sb [109, 117, 108]), AV.str (sb [100, 105, 118]), AV.str (sb [111, 114]), AV.str (sb [97, 110, 100]), AV.str (sb [108, 115, 104]), AV.str (sb [114, 115, 104]), AV.str (sb []), AV.str (sb []), AV.str (sb [120, 111, 114]), AV.str (sb []), AV.str (sb []), AV.str (sb []), AV.str (sb []), AV.str (sb [])] : List AV)[(c / 16).toNat]? = some (.str (sb (pickN reckT c))) := pick_get reckT rfl c h.1 h.2
def tst5 : List (List UInt8) := [[], [106, 101, 113], [106, 103, 116], [106, 103, 101], [106, 115, 101, 116]]
def pick5 (c : Int) : List UInt8 := tst5.getD (c / 16).toNat []
theorem lit_five (c : Int) (h1 : 1 ≤ c / 16) (h2 : c / 16 ≤ 4) : ([AV.str (sb []), AV.str (sb [106, 101, 113]), AV.str (sb [106, 103, 116]), AV.str (sb [106, 103, 101]), AV.str (sb [106, 115, 101, 116])] : List AV)[(c / 16).toNat]? = some (.str (sb (pick5 c))) := by
  have : c / 16 = 1 ∨ c / 16 = 2 ∨ c / 16 = 3 ∨ c / 16 = 4 := by omega
  rcases this with e | e | e | e <;> simp [e, pick5, tst5]
theorem pick5_len (c : Int) : (pick5 c).length ≤ 4 := by
  unfold pick5
  rw [List.getD]
  cases h : tst5[(c / 16).toNat]? with
  | none => simp
  | some x =>
    have hl : tst5.all (fun x => decide (x.length ≤ 4)) = true := by decide
    rw [List.all_eq_true] at hl
    have := hl x (List.mem_of_getElem? h)
    simpa using this
theorem pickR_len (c : Int) : (pickN reckT c).length ≤ 4 := by
  have := pick_len reckT rfl c
  unfold pickN
  rw [List.getD]
  cases h : reckT[(c / 16).toNat]? with
  | none => simp
  | some x =>
    have hl : reckT.all (fun x => decide (x.length ≤ 4)) = true := by decide
    rw [List.all_eq_true] at hl
    have := hl x (List.mem_of_getElem? h)
    simpa using this
def namedRest (c : Int) : List UInt8 × Int :=
  if c % 16 = 4 ∧ pickN reckT c ≠ [] then (pickN reckT c ++ [46, 107], 1) else
  if c % 16 = 12 ∧ pickN reckT c ≠ [] then (pickN reckT c ++ [46, 120], 0) else
  if c % 16 = 5 ∧ 1 ≤ c / 16 ∧ c / 16 ≤ 4 then (pick5 c ++ [46, 107], 5) else
  if c % 16 = 13 ∧ 1 ≤ c / 16 ∧ c / 16 ≤ 4 then (pick5 c ++ [46, 120], 6) else ([], -1)
def namedR (c : Int) : List UInt8 × Int :=
  if c = 32 then ([108, 100, 46, 97, 98, 115], 2) else
  if c = 128 then ([108, 100, 46, 108, 101, 110], 0) else
  if c = 129 then ([108, 100, 120, 46, 108, 101, 110], 0) else
  if c = 22 then ([114, 101, 116, 46, 97], 0) else
  if c = 132 then ([110, 101, 103], 0) else
  if c = 7 then ([116, 97, 120], 0) else
  if c = 135 then ([116, 120, 97], 0) else
  if c = 6 then ([114, 101, 116, 46, 107], 1) else
  if c = 0 then ([108, 100, 46, 105, 109, 109], 1) else
  if c = 1 then ([108, 100, 120, 46, 105, 109, 109], 1) else
  if c = 96 then ([108, 100, 46, 109, 101, 109], 3) else
  if c = 97 then ([108, 100, 120, 46, 109, 101, 109], 3) else
  if c = 2 then ([115, 116], 3) else
  if c = 3 then ([115, 116, 120], 3) else
  if c = 5 then ([106, 97], 4) else
  namedRest c
theorem k72 (c : Int) (hc : U8 c) : ACall PA 72 [.int .u16 c] [] (.str (sb (pickN reckT c))) [] := by
  refine ACall.ofS S3ok hmA h72 (by kernel_rfl) (Nat.le_of_ble_eq_true rfl) (ownH_nil) (own_solid (by simp [solid_int, solid_bool, solid_str, solid_agg, solid_tup, solid_nilsl, solid_nilp])) (aS_den ?_)
  have b0 : 0 ≤ c / 16 := by have := hc.1; omega
  have b1 : c / 16 < 16 := by have := hc.2; omega
  simp only [WK, simprocAttr, c72, n72, S3, S2, S1, shr_eq hc.u16, b0, b1, List.head?_drop, lit_reck c hc]
  simp only [WK, simprocAttr, EW, r72, S3, S2, S1, shr_eq hc.u16, b0, b1, List.head?_drop, lit_reck c hc]
def S4 : Spec := fun f args => match f, args with
  | 72, [.int .u16 c] => if U8 c then some (.str (sb (pickN reckT c)), []) else none
  | f, args => S3 f args
theorem S4ok : SpecOK PA S4 := by
  refine ⟨fun f args r l h => ?_⟩
  unfold S4 at h
  split at h
  · split at h
    · rename_i c hc; cases h; exact ⟨k72 _ hc, by simp [bel_int], own_solid (by simp [solid_str]), ownH_nil⟩
    · cases h
  · exact S3ok.ok _ _ _ _ h
theorem k49 (c : Int) (hc : U8 c) : ACall PA 49 [.int .u16 c] [] (.tup [.str (sb (namedR c).1), .int .i64 (namedR c).2]) [] := by
  refine ACall.ofS S4ok hmA h49 (by kernel_rfl) (Nat.le_of_ble_eq_true rfl) (ownH_nil) (own_solid (by simp [solid_int, solid_bool, solid_str, solid_agg, solid_tup, solid_nilsl, solid_nilp])) (aS_den ?_)
  by_cases e32 : c = 32
  · subst e32
    simp only [WK, simprocAttr, c49, n49, S4, S3, S2, S1]
    simp only [WK, simprocAttr, EW, r49, S4, S3, S2, S1]
    simp [namedR]
  · by_cases e128 : c = 128
    · subst e128
      simp only [WK, simprocAttr, c49, n49, S4, S3, S2, S1]
      simp only [WK, simprocAttr, EW, r49, S4, S3, S2, S1]
      simp [namedR]
    · by_cases e129 : c = 129
      · subst e129
        simp only [WK, simprocAttr, c49, n49, S4, S3, S2, S1]
        simp only [WK, simprocAttr, EW, r49, S4, S3, S2, S1]
        simp [namedR]
      · by_cases e22 : c = 22
        · subst e22
          simp only [WK, simprocAttr, c49, n49, S4, S3, S2, S1]
          simp only [WK, simprocAttr, EW, r49, S4, S3, S2, S1]
          simp [namedR]
        · by_cases e132 : c = 132
          · subst e132
            simp only [WK, simprocAttr, c49, n49, S4, S3, S2, S1]
            simp only [WK, simprocAttr, EW, r49, S4, S3, S2, S1]
            simp [namedR]
          · by_cases e7 : c = 7
            · subst e7
              simp only [WK, simprocAttr, c49, n49, S4, S3, S2, S1]
              simp only [WK, simprocAttr, EW, r49, S4, S3, S2, S1]
              simp [namedR]
            · by_cases e135 : c = 135
              · subst e135
                simp only [WK, simprocAttr, c49, n49, S4, S3, S2, S1]
                simp only [WK, simprocAttr, EW, r49, S4, S3, S2, S1]
                simp [namedR]
              · by_cases e6 : c = 6
                · subst e6
                  simp only [WK, simprocAttr, c49, n49, S4, S3, S2, S1]
                  simp only [WK, simprocAttr, EW, r49, S4, S3, S2, S1]
                  simp [namedR]
                · by_cases e0 : c = 0
                  · subst e0
                    simp only [WK, simprocAttr, c49, n49, S4, S3, S2, S1]
                    simp only [WK, simprocAttr, EW, r49, S4, S3, S2, S1]
                    simp [namedR]
                  · by_cases e1 : c = 1
                    · subst e1
                      simp only [WK, simprocAttr, c49, n49, S4, S3, S2, S1]
                      simp only [WK, simprocAttr, EW, r49, S4, S3, S2, S1]
                      simp [namedR]
                    · by_cases e96 : c = 96
                      · subst e96
                        simp only [WK, simprocAttr, c49, n49, S4, S3, S2, S1]
                        simp only [WK, simprocAttr, EW, r49, S4, S3, S2, S1]
                        simp [namedR]
                      · by_cases e97 : c = 97
                        · subst e97
                          simp only [WK, simprocAttr, c49, n49, S4, S3, S2, S1]
                          simp only [WK, simprocAttr, EW, r49, S4, S3, S2, S1]
                          simp [namedR]
                        · by_cases e2 : c = 2
                          · subst e2
                            simp only [WK, simprocAttr, c49, n49, S4, S3, S2, S1]
                            simp only [WK, simprocAttr, EW, r49, S4, S3, S2, S1]
                            simp [namedR]
                          · by_cases e3 : c = 3
                            · subst e3
                              simp only [WK, simprocAttr, c49, n49, S4, S3, S2, S1]
                              simp only [WK, simprocAttr, EW, r49, S4, S3, S2, S1]
                              simp [namedR]
                            · by_cases e5 : c = 5
                              · subst e5
                                simp only [WK, simprocAttr, c49, n49, S4, S3, S2, S1]
                                simp only [WK, simprocAttr, EW, r49, S4, S3, S2, S1]
                                simp [namedR]
                              · have b0 : 0 ≤ c / 16 := by have := hc.1; omega
                                by_cases a3 : c % 16 = 4
                                · by_cases z : pickN reckT c = []
                                  · simp only [WK, simprocAttr, c49, n49, S4, S3, S2, S1, ge_iff_le, shr_eq hc.u16, tmod_eq hc, hc, List.head?_drop, e32, e128, e129, e22, e132, e7, e135, e6, e0, e1, e96, e97, e2, e3, e5, a3, z]
                                    simp only [WK, simprocAttr, EW, r49, S4, S3, S2, S1, ge_iff_le, shr_eq hc.u16, tmod_eq hc, hc, List.head?_drop, e32, e128, e129, e22, e132, e7, e135, e6, e0, e1, e96, e97, e2, e3, e5, a3, z]
                                    simp [namedR, namedRest, e32, e128, e129, e22, e132, e7, e135, e6, e0, e1, e96, e97, e2, e3, e5, a3, z]
                                  · simp only [WK, simprocAttr, c49, n49, S4, S3, S2, S1, ge_iff_le, shr_eq hc.u16, tmod_eq hc, hc, List.head?_drop, e32, e128, e129, e22, e132, e7, e135, e6, e0, e1, e96, e97, e2, e3, e5, a3, z]
                                    rw [if_neg (by have := i64max; have := pickR_len c; omega)]
                                    simp only [WK, simprocAttr, c49, n49, S4, S3, S2, S1, ge_iff_le, shr_eq hc.u16, tmod_eq hc, hc, List.head?_drop, e32, e128, e129, e22, e132, e7, e135, e6, e0, e1, e96, e97, e2, e3, e5, a3, z]
                                    simp only [WK, simprocAttr, EW, r49, S4, S3, S2, S1, ge_iff_le, shr_eq hc.u16, tmod_eq hc, hc, List.head?_drop, e32, e128, e129, e22, e132, e7, e135, e6, e0, e1, e96, e97, e2, e3, e5, a3, z]
                                    simp [namedR, namedRest, e32, e128, e129, e22, e132, e7, e135, e6, e0, e1, e96, e97, e2, e3, e5, a3, z]
                                · by_cases a4 : c % 16 = 12
                                  · by_cases z : pickN reckT c = []
                                    · simp only [WK, simprocAttr, c49, n49, S4, S3, S2, S1, ge_iff_le, shr_eq hc.u16, tmod_eq hc, hc, List.head?_drop, e32, e128, e129, e22, e132, e7, e135, e6, e0, e1, e96, e97, e2, e3, e5, a3, a4, z]
                                      simp only [WK, simprocAttr, EW, r49, S4, S3, S2, S1, ge_iff_le, shr_eq hc.u16, tmod_eq hc, hc, List.head?_drop, e32, e128, e129, e22, e132, e7, e135, e6, e0, e1, e96, e97, e2, e3, e5, a3, a4, z]
                                      simp [namedR, namedRest, e32, e128, e129, e22, e132, e7, e135, e6, e0, e1, e96, e97, e2, e3, e5, a3, a4, z]
                                    · simp only [WK, simprocAttr, c49, n49, S4, S3, S2, S1, ge_iff_le, shr_eq hc.u16, tmod_eq hc, hc, List.head?_drop, e32, e128, e129, e22, e132, e7, e135, e6, e0, e1, e96, e97, e2, e3, e5, a3, a4, z]
                                      rw [if_neg (by have := i64max; have := pickR_len c; omega)]
                                      simp only [WK, simprocAttr, c49, n49, S4, S3, S2, S1, ge_iff_le, shr_eq hc.u16, tmod_eq hc, hc, List.head?_drop, e32, e128, e129, e22, e132, e7, e135, e6, e0, e1, e96, e97, e2, e3, e5, a3, a4, z]
                                      simp only [WK, simprocAttr, EW, r49, S4, S3, S2, S1, ge_iff_le, shr_eq hc.u16, tmod_eq hc, hc, List.head?_drop, e32, e128, e129, e22, e132, e7, e135, e6, e0, e1, e96, e97, e2, e3, e5, a3, a4, z]
                                      simp [namedR, namedRest, e32, e128, e129, e22, e132, e7, e135, e6, e0, e1, e96, e97, e2, e3, e5, a3, a4, z]
                                  · by_cases a5 : c % 16 = 5
                                    · by_cases y : 1 ≤ c / 16
                                      · by_cases x : c / 16 ≤ 4
                                        · have l5 := lit_five c y x
                                          have b5 : c / 16 < 5 := by omega
                                          simp only [WK, simprocAttr, c49, n49, S4, S3, S2, S1, ge_iff_le, shr_eq hc.u16, tmod_eq hc, hc, List.head?_drop, e32, e128, e129, e22, e132, e7, e135, e6, e0, e1, e96, e97, e2, e3, e5, a3, a4, a5, y, x, l5, b0, b5]
                                          rw [if_neg (by have := i64max; have := pick5_len c; omega)]
                                          simp only [WK, simprocAttr, c49, n49, S4, S3, S2, S1, ge_iff_le, shr_eq hc.u16, tmod_eq hc, hc, List.head?_drop, e32, e128, e129, e22, e132, e7, e135, e6, e0, e1, e96, e97, e2, e3, e5, a3, a4, a5, y, x, l5, b0, b5]
                                          simp only [WK, simprocAttr, EW, r49, S4, S3, S2, S1, ge_iff_le, shr_eq hc.u16, tmod_eq hc, hc, List.head?_drop, e32, e128, e129, e22, e132, e7, e135, e6, e0, e1, e96, e97, e2, e3, e5, a3, a4, a5, y, x, l5, b0, b5]
                                          simp [namedR, namedRest, e32, e128, e129, e22, e132, e7, e135, e6, e0, e1, e96, e97, e2, e3, e5, a3, a4, a5, y, x]
                                        · simp only [WK, simprocAttr, c49, n49, S4, S3, S2, S1, ge_iff_le, shr_eq hc.u16, tmod_eq hc, hc, List.head?_drop, e32, e128, e129, e22, e132, e7, e135, e6, e0, e1, e96, e97, e2, e3, e5, a3, a4, a5, y, x]
                                          simp only [WK, simprocAttr, EW, r49, S4, S3, S2, S1, ge_iff_le, shr_eq hc.u16, tmod_eq hc, hc, List.head?_drop, e32, e128, e129, e22, e132, e7, e135, e6, e0, e1, e96, e97, e2, e3, e5, a3, a4, a5, y, x]
                                          simp [namedR, namedRest, e32, e128, e129, e22, e132, e7, e135, e6, e0, e1, e96, e97, e2, e3, e5, a3, a4, a5, y, x]
                                      · simp only [WK, simprocAttr, c49, n49, S4, S3, S2, S1, ge_iff_le, shr_eq hc.u16, tmod_eq hc, hc, List.head?_drop, e32, e128, e129, e22, e132, e7, e135, e6, e0, e1, e96, e97, e2, e3, e5, a3, a4, a5, y]
                                        simp only [WK, simprocAttr, EW, r49, S4, S3, S2, S1, ge_iff_le, shr_eq hc.u16, tmod_eq hc, hc, List.head?_drop, e32, e128, e129, e22, e132, e7, e135, e6, e0, e1, e96, e97, e2, e3, e5, a3, a4, a5, y]
                                        simp [namedR, namedRest, e32, e128, e129, e22, e132, e7, e135, e6, e0, e1, e96, e97, e2, e3, e5, a3, a4, a5, y]
                                    · by_cases a6 : c % 16 = 13
                                      · by_cases y : 1 ≤ c / 16
                                        · by_cases x : c / 16 ≤ 4
                                          · have l5 := lit_five c y x
                                            have b5 : c / 16 < 5 := by omega
                                            simp only [WK, simprocAttr, c49, n49, S4, S3, S2, S1, ge_iff_le, shr_eq hc.u16, tmod_eq hc, hc, List.head?_drop, e32, e128, e129, e22, e132, e7, e135, e6, e0, e1, e96, e97, e2, e3, e5, a3, a4, a5, a6, y, x, l5, b0, b5]
                                            rw [if_neg (by have := i64max; have := pick5_len c; omega)]
                                            simp only [WK, simprocAttr, c49, n49, S4, S3, S2, S1, ge_iff_le, shr_eq hc.u16, tmod_eq hc, hc, List.head?_drop, e32, e128, e129, e22, e132, e7, e135, e6, e0, e1, e96, e97, e2, e3, e5, a3, a4, a5, a6, y, x, l5, b0, b5]
                                            simp only [WK, simprocAttr, EW, r49, S4, S3, S2, S1, ge_iff_le, shr_eq hc.u16, tmod_eq hc, hc, List.head?_drop, e32, e128, e129, e22, e132, e7, e135, e6, e0, e1, e96, e97, e2, e3, e5, a3, a4, a5, a6, y, x, l5, b0, b5]
                                            simp [namedR, namedRest, e32, e128, e129, e22, e132, e7, e135, e6, e0, e1, e96, e97, e2, e3, e5, a3, a4, a5, a6, y, x]
                                          · simp only [WK, simprocAttr, c49, n49, S4, S3, S2, S1, ge_iff_le, shr_eq hc.u16, tmod_eq hc, hc, List.head?_drop, e32, e128, e129, e22, e132, e7, e135, e6, e0, e1, e96, e97, e2, e3, e5, a3, a4, a5, a6, y, x]
                                            simp only [WK, simprocAttr, EW, r49, S4, S3, S2, S1, ge_iff_le, shr_eq hc.u16, tmod_eq hc, hc, List.head?_drop, e32, e128, e129, e22, e132, e7, e135, e6, e0, e1, e96, e97, e2, e3, e5, a3, a4, a5, a6, y, x]
                                            simp [namedR, namedRest, e32, e128, e129, e22, e132, e7, e135, e6, e0, e1, e96, e97, e2, e3, e5, a3, a4, a5, a6, y, x]
                                        · simp only [WK, simprocAttr, c49, n49, S4, S3, S2, S1, ge_iff_le, shr_eq hc.u16, tmod_eq hc, hc, List.head?_drop, e32, e128, e129, e22, e132, e7, e135, e6, e0, e1, e96, e97, e2, e3, e5, a3, a4, a5, a6, y]
                                          simp only [WK, simprocAttr, EW, r49, S4, S3, S2, S1, ge_iff_le, shr_eq hc.u16, tmod_eq hc, hc, List.head?_drop, e32, e128, e129, e22, e132, e7, e135, e6, e0, e1, e96, e97, e2, e3, e5, a3, a4, a5, a6, y]
                                          simp [namedR, namedRest, e32, e128, e129, e22, e132, e7, e135, e6, e0, e1, e96, e97, e2, e3, e5, a3, a4, a5, a6, y]
                                      · simp only [WK, simprocAttr, c49, n49, S4, S3, S2, S1, ge_iff_le, shr_eq hc.u16, tmod_eq hc, hc, List.head?_drop, e32, e128, e129, e22, e132, e7, e135, e6, e0, e1, e96, e97, e2, e3, e5, a3, a4, a5, a6]
                                        simp only [WK, simprocAttr, EW, r49, S4, S3, S2, S1, ge_iff_le, shr_eq hc.u16, tmod_eq hc, hc, List.head?_drop, e32, e128, e129, e22, e132, e7, e135, e6, e0, e1, e96, e97, e2, e3, e5, a3, a4, a5, a6]
                                        simp [namedR, namedRest, e32, e128, e129, e22, e132, e7, e135, e6, e0, e1, e96, e97, e2, e3, e5, a3, a4, a5, a6]
end Go.Av

/- Contracts: the reference's Name and Form, what returns, what lies behind. -/
namespace Go.Av
open Go Go.Proofs
set_option maxRecDepth 100000
set_option maxHeartbeats 2000000
def S5 : Spec := fun f args => match f, args with
  | 49, [.int .u16 c] => if U8 c then some ((.tup [.str (sb (namedR c).1), .int .i64 (namedR c).2]), []) else none
  | f, args => S4 f args
theorem S5ok : SpecOK PA S5 := by
  refine ⟨fun f args r l h => ?_⟩
  unfold S5 at h
  split at h
  · split at h
    · rename_i hc; cases h; exact ⟨k49 _ hc, by simp [bel_int, bel_agg, bel_sl, bel_str], own_solid (by simp [solid_int, solid_bool, solid_str, solid_agg, solid_tup, solid_nilsl]), ownH_nil⟩
    · cases h
  · exact S4ok.ok _ _ _ _ h
theorem wrI64 {m : Int} (h0 : -9223372036854775808 ≤ m) (h1 : m ≤ 9223372036854775807) : IntKind.i64.wrap m = m := by
  rw [IntKind.wrap_i64]
  omega
theorem wrU {k : IntKind} (hs : k.signed = false) {m : Int} (h0 : 0 ≤ m) (h1 : m < 2 ^ k.bits) : k.wrap m = m := by
  have : k.wrap m = m % 2 ^ k.bits := by simp [IntKind.wrap, hs]
  rw [this, Int.emod_eq_of_lt h0 h1]
theorem wrU64 {m : Int} (h0 : 0 ≤ m) (h1 : m < 18446744073709551616) : IntKind.u64.wrap m = m := wrU rfl h0 h1
theorem wrU32 {m : Int} (h0 : 0 ≤ m) (h1 : m < 4294967296) : IntKind.u32.wrap m = m := wrU rfl h0 h1
theorem wrU16 {m : Int} (h0 : 0 ≤ m) (h1 : m < 65536) : IntKind.u16.wrap m = m := wrU rfl h0 h1
theorem wrU8 {m : Int} (h0 : 0 ≤ m) (h1 : m < 256) : IntKind.u8.wrap m = m := wrU rfl h0 h1
def refNameN (c : Int) : List UInt8 := if 255 < c then [] else (namedR c).1
def refForm (c : Int) : Int := if 255 < c then -1 else (namedR c).2
theorem k15 (c : Int) (hc : U16 c) : ACall PA 15 [.int .u16 c] [] (.tup [.str (sb (refNameN c)), .bool (decide (refNameN c ≠ []))]) [] := by
  refine ACall.ofS S5ok hmA h15 (by kernel_rfl) (Nat.le_of_ble_eq_true rfl) (ownH_nil) (own_solid (by simp [solid_int, solid_bool, solid_str, solid_agg, solid_tup, solid_nilsl, solid_nilp])) (aS_den ?_)
  by_cases a1 : 255 < c
  · simp only [WK, simprocAttr, c15, n15, S5, S4, S3, S2, S1, gt_iff_lt, a1]
    simp only [WK, simprocAttr, EW, r15, S5, S4, S3, S2, S1, gt_iff_lt, a1]
    simp [refNameN, refForm, a1]
  · have h8 : U8 c := ⟨hc.1, by omega⟩
    simp only [WK, simprocAttr, c15, n15, S5, S4, S3, S2, S1, gt_iff_lt, a1, h8]
    simp only [WK, simprocAttr, EW, r15, S5, S4, S3, S2, S1, gt_iff_lt, a1, h8]
    simp [refNameN, refForm, a1]
theorem k19 (c : Int) (hc : U16 c) : ACall PA 19 [.int .u16 c] [] (.int .i64 (refForm c)) [] := by
  refine ACall.ofS S5ok hmA h19 (by kernel_rfl) (Nat.le_of_ble_eq_true rfl) (ownH_nil) (own_solid (by simp [solid_int, solid_bool, solid_str, solid_agg, solid_tup, solid_nilsl, solid_nilp])) (aS_den ?_)
  by_cases a1 : 255 < c
  · simp only [WK, simprocAttr, c19, n19, S5, S4, S3, S2, S1, gt_iff_lt, a1]
    simp only [WK, simprocAttr, EW, r19, S5, S4, S3, S2, S1, gt_iff_lt, a1]
    simp [refNameN, refForm, a1]
  · have h8 : U8 c := ⟨hc.1, by omega⟩
    simp only [WK, simprocAttr, c19, n19, S5, S4, S3, S2, S1, gt_iff_lt, a1, h8]
    simp only [WK, simprocAttr, EW, r19, S5, S4, S3, S2, S1, gt_iff_lt, a1, h8]
    simp [refNameN, refForm, a1]
def inV (c a b k : Int) : AV := .agg [.int .u16 c, .int .u8 a, .int .u8 b, .int .u32 k]
theorem k52 (c a b k : Int) : ACall PA 52 [inV c a b k] [] (.bool (decide (c = 6 ∨ c = 22))) [] := by
  refine ACall.ofS S5ok hmA h52 (by kernel_rfl) (Nat.le_of_ble_eq_true rfl) (ownH_nil) (own_solid (by simp [solid_int, solid_bool, solid_str, solid_agg, solid_tup, solid_nilsl, solid_nilp])) (aS_den ?_)
  by_cases a1 : c = 6
  · simp only [WK, simprocAttr, c52, n52, S5, S4, S3, S2, S1, gt_iff_lt, inV, a1]
    simp only [WK, simprocAttr, EW, r52, S5, S4, S3, S2, S1, gt_iff_lt, inV, a1]
    all_goals simp [a1]
  · simp only [WK, simprocAttr, c52, n52, S5, S4, S3, S2, S1, gt_iff_lt, inV, a1]
    simp only [WK, simprocAttr, EW, r52, S5, S4, S3, S2, S1, gt_iff_lt, inV, a1]
    all_goals first | (simp [a1]; done) | (simp [a1]; rfl)
theorem k54 (c a b k : Int) : ACall PA 54 [inV c a b k] [] (.bool (decide (c = 6 ∨ c = 22))) [] := by
  refine ACall.ofS S5ok hmA h54 (by kernel_rfl) (Nat.le_of_ble_eq_true rfl) (ownH_nil) (own_solid (by simp [solid_int, solid_bool, solid_str, solid_agg, solid_tup, solid_nilsl, solid_nilp])) (aS_den ?_)
  by_cases a1 : c = 6
  · simp only [WK, simprocAttr, c54, n54, S5, S4, S3, S2, S1, gt_iff_lt, inV, a1]
    simp only [WK, simprocAttr, EW, r54, S5, S4, S3, S2, S1, gt_iff_lt, inV, a1]
    all_goals simp [a1]
  · simp only [WK, simprocAttr, c54, n54, S5, S4, S3, S2, S1, gt_iff_lt, inV, a1]
    simp only [WK, simprocAttr, EW, r54, S5, S4, S3, S2, S1, gt_iff_lt, inV, a1]
    all_goals first | (simp [a1]; done) | (simp [a1]; rfl)
def Sm (n : Int) : Prop := 0 ≤ n ∧ n ≤ 1000
instance (c : Int) : Decidable (Sm c) := by unfold Sm; infer_instance
def behindN (i n : Int) : Int := if n ≤ 0 ∨ n - 1 ≤ i then 0 else n - 1 - i
theorem k55 (i n : Int) (hi : Sm i) (hn : Sm n) : ACall PA 55 [.int .i64 i, .int .i64 n] [] (.int .u64 (behindN i n)) [] := by
  refine ACall.ofS S5ok hmA h55 (by kernel_rfl) (Nat.le_of_ble_eq_true rfl) (ownH_nil) (own_solid (by simp [solid_int, solid_bool, solid_str, solid_agg, solid_tup, solid_nilsl, solid_nilp])) (aS_den ?_)
  have w1 : IntKind.i64.wrap (n - 1) = n - 1 := wrI64 (by have := hn.1; omega) (by have := hn.2; omega)
  have w2 : IntKind.u64.wrap n = n := wrU64 hn.1 (by have := hn.2; omega)
  have w3 : IntKind.u64.wrap i = i := wrU64 hi.1 (by have := hi.2; omega)
  by_cases a1 : n ≤ 0
  · simp only [WK, simprocAttr, c55, n55, S5, S4, S3, S2, S1, gt_iff_lt, ge_iff_le, w1, w2, w3, a1]
    simp only [WK, simprocAttr, EW, r55, S5, S4, S3, S2, S1, gt_iff_lt, ge_iff_le, w1, w2, w3, a1]
    simp [behindN, a1]
  · by_cases a2 : n - 1 ≤ i
    · simp only [WK, simprocAttr, c55, n55, S5, S4, S3, S2, S1, gt_iff_lt, ge_iff_le, w1, w2, w3, a1, a2]
      simp only [WK, simprocAttr, EW, r55, S5, S4, S3, S2, S1, gt_iff_lt, ge_iff_le, w1, w2, w3, a1, a2]
      simp [behindN, a1, a2]
    · have w4 : IntKind.u64.wrap (n - 1) = n - 1 := wrU64 (by omega) (by have := hn.2; omega)
      have w5 : IntKind.u64.wrap (n - 1 - i) = n - 1 - i := wrU64 (by omega) (by have := hn.2; have := hi.1; omega)
      simp only [WK, simprocAttr, c55, n55, S5, S4, S3, S2, S1, gt_iff_lt, ge_iff_le, w1, w2, w3, w4, w5, a1, a2]
      simp only [WK, simprocAttr, EW, r55, S5, S4, S3, S2, S1, gt_iff_lt, ge_iff_le, w1, w2, w3, w4, w5, a1, a2]
      simp [behindN, a1, a2]
end Go.Av

/- Contracts: one instruction checked. -/
namespace Go.Av
open Go Go.Proofs
set_option maxRecDepth 100000
set_option maxHeartbeats 2000000
def S6 : Spec := fun f args => match f, args with
  | 15, [.int .u16 c] => if U16 c then some ((.tup [.str (sb (refNameN c)), .bool (decide (refNameN c ≠ []))]), []) else none
  | 19, [.int .u16 c] => if U16 c then some ((.int .i64 (refForm c)), []) else none
  | 52, [.agg [.int .u16 c, .int .u8 a, .int .u8 b, .int .u32 k]] => some ((.bool (decide (c = 6 ∨ c = 22))), [])
  | 54, [.agg [.int .u16 c, .int .u8 a, .int .u8 b, .int .u32 k]] => some ((.bool (decide (c = 6 ∨ c = 22))), [])
  | 55, [.int .i64 i, .int .i64 n] => if Sm i ∧ Sm n then some ((.int .u64 (behindN i n)), []) else none
  | f, args => S5 f args
theorem S6ok : SpecOK PA S6 := by
  refine ⟨fun f args r l h => ?_⟩
  unfold S6 at h
  split at h
  · split at h
    · rename_i hc; cases h; exact ⟨k15 _ hc, by simp [bel_int, bel_agg, bel_sl, bel_str], own_solid (by simp [solid_int, solid_bool, solid_str, solid_agg, solid_tup, solid_nilsl]), ownH_nil⟩
    · cases h
  · split at h
    · rename_i hc; cases h; exact ⟨k19 _ hc, by simp [bel_int, bel_agg, bel_sl, bel_str], own_solid (by simp [solid_int, solid_bool, solid_str, solid_agg, solid_tup, solid_nilsl]), ownH_nil⟩
    · cases h
  · cases h; exact ⟨k52 _ _ _ _, by simp [bel_int, bel_agg, bel_sl, bel_str], own_solid (by simp [solid_int, solid_bool, solid_str, solid_agg, solid_tup, solid_nilsl]), ownH_nil⟩
  · cases h; exact ⟨k54 _ _ _ _, by simp [bel_int, bel_agg, bel_sl, bel_str], own_solid (by simp [solid_int, solid_bool, solid_str, solid_agg, solid_tup, solid_nilsl]), ownH_nil⟩
  · split at h
    · rename_i hc; cases h; exact ⟨k55 _ _ hc.1 hc.2, by simp [bel_int, bel_agg, bel_sl, bel_str], own_solid (by simp [solid_int, solid_bool, solid_str, solid_agg, solid_tup, solid_nilsl]), ownH_nil⟩
    · cases h
  · exact S5ok.ok _ _ _ _ h
/-- What 256 numbers show. -/
def nmChk (n : Nat) : Bool :=
  let c : Int := n
  decide (refNameN c = [] ↔ formK c < 0) && decide (refForm c = formK c) && decide (refNameN c = (nameK c).1) && decide ((nameK c).2 = decide ((nameK c).1 ≠ [])) &&
  decide (refNameN c = [108, 100, 46, 97, 98, 115] ↔ c = 32) && decide (refNameN c = [100, 105, 118, 46, 107] ↔ c = 52) && decide (refNameN c = [108, 115, 104, 46, 107] ↔ c = 100) && decide (refNameN c = [114, 115, 104, 46, 107] ↔ c = 116) && decide (formK c ≤ 6)
theorem nmAll : (List.range 256).all nmChk = true := by kernel_rfl
theorem single_big {c : Int} (h : 256 ≤ c) : singleT c = ([], -1) := by
  unfold singleT
  repeat rw [if_neg (by omega)]
structure NmFacts (c : Int) : Prop where
  nil : refNameN c = [] ↔ formK c < 0
  form : refForm c = formK c
  name : refNameN c = (nameK c).1
  known : (nameK c).2 = decide ((nameK c).1 ≠ [])
  abs : refNameN c = [108, 100, 46, 97, 98, 115] ↔ c = 32
  div : refNameN c = [100, 105, 118, 46, 107] ↔ c = 52
  lsh : refNameN c = [108, 115, 104, 46, 107] ↔ c = 100
  rsh : refNameN c = [114, 115, 104, 46, 107] ↔ c = 116
  most : formK c ≤ 6
theorem nmFacts {c : Int} (hc : U16 c) : NmFacts c := by
  by_cases h : c < 256
  · obtain ⟨n, rfl⟩ := Int.eq_ofNat_of_zero_le hc.1
    have := nmAll
    rw [List.all_eq_true] at this
    have := this n (List.mem_range.2 (by omega))
    simp only [nmChk, Bool.and_eq_true, decide_eq_true_eq] at this
    obtain ⟨⟨⟨⟨⟨⟨⟨⟨h1, h2⟩, h3⟩, h4⟩, h5⟩, h6⟩, h7⟩, h8⟩, h9⟩ := this
    exact ⟨h1, h2, h3, h4, h5, h6, h7, h8, h9⟩
  · have hs := single_big (c := c) (by omega)
    have h255 : 255 < c := by omega
    have h256 : 256 ≤ c := by omega
    have e1 : refNameN c = [] := by simp [refNameN, h255]
    have e2 : formK c = -1 := by simp [formK, h256, hs]
    have e3 : nameK c = ([], false) := by simp [nameK, h256, hs]
    refine ⟨by simp [e1, e2], by simp [refForm, h255, e2], by simp [e1, e3], by simp [e3], ?_, ?_, ?_, ?_, by simp [e2]⟩ <;> (rw [e1]; constructor <;> intro h' <;> first | (simp at h'; done) | omega)
structure InOK (c a b k : Int) : Prop where
  c : U16 c
  a : U8 a
  b : U8 b
  k : 0 ≤ k ∧ k < 4294967296
instance (c a b k : Int) : Decidable (InOK c a b k) := decidable_of_iff (U16 c ∧ U8 a ∧ U8 b ∧ (0 ≤ k ∧ k < 4294967296)) ⟨fun ⟨h1, h2, h3, h4⟩ => ⟨h1, h2, h3, h4⟩, fun ⟨h1, h2, h3, h4⟩ => ⟨h1, h2, h3, h4⟩⟩
def oneK (c a b k i n : Int) : Int :=
  if formK c < 0 then 141 else
  if c = 32 ∧ (k % 4 ≠ 0 ∨ 64 ≤ k) then 142 else
  if c = 52 ∧ k = 0 then 143 else
  if (c = 100 ∨ c = 116) ∧ 32 ≤ k then 144 else
  if formK c = 3 ∧ 16 ≤ k then 145 else
  if formK c = 4 ∧ behindN i n ≤ k then 146 else
  if (formK c = 5 ∨ formK c = 6) ∧ behindN i n ≤ (if a < b then b else a) then 146 else 0
theorem k28 (c a b k i n : Int) (hI : InOK c a b k) (hi : Sm i) (hn : Sm n) : ACall PA 28 [inV c a b k, .int .i64 i, .int .i64 n] [] (.int .i64 (oneK c a b k i n)) [] := by
  refine ACall.ofS S6ok hmA h28 (by kernel_rfl) (Nat.le_of_ble_eq_true rfl) (ownH_nil) (own_solid (by simp [solid_int, solid_bool, solid_str, solid_agg, solid_tup, solid_nilsl, solid_nilp])) (aS_den ?_)
  have hIc := hI.c
  have w0 := hI.k
  have w1 : k.tmod 4 = k % 4 := Int.tmod_eq_emod_of_nonneg hI.k.1
  have w2 : IntKind.u64.wrap k = k := wrU64 hI.k.1 (by have := hI.k.2; omega)
  have w3 : IntKind.u64.wrap a = a := wrU64 hI.a.1 (by have := hI.a.2; omega)
  have w4 : IntKind.u64.wrap b = b := wrU64 hI.b.1 (by have := hI.b.2; omega)
  by_cases f0 : formK c < 0
  · simp only [WK, simprocAttr, c28, n28, S6, S5, S4, S3, S2, S1, ge_iff_le, gt_iff_lt, inV, hi, hn, hIc, w1, w2, w3, w4, f0]
    simp only [WK, simprocAttr, EW, r28, S6, S5, S4, S3, S2, S1, ge_iff_le, gt_iff_lt, inV, hi, hn, hIc, w1, w2, w3, w4, f0]
    all_goals simp [oneK, w1, f0]
  · by_cases e32 : c = 32
    · subst e32
      have fm : formK 32 = 2 := by kernel_rfl
      by_cases m : k % 4 = 0
      · by_cases g : 64 ≤ k
        · simp only [WK, simprocAttr, c28, n28, S6, S5, S4, S3, S2, S1, ge_iff_le, gt_iff_lt, inV, hi, hn, hIc, w1, w2, w3, w4, fm, m, g]
          simp only [WK, simprocAttr, EW, r28, S6, S5, S4, S3, S2, S1, ge_iff_le, gt_iff_lt, inV, hi, hn, hIc, w1, w2, w3, w4, fm, m, g]
          all_goals simp [oneK, w1, fm, m, g]
        · simp only [WK, simprocAttr, c28, n28, S6, S5, S4, S3, S2, S1, ge_iff_le, gt_iff_lt, inV, hi, hn, hIc, w1, w2, w3, w4, fm, m, g]
          simp only [WK, simprocAttr, EW, r28, S6, S5, S4, S3, S2, S1, ge_iff_le, gt_iff_lt, inV, hi, hn, hIc, w1, w2, w3, w4, fm, m, g]
          all_goals simp [oneK, w1, fm, m, g]
      · simp only [WK, simprocAttr, c28, n28, S6, S5, S4, S3, S2, S1, ge_iff_le, gt_iff_lt, inV, hi, hn, hIc, w1, w2, w3, w4, fm, m]
        simp only [WK, simprocAttr, EW, r28, S6, S5, S4, S3, S2, S1, ge_iff_le, gt_iff_lt, inV, hi, hn, hIc, w1, w2, w3, w4, fm, m]
        all_goals simp [oneK, w1, fm, m]
    · by_cases e52 : c = 52
      · subst e52
        have fm : formK 52 = 1 := by kernel_rfl
        by_cases m : k = 0
        · simp only [WK, simprocAttr, c28, n28, S6, S5, S4, S3, S2, S1, ge_iff_le, gt_iff_lt, inV, hi, hn, hIc, w1, w2, w3, w4, fm, m]
          simp only [WK, simprocAttr, EW, r28, S6, S5, S4, S3, S2, S1, ge_iff_le, gt_iff_lt, inV, hi, hn, hIc, w1, w2, w3, w4, fm, m]
          all_goals simp [oneK, w1, fm, m]
        · simp only [WK, simprocAttr, c28, n28, S6, S5, S4, S3, S2, S1, ge_iff_le, gt_iff_lt, inV, hi, hn, hIc, w1, w2, w3, w4, fm, m]
          simp only [WK, simprocAttr, EW, r28, S6, S5, S4, S3, S2, S1, ge_iff_le, gt_iff_lt, inV, hi, hn, hIc, w1, w2, w3, w4, fm, m]
          all_goals simp [oneK, w1, fm, m]
      · by_cases e100 : c = 100
        · subst e100
          have fm : formK 100 = 1 := by kernel_rfl
          by_cases m : 32 ≤ k
          · simp only [WK, simprocAttr, c28, n28, S6, S5, S4, S3, S2, S1, ge_iff_le, gt_iff_lt, inV, hi, hn, hIc, w1, w2, w3, w4, fm, m]
            simp only [WK, simprocAttr, EW, r28, S6, S5, S4, S3, S2, S1, ge_iff_le, gt_iff_lt, inV, hi, hn, hIc, w1, w2, w3, w4, fm, m]
            all_goals simp [oneK, w1, fm, m]
          · simp only [WK, simprocAttr, c28, n28, S6, S5, S4, S3, S2, S1, ge_iff_le, gt_iff_lt, inV, hi, hn, hIc, w1, w2, w3, w4, fm, m]
            simp only [WK, simprocAttr, EW, r28, S6, S5, S4, S3, S2, S1, ge_iff_le, gt_iff_lt, inV, hi, hn, hIc, w1, w2, w3, w4, fm, m]
            all_goals simp [oneK, w1, fm, m]
        · by_cases e116 : c = 116
          · subst e116
            have fm : formK 116 = 1 := by kernel_rfl
            by_cases m : 32 ≤ k
            · simp only [WK, simprocAttr, c28, n28, S6, S5, S4, S3, S2, S1, ge_iff_le, gt_iff_lt, inV, hi, hn, hIc, w1, w2, w3, w4, fm, m]
              simp only [WK, simprocAttr, EW, r28, S6, S5, S4, S3, S2, S1, ge_iff_le, gt_iff_lt, inV, hi, hn, hIc, w1, w2, w3, w4, fm, m]
              all_goals simp [oneK, w1, fm, m]
            · simp only [WK, simprocAttr, c28, n28, S6, S5, S4, S3, S2, S1, ge_iff_le, gt_iff_lt, inV, hi, hn, hIc, w1, w2, w3, w4, fm, m]
              simp only [WK, simprocAttr, EW, r28, S6, S5, S4, S3, S2, S1, ge_iff_le, gt_iff_lt, inV, hi, hn, hIc, w1, w2, w3, w4, fm, m]
              all_goals simp [oneK, w1, fm, m]
          · by_cases f3 : formK c = 3
            · by_cases m : 16 ≤ k
              · simp only [WK, simprocAttr, c28, n28, S6, S5, S4, S3, S2, S1, ge_iff_le, gt_iff_lt, inV, hi, hn, hIc, w1, w2, w3, w4, e32, e52, e100, e116, f3, m]
                simp only [WK, simprocAttr, EW, r28, S6, S5, S4, S3, S2, S1, ge_iff_le, gt_iff_lt, inV, hi, hn, hIc, w1, w2, w3, w4, e32, e52, e100, e116, f3, m]
                all_goals simp [oneK, w1, e32, e52, e100, e116, f3, m]
              · simp only [WK, simprocAttr, c28, n28, S6, S5, S4, S3, S2, S1, ge_iff_le, gt_iff_lt, inV, hi, hn, hIc, w1, w2, w3, w4, e32, e52, e100, e116, f3, m]
                simp only [WK, simprocAttr, EW, r28, S6, S5, S4, S3, S2, S1, ge_iff_le, gt_iff_lt, inV, hi, hn, hIc, w1, w2, w3, w4, e32, e52, e100, e116, f3, m]
                all_goals simp [oneK, w1, e32, e52, e100, e116, f3, m]
            · by_cases f4 : formK c = 4
              · by_cases m : behindN i n ≤ k
                · simp only [WK, simprocAttr, c28, n28, S6, S5, S4, S3, S2, S1, ge_iff_le, gt_iff_lt, inV, hi, hn, hIc, w1, w2, w3, w4, e32, e52, e100, e116, f4, m]
                  simp only [WK, simprocAttr, EW, r28, S6, S5, S4, S3, S2, S1, ge_iff_le, gt_iff_lt, inV, hi, hn, hIc, w1, w2, w3, w4, e32, e52, e100, e116, f4, m]
                  all_goals simp [oneK, w1, e32, e52, e100, e116, f4, m]
                · simp only [WK, simprocAttr, c28, n28, S6, S5, S4, S3, S2, S1, ge_iff_le, gt_iff_lt, inV, hi, hn, hIc, w1, w2, w3, w4, e32, e52, e100, e116, f4, m]
                  simp only [WK, simprocAttr, EW, r28, S6, S5, S4, S3, S2, S1, ge_iff_le, gt_iff_lt, inV, hi, hn, hIc, w1, w2, w3, w4, e32, e52, e100, e116, f4, m]
                  all_goals simp [oneK, w1, e32, e52, e100, e116, f4, m]
              · by_cases f5 : formK c = 5
                · by_cases x : a < b
                  · by_cases m : behindN i n ≤ b
                    · simp only [WK, simprocAttr, c28, n28, S6, S5, S4, S3, S2, S1, ge_iff_le, gt_iff_lt, inV, hi, hn, hIc, w1, w2, w3, w4, e32, e52, e100, e116, f5, x, m]
                      simp only [WK, simprocAttr, EW, r28, S6, S5, S4, S3, S2, S1, ge_iff_le, gt_iff_lt, inV, hi, hn, hIc, w1, w2, w3, w4, e32, e52, e100, e116, f5, x, m]
                      all_goals simp [oneK, w1, e32, e52, e100, e116, f5, x, m]
                    · simp only [WK, simprocAttr, c28, n28, S6, S5, S4, S3, S2, S1, ge_iff_le, gt_iff_lt, inV, hi, hn, hIc, w1, w2, w3, w4, e32, e52, e100, e116, f5, x, m]
                      simp only [WK, simprocAttr, EW, r28, S6, S5, S4, S3, S2, S1, ge_iff_le, gt_iff_lt, inV, hi, hn, hIc, w1, w2, w3, w4, e32, e52, e100, e116, f5, x, m]
                      all_goals simp [oneK, w1, e32, e52, e100, e116, f5, x, m]
                  · by_cases m : behindN i n ≤ a
                    · simp only [WK, simprocAttr, c28, n28, S6, S5, S4, S3, S2, S1, ge_iff_le, gt_iff_lt, inV, hi, hn, hIc, w1, w2, w3, w4, e32, e52, e100, e116, f5, x, m]
                      simp only [WK, simprocAttr, EW, r28, S6, S5, S4, S3, S2, S1, ge_iff_le, gt_iff_lt, inV, hi, hn, hIc, w1, w2, w3, w4, e32, e52, e100, e116, f5, x, m]
                      all_goals simp [oneK, w1, e32, e52, e100, e116, f5, x, m]
                    · simp only [WK, simprocAttr, c28, n28, S6, S5, S4, S3, S2, S1, ge_iff_le, gt_iff_lt, inV, hi, hn, hIc, w1, w2, w3, w4, e32, e52, e100, e116, f5, x, m]
                      simp only [WK, simprocAttr, EW, r28, S6, S5, S4, S3, S2, S1, ge_iff_le, gt_iff_lt, inV, hi, hn, hIc, w1, w2, w3, w4, e32, e52, e100, e116, f5, x, m]
                      all_goals simp [oneK, w1, e32, e52, e100, e116, f5, x, m]
                · by_cases f6 : formK c = 6
                  · by_cases x : a < b
                    · by_cases m : behindN i n ≤ b
                      · simp only [WK, simprocAttr, c28, n28, S6, S5, S4, S3, S2, S1, ge_iff_le, gt_iff_lt, inV, hi, hn, hIc, w1, w2, w3, w4, e32, e52, e100, e116, f6, x, m]
                        simp only [WK, simprocAttr, EW, r28, S6, S5, S4, S3, S2, S1, ge_iff_le, gt_iff_lt, inV, hi, hn, hIc, w1, w2, w3, w4, e32, e52, e100, e116, f6, x, m]
                        all_goals simp [oneK, w1, e32, e52, e100, e116, f6, x, m]
                      · simp only [WK, simprocAttr, c28, n28, S6, S5, S4, S3, S2, S1, ge_iff_le, gt_iff_lt, inV, hi, hn, hIc, w1, w2, w3, w4, e32, e52, e100, e116, f6, x, m]
                        simp only [WK, simprocAttr, EW, r28, S6, S5, S4, S3, S2, S1, ge_iff_le, gt_iff_lt, inV, hi, hn, hIc, w1, w2, w3, w4, e32, e52, e100, e116, f6, x, m]
                        all_goals simp [oneK, w1, e32, e52, e100, e116, f6, x, m]
                    · by_cases m : behindN i n ≤ a
                      · simp only [WK, simprocAttr, c28, n28, S6, S5, S4, S3, S2, S1, ge_iff_le, gt_iff_lt, inV, hi, hn, hIc, w1, w2, w3, w4, e32, e52, e100, e116, f6, x, m]
                        simp only [WK, simprocAttr, EW, r28, S6, S5, S4, S3, S2, S1, ge_iff_le, gt_iff_lt, inV, hi, hn, hIc, w1, w2, w3, w4, e32, e52, e100, e116, f6, x, m]
                        all_goals simp [oneK, w1, e32, e52, e100, e116, f6, x, m]
                      · simp only [WK, simprocAttr, c28, n28, S6, S5, S4, S3, S2, S1, ge_iff_le, gt_iff_lt, inV, hi, hn, hIc, w1, w2, w3, w4, e32, e52, e100, e116, f6, x, m]
                        simp only [WK, simprocAttr, EW, r28, S6, S5, S4, S3, S2, S1, ge_iff_le, gt_iff_lt, inV, hi, hn, hIc, w1, w2, w3, w4, e32, e52, e100, e116, f6, x, m]
                        all_goals simp [oneK, w1, e32, e52, e100, e116, f6, x, m]
                  · simp only [WK, simprocAttr, c28, n28, S6, S5, S4, S3, S2, S1, ge_iff_le, gt_iff_lt, inV, hi, hn, hIc, w1, w2, w3, w4, e32, e52, e100, e116, f0, f3, f4, f5, f6]
                    simp only [WK, simprocAttr, EW, r28, S6, S5, S4, S3, S2, S1, ge_iff_le, gt_iff_lt, inV, hi, hn, hIc, w1, w2, w3, w4, e32, e52, e100, e116, f0, f3, f4, f5, f6]
                    all_goals simp [oneK, w1, e32, e52, e100, e116, f0, f3, f4, f5, f6]
theorem k53 (c a b k i n : Int) (hI : InOK c a b k) (hi : Sm i) (hn : Sm n) (hin : i < n) : ACall PA 53 [inV c a b k, .int .i64 i, .int .i64 n] [] (.int .i64 (oneK c a b k i n)) [] := by
  refine ACall.ofS S6ok hmA h53 (by kernel_rfl) (Nat.le_of_ble_eq_true rfl) (ownH_nil) (own_solid (by simp [solid_int, solid_bool, solid_str, solid_agg, solid_tup, solid_nilsl, solid_nilp])) (aS_den ?_)
  have hIc := hI.c
  have w0 := hI.k
  have w1 : k.tmod 4 = k % 4 := Int.tmod_eq_emod_of_nonneg hI.k.1
  have w2 : IntKind.u64.wrap k = k := wrU64 hI.k.1 (by have := hI.k.2; omega)
  have w3 : IntKind.u64.wrap a = a := wrU64 hI.a.1 (by have := hI.a.2; omega)
  have w4 : IntKind.u64.wrap b = b := wrU64 hI.b.1 (by have := hI.b.2; omega)
  have nf := nmFacts hI.c
  have p1 : 0 < n := by have := hi.1; omega
  have z1 : IntKind.i64.wrap (n - 1) = n - 1 := wrI64 (by omega) (by have := hn.2; omega)
  have z2 : IntKind.u64.wrap n = n := wrU64 hn.1 (by have := hn.2; omega)
  have z3 : IntKind.u64.wrap i = i := wrU64 hi.1 (by have := hi.2; omega)
  by_cases p2 : i < n - 1
  · have z4 : IntKind.u64.wrap (n - 1) = n - 1 := wrU64 (by omega) (by have := hn.2; omega)
    have z5 : IntKind.u64.wrap (n - 1 - i) = n - 1 - i := wrU64 (by omega) (by have := hn.2; have := hi.1; omega)
    have bh : behindN i n = n - 1 - i := by unfold behindN; rw [if_neg (by omega)]
    by_cases f0 : formK c < 0
    · simp only [WK, simprocAttr, c53, n53, S6, S5, S4, S3, S2, S1, ge_iff_le, gt_iff_lt, inV, hIc, w1, w2, w3, w4, nf.nil, nf.form, nf.abs, nf.div, nf.lsh, nf.rsh, p1, p2, z1, z2, z3, z4, z5, f0]
      simp only [WK, simprocAttr, EW, r53, S6, S5, S4, S3, S2, S1, ge_iff_le, gt_iff_lt, inV, hIc, w1, w2, w3, w4, nf.nil, nf.form, nf.abs, nf.div, nf.lsh, nf.rsh, p1, p2, z1, z2, z3, z4, z5, f0]
      all_goals simp [oneK, w1, bh, f0]
    · by_cases e32 : c = 32
      · subst e32
        have fm : formK 32 = 2 := by kernel_rfl
        by_cases m : k % 4 = 0
        · by_cases g : 64 ≤ k
          · simp only [WK, simprocAttr, c53, n53, S6, S5, S4, S3, S2, S1, ge_iff_le, gt_iff_lt, inV, hIc, w1, w2, w3, w4, nf.nil, nf.form, nf.abs, nf.div, nf.lsh, nf.rsh, p1, p2, z1, z2, z3, z4, z5, fm, m, g]
            simp only [WK, simprocAttr, EW, r53, S6, S5, S4, S3, S2, S1, ge_iff_le, gt_iff_lt, inV, hIc, w1, w2, w3, w4, nf.nil, nf.form, nf.abs, nf.div, nf.lsh, nf.rsh, p1, p2, z1, z2, z3, z4, z5, fm, m, g]
            all_goals simp [oneK, w1, bh, fm, m, g]
          · simp only [WK, simprocAttr, c53, n53, S6, S5, S4, S3, S2, S1, ge_iff_le, gt_iff_lt, inV, hIc, w1, w2, w3, w4, nf.nil, nf.form, nf.abs, nf.div, nf.lsh, nf.rsh, p1, p2, z1, z2, z3, z4, z5, fm, m, g]
            simp only [WK, simprocAttr, EW, r53, S6, S5, S4, S3, S2, S1, ge_iff_le, gt_iff_lt, inV, hIc, w1, w2, w3, w4, nf.nil, nf.form, nf.abs, nf.div, nf.lsh, nf.rsh, p1, p2, z1, z2, z3, z4, z5, fm, m, g]
            all_goals simp [oneK, w1, bh, fm, m, g]
        · simp only [WK, simprocAttr, c53, n53, S6, S5, S4, S3, S2, S1, ge_iff_le, gt_iff_lt, inV, hIc, w1, w2, w3, w4, nf.nil, nf.form, nf.abs, nf.div, nf.lsh, nf.rsh, p1, p2, z1, z2, z3, z4, z5, fm, m]
          simp only [WK, simprocAttr, EW, r53, S6, S5, S4, S3, S2, S1, ge_iff_le, gt_iff_lt, inV, hIc, w1, w2, w3, w4, nf.nil, nf.form, nf.abs, nf.div, nf.lsh, nf.rsh, p1, p2, z1, z2, z3, z4, z5, fm, m]
          all_goals simp [oneK, w1, bh, fm, m]
      · by_cases e52 : c = 52
        · subst e52
          have fm : formK 52 = 1 := by kernel_rfl
          by_cases m : k = 0
          · simp only [WK, simprocAttr, c53, n53, S6, S5, S4, S3, S2, S1, ge_iff_le, gt_iff_lt, inV, hIc, w1, w2, w3, w4, nf.nil, nf.form, nf.abs, nf.div, nf.lsh, nf.rsh, p1, p2, z1, z2, z3, z4, z5, fm, m]
            simp only [WK, simprocAttr, EW, r53, S6, S5, S4, S3, S2, S1, ge_iff_le, gt_iff_lt, inV, hIc, w1, w2, w3, w4, nf.nil, nf.form, nf.abs, nf.div, nf.lsh, nf.rsh, p1, p2, z1, z2, z3, z4, z5, fm, m]
            all_goals simp [oneK, w1, bh, fm, m]
          · simp only [WK, simprocAttr, c53, n53, S6, S5, S4, S3, S2, S1, ge_iff_le, gt_iff_lt, inV, hIc, w1, w2, w3, w4, nf.nil, nf.form, nf.abs, nf.div, nf.lsh, nf.rsh, p1, p2, z1, z2, z3, z4, z5, fm, m]
            simp only [WK, simprocAttr, EW, r53, S6, S5, S4, S3, S2, S1, ge_iff_le, gt_iff_lt, inV, hIc, w1, w2, w3, w4, nf.nil, nf.form, nf.abs, nf.div, nf.lsh, nf.rsh, p1, p2, z1, z2, z3, z4, z5, fm, m]
            all_goals simp [oneK, w1, bh, fm, m]
        · by_cases e100 : c = 100
          · subst e100
            have fm : formK 100 = 1 := by kernel_rfl
            by_cases m : 32 ≤ k
            · simp only [WK, simprocAttr, c53, n53, S6, S5, S4, S3, S2, S1, ge_iff_le, gt_iff_lt, inV, hIc, w1, w2, w3, w4, nf.nil, nf.form, nf.abs, nf.div, nf.lsh, nf.rsh, p1, p2, z1, z2, z3, z4, z5, fm, m]
              simp only [WK, simprocAttr, EW, r53, S6, S5, S4, S3, S2, S1, ge_iff_le, gt_iff_lt, inV, hIc, w1, w2, w3, w4, nf.nil, nf.form, nf.abs, nf.div, nf.lsh, nf.rsh, p1, p2, z1, z2, z3, z4, z5, fm, m]
              all_goals simp [oneK, w1, bh, fm, m]
            · simp only [WK, simprocAttr, c53, n53, S6, S5, S4, S3, S2, S1, ge_iff_le, gt_iff_lt, inV, hIc, w1, w2, w3, w4, nf.nil, nf.form, nf.abs, nf.div, nf.lsh, nf.rsh, p1, p2, z1, z2, z3, z4, z5, fm, m]
              simp only [WK, simprocAttr, EW, r53, S6, S5, S4, S3, S2, S1, ge_iff_le, gt_iff_lt, inV, hIc, w1, w2, w3, w4, nf.nil, nf.form, nf.abs, nf.div, nf.lsh, nf.rsh, p1, p2, z1, z2, z3, z4, z5, fm, m]
              all_goals simp [oneK, w1, bh, fm, m]
          · by_cases e116 : c = 116
            · subst e116
              have fm : formK 116 = 1 := by kernel_rfl
              by_cases m : 32 ≤ k
              · simp only [WK, simprocAttr, c53, n53, S6, S5, S4, S3, S2, S1, ge_iff_le, gt_iff_lt, inV, hIc, w1, w2, w3, w4, nf.nil, nf.form, nf.abs, nf.div, nf.lsh, nf.rsh, p1, p2, z1, z2, z3, z4, z5, fm, m]
                simp only [WK, simprocAttr, EW, r53, S6, S5, S4, S3, S2, S1, ge_iff_le, gt_iff_lt, inV, hIc, w1, w2, w3, w4, nf.nil, nf.form, nf.abs, nf.div, nf.lsh, nf.rsh, p1, p2, z1, z2, z3, z4, z5, fm, m]
                all_goals simp [oneK, w1, bh, fm, m]
              · simp only [WK, simprocAttr, c53, n53, S6, S5, S4, S3, S2, S1, ge_iff_le, gt_iff_lt, inV, hIc, w1, w2, w3, w4, nf.nil, nf.form, nf.abs, nf.div, nf.lsh, nf.rsh, p1, p2, z1, z2, z3, z4, z5, fm, m]
                simp only [WK, simprocAttr, EW, r53, S6, S5, S4, S3, S2, S1, ge_iff_le, gt_iff_lt, inV, hIc, w1, w2, w3, w4, nf.nil, nf.form, nf.abs, nf.div, nf.lsh, nf.rsh, p1, p2, z1, z2, z3, z4, z5, fm, m]
                all_goals simp [oneK, w1, bh, fm, m]
            · by_cases f3 : formK c = 3
              · by_cases m : 16 ≤ k
                · simp only [WK, simprocAttr, c53, n53, S6, S5, S4, S3, S2, S1, ge_iff_le, gt_iff_lt, inV, hIc, w1, w2, w3, w4, nf.nil, nf.form, nf.abs, nf.div, nf.lsh, nf.rsh, p1, p2, z1, z2, z3, z4, z5, e32, e52, e100, e116, f3, m]
                  simp only [WK, simprocAttr, EW, r53, S6, S5, S4, S3, S2, S1, ge_iff_le, gt_iff_lt, inV, hIc, w1, w2, w3, w4, nf.nil, nf.form, nf.abs, nf.div, nf.lsh, nf.rsh, p1, p2, z1, z2, z3, z4, z5, e32, e52, e100, e116, f3, m]
                  all_goals simp [oneK, w1, bh, e32, e52, e100, e116, f3, m]
                · simp only [WK, simprocAttr, c53, n53, S6, S5, S4, S3, S2, S1, ge_iff_le, gt_iff_lt, inV, hIc, w1, w2, w3, w4, nf.nil, nf.form, nf.abs, nf.div, nf.lsh, nf.rsh, p1, p2, z1, z2, z3, z4, z5, e32, e52, e100, e116, f3, m]
                  simp only [WK, simprocAttr, EW, r53, S6, S5, S4, S3, S2, S1, ge_iff_le, gt_iff_lt, inV, hIc, w1, w2, w3, w4, nf.nil, nf.form, nf.abs, nf.div, nf.lsh, nf.rsh, p1, p2, z1, z2, z3, z4, z5, e32, e52, e100, e116, f3, m]
                  all_goals simp [oneK, w1, bh, e32, e52, e100, e116, f3, m]
              · by_cases f4 : formK c = 4
                · by_cases m : n - 1 - i ≤ k
                  · simp only [WK, simprocAttr, c53, n53, S6, S5, S4, S3, S2, S1, ge_iff_le, gt_iff_lt, inV, hIc, w1, w2, w3, w4, nf.nil, nf.form, nf.abs, nf.div, nf.lsh, nf.rsh, p1, p2, z1, z2, z3, z4, z5, e32, e52, e100, e116, f4, m]
                    simp only [WK, simprocAttr, EW, r53, S6, S5, S4, S3, S2, S1, ge_iff_le, gt_iff_lt, inV, hIc, w1, w2, w3, w4, nf.nil, nf.form, nf.abs, nf.div, nf.lsh, nf.rsh, p1, p2, z1, z2, z3, z4, z5, e32, e52, e100, e116, f4, m]
                    all_goals simp [oneK, w1, bh, e32, e52, e100, e116, f4, m]
                  · simp only [WK, simprocAttr, c53, n53, S6, S5, S4, S3, S2, S1, ge_iff_le, gt_iff_lt, inV, hIc, w1, w2, w3, w4, nf.nil, nf.form, nf.abs, nf.div, nf.lsh, nf.rsh, p1, p2, z1, z2, z3, z4, z5, e32, e52, e100, e116, f4, m]
                    simp only [WK, simprocAttr, EW, r53, S6, S5, S4, S3, S2, S1, ge_iff_le, gt_iff_lt, inV, hIc, w1, w2, w3, w4, nf.nil, nf.form, nf.abs, nf.div, nf.lsh, nf.rsh, p1, p2, z1, z2, z3, z4, z5, e32, e52, e100, e116, f4, m]
                    all_goals simp [oneK, w1, bh, e32, e52, e100, e116, f4, m]
                · by_cases f5 : formK c = 5
                  · by_cases x : a < b
                    · by_cases m : n - 1 - i ≤ b
                      · by_cases m1 : n - 1 - i ≤ a
                        · simp only [WK, simprocAttr, c53, n53, S6, S5, S4, S3, S2, S1, ge_iff_le, gt_iff_lt, inV, hIc, w1, w2, w3, w4, nf.nil, nf.form, nf.abs, nf.div, nf.lsh, nf.rsh, p1, p2, z1, z2, z3, z4, z5, e32, e52, e100, e116, f5, x, m, m1]
                          simp only [WK, simprocAttr, EW, r53, S6, S5, S4, S3, S2, S1, ge_iff_le, gt_iff_lt, inV, hIc, w1, w2, w3, w4, nf.nil, nf.form, nf.abs, nf.div, nf.lsh, nf.rsh, p1, p2, z1, z2, z3, z4, z5, e32, e52, e100, e116, f5, x, m, m1]
                          all_goals simp [oneK, w1, bh, e32, e52, e100, e116, f5, x, m, m1]
                        · simp only [WK, simprocAttr, c53, n53, S6, S5, S4, S3, S2, S1, ge_iff_le, gt_iff_lt, inV, hIc, w1, w2, w3, w4, nf.nil, nf.form, nf.abs, nf.div, nf.lsh, nf.rsh, p1, p2, z1, z2, z3, z4, z5, e32, e52, e100, e116, f5, x, m, m1]
                          simp only [WK, simprocAttr, EW, r53, S6, S5, S4, S3, S2, S1, ge_iff_le, gt_iff_lt, inV, hIc, w1, w2, w3, w4, nf.nil, nf.form, nf.abs, nf.div, nf.lsh, nf.rsh, p1, p2, z1, z2, z3, z4, z5, e32, e52, e100, e116, f5, x, m, m1]
                          all_goals simp [oneK, w1, bh, e32, e52, e100, e116, f5, x, m, m1]
                      · have m1 : ¬ n - 1 - i ≤ a := by omega
                        simp only [WK, simprocAttr, c53, n53, S6, S5, S4, S3, S2, S1, ge_iff_le, gt_iff_lt, inV, hIc, w1, w2, w3, w4, nf.nil, nf.form, nf.abs, nf.div, nf.lsh, nf.rsh, p1, p2, z1, z2, z3, z4, z5, e32, e52, e100, e116, f5, x, m, m1]
                        simp only [WK, simprocAttr, EW, r53, S6, S5, S4, S3, S2, S1, ge_iff_le, gt_iff_lt, inV, hIc, w1, w2, w3, w4, nf.nil, nf.form, nf.abs, nf.div, nf.lsh, nf.rsh, p1, p2, z1, z2, z3, z4, z5, e32, e52, e100, e116, f5, x, m, m1]
                        all_goals simp [oneK, w1, bh, e32, e52, e100, e116, f5, x, m, m1]
                    · by_cases m : n - 1 - i ≤ a
                      · by_cases m1 : n - 1 - i ≤ b
                        · simp only [WK, simprocAttr, c53, n53, S6, S5, S4, S3, S2, S1, ge_iff_le, gt_iff_lt, inV, hIc, w1, w2, w3, w4, nf.nil, nf.form, nf.abs, nf.div, nf.lsh, nf.rsh, p1, p2, z1, z2, z3, z4, z5, e32, e52, e100, e116, f5, x, m, m1]
                          simp only [WK, simprocAttr, EW, r53, S6, S5, S4, S3, S2, S1, ge_iff_le, gt_iff_lt, inV, hIc, w1, w2, w3, w4, nf.nil, nf.form, nf.abs, nf.div, nf.lsh, nf.rsh, p1, p2, z1, z2, z3, z4, z5, e32, e52, e100, e116, f5, x, m, m1]
                          all_goals simp [oneK, w1, bh, e32, e52, e100, e116, f5, x, m, m1]
                        · simp only [WK, simprocAttr, c53, n53, S6, S5, S4, S3, S2, S1, ge_iff_le, gt_iff_lt, inV, hIc, w1, w2, w3, w4, nf.nil, nf.form, nf.abs, nf.div, nf.lsh, nf.rsh, p1, p2, z1, z2, z3, z4, z5, e32, e52, e100, e116, f5, x, m, m1]
                          simp only [WK, simprocAttr, EW, r53, S6, S5, S4, S3, S2, S1, ge_iff_le, gt_iff_lt, inV, hIc, w1, w2, w3, w4, nf.nil, nf.form, nf.abs, nf.div, nf.lsh, nf.rsh, p1, p2, z1, z2, z3, z4, z5, e32, e52, e100, e116, f5, x, m, m1]
                          all_goals simp [oneK, w1, bh, e32, e52, e100, e116, f5, x, m, m1]
                      · have m1 : ¬ n - 1 - i ≤ b := by omega
                        simp only [WK, simprocAttr, c53, n53, S6, S5, S4, S3, S2, S1, ge_iff_le, gt_iff_lt, inV, hIc, w1, w2, w3, w4, nf.nil, nf.form, nf.abs, nf.div, nf.lsh, nf.rsh, p1, p2, z1, z2, z3, z4, z5, e32, e52, e100, e116, f5, x, m, m1]
                        simp only [WK, simprocAttr, EW, r53, S6, S5, S4, S3, S2, S1, ge_iff_le, gt_iff_lt, inV, hIc, w1, w2, w3, w4, nf.nil, nf.form, nf.abs, nf.div, nf.lsh, nf.rsh, p1, p2, z1, z2, z3, z4, z5, e32, e52, e100, e116, f5, x, m, m1]
                        all_goals simp [oneK, w1, bh, e32, e52, e100, e116, f5, x, m, m1]
                  · by_cases f6 : formK c = 6
                    · by_cases x : a < b
                      · by_cases m : n - 1 - i ≤ b
                        · by_cases m1 : n - 1 - i ≤ a
                          · simp only [WK, simprocAttr, c53, n53, S6, S5, S4, S3, S2, S1, ge_iff_le, gt_iff_lt, inV, hIc, w1, w2, w3, w4, nf.nil, nf.form, nf.abs, nf.div, nf.lsh, nf.rsh, p1, p2, z1, z2, z3, z4, z5, e32, e52, e100, e116, f6, x, m, m1]
                            simp only [WK, simprocAttr, EW, r53, S6, S5, S4, S3, S2, S1, ge_iff_le, gt_iff_lt, inV, hIc, w1, w2, w3, w4, nf.nil, nf.form, nf.abs, nf.div, nf.lsh, nf.rsh, p1, p2, z1, z2, z3, z4, z5, e32, e52, e100, e116, f6, x, m, m1]
                            all_goals simp [oneK, w1, bh, e32, e52, e100, e116, f6, x, m, m1]
                          · simp only [WK, simprocAttr, c53, n53, S6, S5, S4, S3, S2, S1, ge_iff_le, gt_iff_lt, inV, hIc, w1, w2, w3, w4, nf.nil, nf.form, nf.abs, nf.div, nf.lsh, nf.rsh, p1, p2, z1, z2, z3, z4, z5, e32, e52, e100, e116, f6, x, m, m1]
                            simp only [WK, simprocAttr, EW, r53, S6, S5, S4, S3, S2, S1, ge_iff_le, gt_iff_lt, inV, hIc, w1, w2, w3, w4, nf.nil, nf.form, nf.abs, nf.div, nf.lsh, nf.rsh, p1, p2, z1, z2, z3, z4, z5, e32, e52, e100, e116, f6, x, m, m1]
                            all_goals simp [oneK, w1, bh, e32, e52, e100, e116, f6, x, m, m1]
                        · have m1 : ¬ n - 1 - i ≤ a := by omega
                          simp only [WK, simprocAttr, c53, n53, S6, S5, S4, S3, S2, S1, ge_iff_le, gt_iff_lt, inV, hIc, w1, w2, w3, w4, nf.nil, nf.form, nf.abs, nf.div, nf.lsh, nf.rsh, p1, p2, z1, z2, z3, z4, z5, e32, e52, e100, e116, f6, x, m, m1]
                          simp only [WK, simprocAttr, EW, r53, S6, S5, S4, S3, S2, S1, ge_iff_le, gt_iff_lt, inV, hIc, w1, w2, w3, w4, nf.nil, nf.form, nf.abs, nf.div, nf.lsh, nf.rsh, p1, p2, z1, z2, z3, z4, z5, e32, e52, e100, e116, f6, x, m, m1]
                          all_goals simp [oneK, w1, bh, e32, e52, e100, e116, f6, x, m, m1]
                      · by_cases m : n - 1 - i ≤ a
                        · by_cases m1 : n - 1 - i ≤ b
                          · simp only [WK, simprocAttr, c53, n53, S6, S5, S4, S3, S2, S1, ge_iff_le, gt_iff_lt, inV, hIc, w1, w2, w3, w4, nf.nil, nf.form, nf.abs, nf.div, nf.lsh, nf.rsh, p1, p2, z1, z2, z3, z4, z5, e32, e52, e100, e116, f6, x, m, m1]
                            simp only [WK, simprocAttr, EW, r53, S6, S5, S4, S3, S2, S1, ge_iff_le, gt_iff_lt, inV, hIc, w1, w2, w3, w4, nf.nil, nf.form, nf.abs, nf.div, nf.lsh, nf.rsh, p1, p2, z1, z2, z3, z4, z5, e32, e52, e100, e116, f6, x, m, m1]
                            all_goals simp [oneK, w1, bh, e32, e52, e100, e116, f6, x, m, m1]
                          · simp only [WK, simprocAttr, c53, n53, S6, S5, S4, S3, S2, S1, ge_iff_le, gt_iff_lt, inV, hIc, w1, w2, w3, w4, nf.nil, nf.form, nf.abs, nf.div, nf.lsh, nf.rsh, p1, p2, z1, z2, z3, z4, z5, e32, e52, e100, e116, f6, x, m, m1]
                            simp only [WK, simprocAttr, EW, r53, S6, S5, S4, S3, S2, S1, ge_iff_le, gt_iff_lt, inV, hIc, w1, w2, w3, w4, nf.nil, nf.form, nf.abs, nf.div, nf.lsh, nf.rsh, p1, p2, z1, z2, z3, z4, z5, e32, e52, e100, e116, f6, x, m, m1]
                            all_goals simp [oneK, w1, bh, e32, e52, e100, e116, f6, x, m, m1]
                        · have m1 : ¬ n - 1 - i ≤ b := by omega
                          simp only [WK, simprocAttr, c53, n53, S6, S5, S4, S3, S2, S1, ge_iff_le, gt_iff_lt, inV, hIc, w1, w2, w3, w4, nf.nil, nf.form, nf.abs, nf.div, nf.lsh, nf.rsh, p1, p2, z1, z2, z3, z4, z5, e32, e52, e100, e116, f6, x, m, m1]
                          simp only [WK, simprocAttr, EW, r53, S6, S5, S4, S3, S2, S1, ge_iff_le, gt_iff_lt, inV, hIc, w1, w2, w3, w4, nf.nil, nf.form, nf.abs, nf.div, nf.lsh, nf.rsh, p1, p2, z1, z2, z3, z4, z5, e32, e52, e100, e116, f6, x, m, m1]
                          all_goals simp [oneK, w1, bh, e32, e52, e100, e116, f6, x, m, m1]
                    · simp only [WK, simprocAttr, c53, n53, S6, S5, S4, S3, S2, S1, ge_iff_le, gt_iff_lt, inV, hIc, w1, w2, w3, w4, nf.nil, nf.form, nf.abs, nf.div, nf.lsh, nf.rsh, p1, p2, z1, z2, z3, z4, z5, e32, e52, e100, e116, f0, f3, f4, f5, f6]
                      simp only [WK, simprocAttr, EW, r53, S6, S5, S4, S3, S2, S1, ge_iff_le, gt_iff_lt, inV, hIc, w1, w2, w3, w4, nf.nil, nf.form, nf.abs, nf.div, nf.lsh, nf.rsh, p1, p2, z1, z2, z3, z4, z5, e32, e52, e100, e116, f0, f3, f4, f5, f6]
                      all_goals simp [oneK, w1, bh, e32, e52, e100, e116, f0, f3, f4, f5, f6]
  · have z4 := hn
    have z5 := hi
    have bh : behindN i n = 0 := by unfold behindN; rw [if_pos (by omega)]
    by_cases f0 : formK c < 0
    · simp only [WK, simprocAttr, c53, n53, S6, S5, S4, S3, S2, S1, ge_iff_le, gt_iff_lt, inV, hIc, w1, w2, w3, w4, nf.nil, nf.form, nf.abs, nf.div, nf.lsh, nf.rsh, p1, p2, z1, z2, z3, z4, z5, f0]
      simp only [WK, simprocAttr, EW, r53, S6, S5, S4, S3, S2, S1, ge_iff_le, gt_iff_lt, inV, hIc, w1, w2, w3, w4, nf.nil, nf.form, nf.abs, nf.div, nf.lsh, nf.rsh, p1, p2, z1, z2, z3, z4, z5, f0]
      all_goals simp [oneK, w1, bh, f0]
    · by_cases e32 : c = 32
      · subst e32
        have fm : formK 32 = 2 := by kernel_rfl
        by_cases m : k % 4 = 0
        · by_cases g : 64 ≤ k
          · simp only [WK, simprocAttr, c53, n53, S6, S5, S4, S3, S2, S1, ge_iff_le, gt_iff_lt, inV, hIc, w1, w2, w3, w4, nf.nil, nf.form, nf.abs, nf.div, nf.lsh, nf.rsh, p1, p2, z1, z2, z3, z4, z5, fm, m, g]
            simp only [WK, simprocAttr, EW, r53, S6, S5, S4, S3, S2, S1, ge_iff_le, gt_iff_lt, inV, hIc, w1, w2, w3, w4, nf.nil, nf.form, nf.abs, nf.div, nf.lsh, nf.rsh, p1, p2, z1, z2, z3, z4, z5, fm, m, g]
            all_goals simp [oneK, w1, bh, fm, m, g]
          · simp only [WK, simprocAttr, c53, n53, S6, S5, S4, S3, S2, S1, ge_iff_le, gt_iff_lt, inV, hIc, w1, w2, w3, w4, nf.nil, nf.form, nf.abs, nf.div, nf.lsh, nf.rsh, p1, p2, z1, z2, z3, z4, z5, fm, m, g]
            simp only [WK, simprocAttr, EW, r53, S6, S5, S4, S3, S2, S1, ge_iff_le, gt_iff_lt, inV, hIc, w1, w2, w3, w4, nf.nil, nf.form, nf.abs, nf.div, nf.lsh, nf.rsh, p1, p2, z1, z2, z3, z4, z5, fm, m, g]
            all_goals simp [oneK, w1, bh, fm, m, g]
        · simp only [WK, simprocAttr, c53, n53, S6, S5, S4, S3, S2, S1, ge_iff_le, gt_iff_lt, inV, hIc, w1, w2, w3, w4, nf.nil, nf.form, nf.abs, nf.div, nf.lsh, nf.rsh, p1, p2, z1, z2, z3, z4, z5, fm, m]
          simp only [WK, simprocAttr, EW, r53, S6, S5, S4, S3, S2, S1, ge_iff_le, gt_iff_lt, inV, hIc, w1, w2, w3, w4, nf.nil, nf.form, nf.abs, nf.div, nf.lsh, nf.rsh, p1, p2, z1, z2, z3, z4, z5, fm, m]
          all_goals simp [oneK, w1, bh, fm, m]
      · by_cases e52 : c = 52
        · subst e52
          have fm : formK 52 = 1 := by kernel_rfl
          by_cases m : k = 0
          · simp only [WK, simprocAttr, c53, n53, S6, S5, S4, S3, S2, S1, ge_iff_le, gt_iff_lt, inV, hIc, w1, w2, w3, w4, nf.nil, nf.form, nf.abs, nf.div, nf.lsh, nf.rsh, p1, p2, z1, z2, z3, z4, z5, fm, m]
            simp only [WK, simprocAttr, EW, r53, S6, S5, S4, S3, S2, S1, ge_iff_le, gt_iff_lt, inV, hIc, w1, w2, w3, w4, nf.nil, nf.form, nf.abs, nf.div, nf.lsh, nf.rsh, p1, p2, z1, z2, z3, z4, z5, fm, m]
            all_goals simp [oneK, w1, bh, fm, m]
          · simp only [WK, simprocAttr, c53, n53, S6, S5, S4, S3, S2, S1, ge_iff_le, gt_iff_lt, inV, hIc, w1, w2, w3, w4, nf.nil, nf.form, nf.abs, nf.div, nf.lsh, nf.rsh, p1, p2, z1, z2, z3, z4, z5, fm, m]
            simp only [WK, simprocAttr, EW, r53, S6, S5, S4, S3, S2, S1, ge_iff_le, gt_iff_lt, inV, hIc, w1, w2, w3, w4, nf.nil, nf.form, nf.abs, nf.div, nf.lsh, nf.rsh, p1, p2, z1, z2, z3, z4, z5, fm, m]
            all_goals simp [oneK, w1, bh, fm, m]
        · by_cases e100 : c = 100
          · subst e100
            have fm : formK 100 = 1 := by kernel_rfl
            by_cases m : 32 ≤ k
            · simp only [WK, simprocAttr, c53, n53, S6, S5, S4, S3, S2, S1, ge_iff_le, gt_iff_lt, inV, hIc, w1, w2, w3, w4, nf.nil, nf.form, nf.abs, nf.div, nf.lsh, nf.rsh, p1, p2, z1, z2, z3, z4, z5, fm, m]
              simp only [WK, simprocAttr, EW, r53, S6, S5, S4, S3, S2, S1, ge_iff_le, gt_iff_lt, inV, hIc, w1, w2, w3, w4, nf.nil, nf.form, nf.abs, nf.div, nf.lsh, nf.rsh, p1, p2, z1, z2, z3, z4, z5, fm, m]
              all_goals simp [oneK, w1, bh, fm, m]
            · simp only [WK, simprocAttr, c53, n53, S6, S5, S4, S3, S2, S1, ge_iff_le, gt_iff_lt, inV, hIc, w1, w2, w3, w4, nf.nil, nf.form, nf.abs, nf.div, nf.lsh, nf.rsh, p1, p2, z1, z2, z3, z4, z5, fm, m]
              simp only [WK, simprocAttr, EW, r53, S6, S5, S4, S3, S2, S1, ge_iff_le, gt_iff_lt, inV, hIc, w1, w2, w3, w4, nf.nil, nf.form, nf.abs, nf.div, nf.lsh, nf.rsh, p1, p2, z1, z2, z3, z4, z5, fm, m]
              all_goals simp [oneK, w1, bh, fm, m]
          · by_cases e116 : c = 116
            · subst e116
              have fm : formK 116 = 1 := by kernel_rfl
              by_cases m : 32 ≤ k
              · simp only [WK, simprocAttr, c53, n53, S6, S5, S4, S3, S2, S1, ge_iff_le, gt_iff_lt, inV, hIc, w1, w2, w3, w4, nf.nil, nf.form, nf.abs, nf.div, nf.lsh, nf.rsh, p1, p2, z1, z2, z3, z4, z5, fm, m]
                simp only [WK, simprocAttr, EW, r53, S6, S5, S4, S3, S2, S1, ge_iff_le, gt_iff_lt, inV, hIc, w1, w2, w3, w4, nf.nil, nf.form, nf.abs, nf.div, nf.lsh, nf.rsh, p1, p2, z1, z2, z3, z4, z5, fm, m]
                all_goals simp [oneK, w1, bh, fm, m]
              · simp only [WK, simprocAttr, c53, n53, S6, S5, S4, S3, S2, S1, ge_iff_le, gt_iff_lt, inV, hIc, w1, w2, w3, w4, nf.nil, nf.form, nf.abs, nf.div, nf.lsh, nf.rsh, p1, p2, z1, z2, z3, z4, z5, fm, m]
                simp only [WK, simprocAttr, EW, r53, S6, S5, S4, S3, S2, S1, ge_iff_le, gt_iff_lt, inV, hIc, w1, w2, w3, w4, nf.nil, nf.form, nf.abs, nf.div, nf.lsh, nf.rsh, p1, p2, z1, z2, z3, z4, z5, fm, m]
                all_goals simp [oneK, w1, bh, fm, m]
            · by_cases f3 : formK c = 3
              · by_cases m : 16 ≤ k
                · simp only [WK, simprocAttr, c53, n53, S6, S5, S4, S3, S2, S1, ge_iff_le, gt_iff_lt, inV, hIc, w1, w2, w3, w4, nf.nil, nf.form, nf.abs, nf.div, nf.lsh, nf.rsh, p1, p2, z1, z2, z3, z4, z5, e32, e52, e100, e116, f3, m]
                  simp only [WK, simprocAttr, EW, r53, S6, S5, S4, S3, S2, S1, ge_iff_le, gt_iff_lt, inV, hIc, w1, w2, w3, w4, nf.nil, nf.form, nf.abs, nf.div, nf.lsh, nf.rsh, p1, p2, z1, z2, z3, z4, z5, e32, e52, e100, e116, f3, m]
                  all_goals simp [oneK, w1, bh, e32, e52, e100, e116, f3, m]
                · simp only [WK, simprocAttr, c53, n53, S6, S5, S4, S3, S2, S1, ge_iff_le, gt_iff_lt, inV, hIc, w1, w2, w3, w4, nf.nil, nf.form, nf.abs, nf.div, nf.lsh, nf.rsh, p1, p2, z1, z2, z3, z4, z5, e32, e52, e100, e116, f3, m]
                  simp only [WK, simprocAttr, EW, r53, S6, S5, S4, S3, S2, S1, ge_iff_le, gt_iff_lt, inV, hIc, w1, w2, w3, w4, nf.nil, nf.form, nf.abs, nf.div, nf.lsh, nf.rsh, p1, p2, z1, z2, z3, z4, z5, e32, e52, e100, e116, f3, m]
                  all_goals simp [oneK, w1, bh, e32, e52, e100, e116, f3, m]
              · by_cases f4 : formK c = 4
                · by_cases m : (0 : Int) ≤ k
                  · simp only [WK, simprocAttr, c53, n53, S6, S5, S4, S3, S2, S1, ge_iff_le, gt_iff_lt, inV, hIc, w1, w2, w3, w4, nf.nil, nf.form, nf.abs, nf.div, nf.lsh, nf.rsh, p1, p2, z1, z2, z3, z4, z5, e32, e52, e100, e116, f4, m]
                    simp only [WK, simprocAttr, EW, r53, S6, S5, S4, S3, S2, S1, ge_iff_le, gt_iff_lt, inV, hIc, w1, w2, w3, w4, nf.nil, nf.form, nf.abs, nf.div, nf.lsh, nf.rsh, p1, p2, z1, z2, z3, z4, z5, e32, e52, e100, e116, f4, m]
                    all_goals simp [oneK, w1, bh, e32, e52, e100, e116, f4, m]
                  · simp only [WK, simprocAttr, c53, n53, S6, S5, S4, S3, S2, S1, ge_iff_le, gt_iff_lt, inV, hIc, w1, w2, w3, w4, nf.nil, nf.form, nf.abs, nf.div, nf.lsh, nf.rsh, p1, p2, z1, z2, z3, z4, z5, e32, e52, e100, e116, f4, m]
                    simp only [WK, simprocAttr, EW, r53, S6, S5, S4, S3, S2, S1, ge_iff_le, gt_iff_lt, inV, hIc, w1, w2, w3, w4, nf.nil, nf.form, nf.abs, nf.div, nf.lsh, nf.rsh, p1, p2, z1, z2, z3, z4, z5, e32, e52, e100, e116, f4, m]
                    all_goals simp [oneK, w1, bh, e32, e52, e100, e116, f4, m]
                · by_cases f5 : formK c = 5
                  · by_cases x : a < b
                    · by_cases m : (0 : Int) ≤ b
                      · by_cases m1 : (0 : Int) ≤ a
                        · simp only [WK, simprocAttr, c53, n53, S6, S5, S4, S3, S2, S1, ge_iff_le, gt_iff_lt, inV, hIc, w1, w2, w3, w4, nf.nil, nf.form, nf.abs, nf.div, nf.lsh, nf.rsh, p1, p2, z1, z2, z3, z4, z5, e32, e52, e100, e116, f5, x, m, m1]
                          simp only [WK, simprocAttr, EW, r53, S6, S5, S4, S3, S2, S1, ge_iff_le, gt_iff_lt, inV, hIc, w1, w2, w3, w4, nf.nil, nf.form, nf.abs, nf.div, nf.lsh, nf.rsh, p1, p2, z1, z2, z3, z4, z5, e32, e52, e100, e116, f5, x, m, m1]
                          all_goals simp [oneK, w1, bh, e32, e52, e100, e116, f5, x, m, m1]
                        · simp only [WK, simprocAttr, c53, n53, S6, S5, S4, S3, S2, S1, ge_iff_le, gt_iff_lt, inV, hIc, w1, w2, w3, w4, nf.nil, nf.form, nf.abs, nf.div, nf.lsh, nf.rsh, p1, p2, z1, z2, z3, z4, z5, e32, e52, e100, e116, f5, x, m, m1]
                          simp only [WK, simprocAttr, EW, r53, S6, S5, S4, S3, S2, S1, ge_iff_le, gt_iff_lt, inV, hIc, w1, w2, w3, w4, nf.nil, nf.form, nf.abs, nf.div, nf.lsh, nf.rsh, p1, p2, z1, z2, z3, z4, z5, e32, e52, e100, e116, f5, x, m, m1]
                          all_goals simp [oneK, w1, bh, e32, e52, e100, e116, f5, x, m, m1]
                      · have m1 : ¬ (0 : Int) ≤ a := by omega
                        simp only [WK, simprocAttr, c53, n53, S6, S5, S4, S3, S2, S1, ge_iff_le, gt_iff_lt, inV, hIc, w1, w2, w3, w4, nf.nil, nf.form, nf.abs, nf.div, nf.lsh, nf.rsh, p1, p2, z1, z2, z3, z4, z5, e32, e52, e100, e116, f5, x, m, m1]
                        simp only [WK, simprocAttr, EW, r53, S6, S5, S4, S3, S2, S1, ge_iff_le, gt_iff_lt, inV, hIc, w1, w2, w3, w4, nf.nil, nf.form, nf.abs, nf.div, nf.lsh, nf.rsh, p1, p2, z1, z2, z3, z4, z5, e32, e52, e100, e116, f5, x, m, m1]
                        all_goals simp [oneK, w1, bh, e32, e52, e100, e116, f5, x, m, m1]
                    · by_cases m : (0 : Int) ≤ a
                      · by_cases m1 : (0 : Int) ≤ b
                        · simp only [WK, simprocAttr, c53, n53, S6, S5, S4, S3, S2, S1, ge_iff_le, gt_iff_lt, inV, hIc, w1, w2, w3, w4, nf.nil, nf.form, nf.abs, nf.div, nf.lsh, nf.rsh, p1, p2, z1, z2, z3, z4, z5, e32, e52, e100, e116, f5, x, m, m1]
                          simp only [WK, simprocAttr, EW, r53, S6, S5, S4, S3, S2, S1, ge_iff_le, gt_iff_lt, inV, hIc, w1, w2, w3, w4, nf.nil, nf.form, nf.abs, nf.div, nf.lsh, nf.rsh, p1, p2, z1, z2, z3, z4, z5, e32, e52, e100, e116, f5, x, m, m1]
                          all_goals simp [oneK, w1, bh, e32, e52, e100, e116, f5, x, m, m1]
                        · simp only [WK, simprocAttr, c53, n53, S6, S5, S4, S3, S2, S1, ge_iff_le, gt_iff_lt, inV, hIc, w1, w2, w3, w4, nf.nil, nf.form, nf.abs, nf.div, nf.lsh, nf.rsh, p1, p2, z1, z2, z3, z4, z5, e32, e52, e100, e116, f5, x, m, m1]
                          simp only [WK, simprocAttr, EW, r53, S6, S5, S4, S3, S2, S1, ge_iff_le, gt_iff_lt, inV, hIc, w1, w2, w3, w4, nf.nil, nf.form, nf.abs, nf.div, nf.lsh, nf.rsh, p1, p2, z1, z2, z3, z4, z5, e32, e52, e100, e116, f5, x, m, m1]
                          all_goals simp [oneK, w1, bh, e32, e52, e100, e116, f5, x, m, m1]
                      · have m1 : ¬ (0 : Int) ≤ b := by omega
                        simp only [WK, simprocAttr, c53, n53, S6, S5, S4, S3, S2, S1, ge_iff_le, gt_iff_lt, inV, hIc, w1, w2, w3, w4, nf.nil, nf.form, nf.abs, nf.div, nf.lsh, nf.rsh, p1, p2, z1, z2, z3, z4, z5, e32, e52, e100, e116, f5, x, m, m1]
                        simp only [WK, simprocAttr, EW, r53, S6, S5, S4, S3, S2, S1, ge_iff_le, gt_iff_lt, inV, hIc, w1, w2, w3, w4, nf.nil, nf.form, nf.abs, nf.div, nf.lsh, nf.rsh, p1, p2, z1, z2, z3, z4, z5, e32, e52, e100, e116, f5, x, m, m1]
                        all_goals simp [oneK, w1, bh, e32, e52, e100, e116, f5, x, m, m1]
                  · by_cases f6 : formK c = 6
                    · by_cases x : a < b
                      · by_cases m : (0 : Int) ≤ b
                        · by_cases m1 : (0 : Int) ≤ a
                          · simp only [WK, simprocAttr, c53, n53, S6, S5, S4, S3, S2, S1, ge_iff_le, gt_iff_lt, inV, hIc, w1, w2, w3, w4, nf.nil, nf.form, nf.abs, nf.div, nf.lsh, nf.rsh, p1, p2, z1, z2, z3, z4, z5, e32, e52, e100, e116, f6, x, m, m1]
                            simp only [WK, simprocAttr, EW, r53, S6, S5, S4, S3, S2, S1, ge_iff_le, gt_iff_lt, inV, hIc, w1, w2, w3, w4, nf.nil, nf.form, nf.abs, nf.div, nf.lsh, nf.rsh, p1, p2, z1, z2, z3, z4, z5, e32, e52, e100, e116, f6, x, m, m1]
                            all_goals simp [oneK, w1, bh, e32, e52, e100, e116, f6, x, m, m1]
                          · simp only [WK, simprocAttr, c53, n53, S6, S5, S4, S3, S2, S1, ge_iff_le, gt_iff_lt, inV, hIc, w1, w2, w3, w4, nf.nil, nf.form, nf.abs, nf.div, nf.lsh, nf.rsh, p1, p2, z1, z2, z3, z4, z5, e32, e52, e100, e116, f6, x, m, m1]
                            simp only [WK, simprocAttr, EW, r53, S6, S5, S4, S3, S2, S1, ge_iff_le, gt_iff_lt, inV, hIc, w1, w2, w3, w4, nf.nil, nf.form, nf.abs, nf.div, nf.lsh, nf.rsh, p1, p2, z1, z2, z3, z4, z5, e32, e52, e100, e116, f6, x, m, m1]
                            all_goals simp [oneK, w1, bh, e32, e52, e100, e116, f6, x, m, m1]
                        · have m1 : ¬ (0 : Int) ≤ a := by omega
                          simp only [WK, simprocAttr, c53, n53, S6, S5, S4, S3, S2, S1, ge_iff_le, gt_iff_lt, inV, hIc, w1, w2, w3, w4, nf.nil, nf.form, nf.abs, nf.div, nf.lsh, nf.rsh, p1, p2, z1, z2, z3, z4, z5, e32, e52, e100, e116, f6, x, m, m1]
                          simp only [WK, simprocAttr, EW, r53, S6, S5, S4, S3, S2, S1, ge_iff_le, gt_iff_lt, inV, hIc, w1, w2, w3, w4, nf.nil, nf.form, nf.abs, nf.div, nf.lsh, nf.rsh, p1, p2, z1, z2, z3, z4, z5, e32, e52, e100, e116, f6, x, m, m1]
                          all_goals simp [oneK, w1, bh, e32, e52, e100, e116, f6, x, m, m1]
                      · by_cases m : (0 : Int) ≤ a
                        · by_cases m1 : (0 : Int) ≤ b
                          · simp only [WK, simprocAttr, c53, n53, S6, S5, S4, S3, S2, S1, ge_iff_le, gt_iff_lt, inV, hIc, w1, w2, w3, w4, nf.nil, nf.form, nf.abs, nf.div, nf.lsh, nf.rsh, p1, p2, z1, z2, z3, z4, z5, e32, e52, e100, e116, f6, x, m, m1]
                            simp only [WK, simprocAttr, EW, r53, S6, S5, S4, S3, S2, S1, ge_iff_le, gt_iff_lt, inV, hIc, w1, w2, w3, w4, nf.nil, nf.form, nf.abs, nf.div, nf.lsh, nf.rsh, p1, p2, z1, z2, z3, z4, z5, e32, e52, e100, e116, f6, x, m, m1]
                            all_goals simp [oneK, w1, bh, e32, e52, e100, e116, f6, x, m, m1]
                          · simp only [WK, simprocAttr, c53, n53, S6, S5, S4, S3, S2, S1, ge_iff_le, gt_iff_lt, inV, hIc, w1, w2, w3, w4, nf.nil, nf.form, nf.abs, nf.div, nf.lsh, nf.rsh, p1, p2, z1, z2, z3, z4, z5, e32, e52, e100, e116, f6, x, m, m1]
                            simp only [WK, simprocAttr, EW, r53, S6, S5, S4, S3, S2, S1, ge_iff_le, gt_iff_lt, inV, hIc, w1, w2, w3, w4, nf.nil, nf.form, nf.abs, nf.div, nf.lsh, nf.rsh, p1, p2, z1, z2, z3, z4, z5, e32, e52, e100, e116, f6, x, m, m1]
                            all_goals simp [oneK, w1, bh, e32, e52, e100, e116, f6, x, m, m1]
                        · have m1 : ¬ (0 : Int) ≤ b := by omega
                          simp only [WK, simprocAttr, c53, n53, S6, S5, S4, S3, S2, S1, ge_iff_le, gt_iff_lt, inV, hIc, w1, w2, w3, w4, nf.nil, nf.form, nf.abs, nf.div, nf.lsh, nf.rsh, p1, p2, z1, z2, z3, z4, z5, e32, e52, e100, e116, f6, x, m, m1]
                          simp only [WK, simprocAttr, EW, r53, S6, S5, S4, S3, S2, S1, ge_iff_le, gt_iff_lt, inV, hIc, w1, w2, w3, w4, nf.nil, nf.form, nf.abs, nf.div, nf.lsh, nf.rsh, p1, p2, z1, z2, z3, z4, z5, e32, e52, e100, e116, f6, x, m, m1]
                          all_goals simp [oneK, w1, bh, e32, e52, e100, e116, f6, x, m, m1]
                    · simp only [WK, simprocAttr, c53, n53, S6, S5, S4, S3, S2, S1, ge_iff_le, gt_iff_lt, inV, hIc, w1, w2, w3, w4, nf.nil, nf.form, nf.abs, nf.div, nf.lsh, nf.rsh, p1, p2, z1, z2, z3, z4, z5, e32, e52, e100, e116, f0, f3, f4, f5, f6]
                      simp only [WK, simprocAttr, EW, r53, S6, S5, S4, S3, S2, S1, ge_iff_le, gt_iff_lt, inV, hIc, w1, w2, w3, w4, nf.nil, nf.form, nf.abs, nf.div, nf.lsh, nf.rsh, p1, p2, z1, z2, z3, z4, z5, e32, e52, e100, e116, f0, f3, f4, f5, f6]
                      all_goals simp [oneK, w1, bh, e32, e52, e100, e116, f0, f3, f4, f5, f6]
end Go.Av
