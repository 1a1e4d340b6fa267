/- The walk's rules as one set of rewriting rules. -/
import Derived.Test.YtgpaipedklilkaaGreatMf
import Derived.Test.YtgpaipedklilkaaGreatMv
import Derived.Test.YtgpaipedklilkaaGreatMu
set_option linter.unusedVariables false
set_option linter.unusedSimpArgs false
namespace Go.Av
open Go
theorem gcl {α : Type} (l : List α) (a : α) : (l ++ [a])[l.length]? = some a := by simp
theorem WN : type_of% (And.intro (And.intro (And.intro (And.intro (And.intro (And.intro (And.intro (And.intro @argS.eq_1 @argS.eq_2) (And.intro @x_skip @x_exit)) (And.intro (And.intro @x_ret @x_seq) (And.intro @x_block @x_cond))) (And.intro (And.intro (And.intro @x_nil @x_cons) (And.intro @x_draw @q_nil)) (And.intro (And.intro @q_cons @den_nil) (And.intro @den_code (And.intro @den_codeR @den_codeE))))) (And.intro (And.intro (And.intro (And.intro @den_blk @den_blkR) (And.intro @den_blkE @den_lp)) (And.intro (And.intro @den_lpR @den_lpE) (And.intro @set_push (And.intro @stp_v @stp_call)))) (And.intro (And.intro (And.intro @stp_yield @stp_ite) (And.intro @stpQ_v @stpQ_call)) (And.intro (And.intro @stpQ_ite @cnd_bool) (And.intro @cnd_any (And.intro @stepR.eq_1 @stepR.eq_2)))))) (And.intro (And.intro (And.intro (And.intro (And.intro @callR.eq_1 @callR.eq_2) (And.intro @callR.eq_3 @astep.eq_1)) (And.intro (And.intro @astep.eq_2 @astep.eq_3) (And.intro @astep.eq_4 (And.intro @astep.eq_5 @astep.eq_6)))) (And.intro (And.intro (And.intro @astep.eq_7 @astep.eq_8) (And.intro @astep.eq_9 @astep.eq_10)) (And.intro (And.intro @astep.eq_11 @astep.eq_12) (And.intro @astep.eq_13 (And.intro @astep.eq_14 @astep.eq_15))))) (And.intro (And.intro (And.intro (And.intro @astep.eq_16 @astep.eq_17) (And.intro @astep.eq_18 @astep.eq_19)) (And.intro (And.intro @astep.eq_20 @astep.eq_21) (And.intro @astep.eq_22 (And.intro @astep.eq_23 @astep.eq_24)))) (And.intro (And.intro (And.intro @astep.eq_25 @astep.eq_26) (And.intro @astep.eq_27 @astep.eq_28)) (And.intro (And.intro @astep.eq_29 @astep.eq_30) (And.intro @astep.eq_31 (And.intro @astep.eq_32 @astep.eq_33))))))) (And.intro (And.intro (And.intro (And.intro (And.intro (And.intro @astep.eq_34 @astep.eq_35) (And.intro @astep.eq_36 @astep.eq_37)) (And.intro (And.intro @astep.eq_38 @astep.eq_39) (And.intro @astep.eq_40 (And.intro @astep.eq_41 @astep.eq_42)))) (And.intro (And.intro (And.intro @astep.eq_43 @astep.eq_44) (And.intro @astep.eq_45 @astep.eq_46)) (And.intro (And.intro @astep.eq_47 @astep.eq_48) (And.intro @astep.eq_49 (And.intro @astep.eq_50 @astep.eq_51))))) (And.intro (And.intro (And.intro (And.intro @astep.eq_52 @astep.eq_53) (And.intro @ev.eq_1 @ev.eq_2)) (And.intro (And.intro @alook.eq_1 @alook.eq_2) (And.intro @AFr.put.eq_1 (And.intro @AFr.put.eq_2 @AFr.inb.eq_1)))) (And.intro (And.intro (And.intro @AFr.inb.eq_2 @rv.eq_1) (And.intro @rv.eq_2 @abin.eq_1)) (And.intro (And.intro @abin.eq_2 @abin.eq_3) (And.intro @abin.eq_4 (And.intro @abin.eq_5 @abin.eq_6)))))) (And.intro (And.intro (And.intro (And.intro (And.intro @abin.eq_7 @abin.eq_8) (And.intro @abin.eq_9 @abin.eq_10)) (And.intro (And.intro @abin.eq_11 @abin.eq_12) (And.intro @abin.eq_13 (And.intro @abin.eq_14 @abin.eq_15)))) (And.intro (And.intro (And.intro @abin.eq_16 @abin.eq_17) (And.intro @abin.eq_18 @abin.eq_19)) (And.intro (And.intro @abin.eq_20 @abin.eq_21) (And.intro @abin.eq_22 (And.intro @aeqp.eq_1 @aeqp.eq_2))))) (And.intro (And.intro (And.intro (And.intro @aeqp.eq_3 @aeqp.eq_4) (And.intro @afill.eq_1 @afill.eq_2)) (And.intro (And.intro @splice.eq_1 @okE.eq_1) (And.intro @okC.eq_1 (And.intro @cells_agg @cells_int)))) (And.intro (And.intro (And.intro @cells_bool @cells_str) (And.intro @cells_nilp @cells_rp)) (And.intro (And.intro @cells_cp @cells_sl) (And.intro @cells_rf (And.intro @cells_mp @cells_nilmap)))))))) (And.intro (And.intro (And.intro (And.intro (And.intro (And.intro (And.intro @cells_fn @cells_yld) (And.intro @cells_nilfn @AV.one.eq_1)) (And.intro (And.intro @AV.one.eq_2 @AV.one.eq_3) (And.intro @AV.one.eq_4 (And.intro @ptrCells.eq_1 @ptrCells.eq_2)))) (And.intro (And.intro (And.intro @ptrCells.eq_3 @takeAs.eq_1) (And.intro @takeAs.eq_2 @recell.eq_1)) (And.intro (And.intro @recell.eq_2 @snap.eq_1) (And.intro @snap.eq_2 (And.intro @sn1.eq_1 @sn1.eq_2))))) (And.intro (And.intro (And.intro (And.intro @sn1.eq_3 @shift.eq_1) (And.intro @shift.eq_2 @sh1.eq_1)) (And.intro (And.intro @sh1.eq_2 @sh1.eq_3) (And.intro @stAt.eq_1 (And.intro @stAt.eq_2 @elems.eq_1)))) (And.intro (And.intro (And.intro @elems.eq_2 @elems.eq_3) (And.intro @amin.eq_1 @amin.eq_2)) (And.intro (And.intro @amax.eq_1 @amax.eq_2) (And.intro @optInt.eq_1 (And.intro @optInt.eq_2 @true_and)))))) (And.intro (And.intro (And.intro (And.intro (And.intro @and_true @decide_true) (And.intro @decide_false @decide_eq_true_eq)) (And.intro (And.intro @decide_eq_false_iff_not @ne_eq.{1}) (And.intro @not_true_eq_false (And.intro @not_false_eq_true @beq_iff_eq.{0})))) (And.intro (And.intro (And.intro @beq_eq_false_iff_ne.{0} @bne_iff_ne.{0}) (And.intro @Jump.exit.injEq @List.foldl_nil.{0,0})) (And.intro (And.intro @List.foldl_cons.{0,0} @List.map_cons.{0,0}) (And.intro @List.map_nil.{0,0} (And.intro @List.getD_nil.{0} @List.nodup_nil.{0}))))) (And.intro (And.intro (And.intro (And.intro @List.flatMap_cons.{0,0} @List.flatMap_nil.{0,0}) (And.intro @List.append_nil.{0} @List.nil_append.{0})) (And.intro (And.intro @List.cons_append.{0} @Option.getD_some.{0}) (And.intro @Option.getD_none.{0} (And.intro @List.length_cons.{0} @List.length_nil.{0})))) (And.intro (And.intro (And.intro @List.getElem?_cons_zero.{0} @List.getElem?_cons_succ.{0}) (And.intro @List.getElem?_nil.{0} @List.set_cons_zero.{0})) (And.intro (And.intro @List.set_cons_succ.{0} @List.set_nil.{0}) (And.intro @List.take_succ_cons.{0} (And.intro @List.take_zero.{0} @List.drop_zero.{0}))))))) (And.intro (And.intro (And.intro (And.intro (And.intro (And.intro @List.drop_succ_cons.{0} @List.all_cons.{0}) (And.intro @List.all_nil.{0} @Bool.and_true)) (And.intro (And.intro @Bool.true_and @beq_self_eq_true.{0}) (And.intro @true_or (And.intro @or_true @false_or)))) (And.intro (And.intro (And.intro @or_false @false_and) (And.intro @and_false @Bool.false_eq_true)) (And.intro (And.intro @Bool.true_eq_false @forall_const.{0}) (And.intro @forall_const.{1} (And.intro @implies_true.{0} @implies_true.{1}))))) (And.intro (And.intro (And.intro (And.intro @List.head?_cons.{0} @List.getD_cons_zero.{0}) (And.intro @List.getD_cons_succ.{0} @List.drop_nil.{0})) (And.intro (And.intro @List.take_nil.{0} @Nat.zero_add) (And.intro @Nat.add_zero (And.intro @sb_eq @sb_size)))) (And.intro (And.intro (And.intro @sb_append @forall_eq.{1}) (And.intro @imp_self @List.length_append.{0})) (And.intro (And.intro @List.length_map.{0,0} @Bool.not_eq_true) (And.intro @Bool.not_true (And.intro @Bool.not_false @Int.toNat_natCast)))))) (And.intro (And.intro (And.intro (And.intro (And.intro @Bool.not_eq_eq_eq_not @bne_self_eq_false.{0}) (And.intro @Bool.false_bne @Bool.true_bne)) (And.intro (And.intro @Bool.bne_false @Bool.bne_true) (And.intro @bne_eq_false_iff_eq.{0} (And.intro @Bool.not_eq_false @Bool.not_not)))) (And.intro (And.intro (And.intro @Bool.true_beq @Bool.false_beq) (And.intro @Int.le_refl @Nat.mul_one)) (And.intro (And.intro @Nat.one_mul @Int.cast_ofNat_Int) (And.intro @gcl (And.intro @tab_s @tab_g))))) (And.intro (And.intro (And.intro (And.intro @tab_l @loudD.eq_1) (And.intro @loudD.eq_2 @opLoud.eq_1)) (And.intro (And.intro @opLoud.eq_2 @opLoud.eq_3) (And.intro @opLoud.eq_4 (And.intro @opLoud.eq_5 @opLoud.eq_6)))) (And.intro (And.intro (And.intro @opLoud.eq_7 @opLoud.eq_8) (And.intro @opLoud.eq_9 @opLoud.eq_10)) (And.intro (And.intro @List.headD_cons.{0} @Option.isNone_some.{0}) (And.intro @Option.isNone_none.{0} (And.intro @Bool.false_or @Bool.or_false))))))))) := (And.intro (And.intro (And.intro (And.intro (And.intro (And.intro (And.intro (And.intro @argS.eq_1 @argS.eq_2) (And.intro @x_skip @x_exit)) (And.intro (And.intro @x_ret @x_seq) (And.intro @x_block @x_cond))) (And.intro (And.intro (And.intro @x_nil @x_cons) (And.intro @x_draw @q_nil)) (And.intro (And.intro @q_cons @den_nil) (And.intro @den_code (And.intro @den_codeR @den_codeE))))) (And.intro (And.intro (And.intro (And.intro @den_blk @den_blkR) (And.intro @den_blkE @den_lp)) (And.intro (And.intro @den_lpR @den_lpE) (And.intro @set_push (And.intro @stp_v @stp_call)))) (And.intro (And.intro (And.intro @stp_yield @stp_ite) (And.intro @stpQ_v @stpQ_call)) (And.intro (And.intro @stpQ_ite @cnd_bool) (And.intro @cnd_any (And.intro @stepR.eq_1 @stepR.eq_2)))))) (And.intro (And.intro (And.intro (And.intro (And.intro @callR.eq_1 @callR.eq_2) (And.intro @callR.eq_3 @astep.eq_1)) (And.intro (And.intro @astep.eq_2 @astep.eq_3) (And.intro @astep.eq_4 (And.intro @astep.eq_5 @astep.eq_6)))) (And.intro (And.intro (And.intro @astep.eq_7 @astep.eq_8) (And.intro @astep.eq_9 @astep.eq_10)) (And.intro (And.intro @astep.eq_11 @astep.eq_12) (And.intro @astep.eq_13 (And.intro @astep.eq_14 @astep.eq_15))))) (And.intro (And.intro (And.intro (And.intro @astep.eq_16 @astep.eq_17) (And.intro @astep.eq_18 @astep.eq_19)) (And.intro (And.intro @astep.eq_20 @astep.eq_21) (And.intro @astep.eq_22 (And.intro @astep.eq_23 @astep.eq_24)))) (And.intro (And.intro (And.intro @astep.eq_25 @astep.eq_26) (And.intro @astep.eq_27 @astep.eq_28)) (And.intro (And.intro @astep.eq_29 @astep.eq_30) (And.intro @astep.eq_31 (And.intro @astep.eq_32 @astep.eq_33))))))) (And.intro (And.intro (And.intro (And.intro (And.intro (And.intro @astep.eq_34 @astep.eq_35) (And.intro @astep.eq_36 @astep.eq_37)) (And.intro (And.intro @astep.eq_38 @astep.eq_39) (And.intro @astep.eq_40 (And.intro @astep.eq_41 @astep.eq_42)))) (And.intro (And.intro (And.intro @astep.eq_43 @astep.eq_44) (And.intro @astep.eq_45 @astep.eq_46)) (And.intro (And.intro @astep.eq_47 @astep.eq_48) (And.intro @astep.eq_49 (And.intro @astep.eq_50 @astep.eq_51))))) (And.intro (And.intro (And.intro (And.intro @astep.eq_52 @astep.eq_53) (And.intro @ev.eq_1 @ev.eq_2)) (And.intro (And.intro @alook.eq_1 @alook.eq_2) (And.intro @AFr.put.eq_1 (And.intro @AFr.put.eq_2 @AFr.inb.eq_1)))) (And.intro (And.intro (And.intro @AFr.inb.eq_2 @rv.eq_1) (And.intro @rv.eq_2 @abin.eq_1)) (And.intro (And.intro @abin.eq_2 @abin.eq_3) (And.intro @abin.eq_4 (And.intro @abin.eq_5 @abin.eq_6)))))) (And.intro (And.intro (And.intro (And.intro (And.intro @abin.eq_7 @abin.eq_8) (And.intro @abin.eq_9 @abin.eq_10)) (And.intro (And.intro @abin.eq_11 @abin.eq_12) (And.intro @abin.eq_13 (And.intro @abin.eq_14 @abin.eq_15)))) (And.intro (And.intro (And.intro @abin.eq_16 @abin.eq_17) (And.intro @abin.eq_18 @abin.eq_19)) (And.intro (And.intro @abin.eq_20 @abin.eq_21) (And.intro @abin.eq_22 (And.intro @aeqp.eq_1 @aeqp.eq_2))))) (And.intro (And.intro (And.intro (And.intro @aeqp.eq_3 @aeqp.eq_4) (And.intro @afill.eq_1 @afill.eq_2)) (And.intro (And.intro @splice.eq_1 @okE.eq_1) (And.intro @okC.eq_1 (And.intro @cells_agg @cells_int)))) (And.intro (And.intro (And.intro @cells_bool @cells_str) (And.intro @cells_nilp @cells_rp)) (And.intro (And.intro @cells_cp @cells_sl) (And.intro @cells_rf (And.intro @cells_mp @cells_nilmap)))))))) (And.intro (And.intro (And.intro (And.intro (And.intro (And.intro (And.intro @cells_fn @cells_yld) (And.intro @cells_nilfn @AV.one.eq_1)) (And.intro (And.intro @AV.one.eq_2 @AV.one.eq_3) (And.intro @AV.one.eq_4 (And.intro @ptrCells.eq_1 @ptrCells.eq_2)))) (And.intro (And.intro (And.intro @ptrCells.eq_3 @takeAs.eq_1) (And.intro @takeAs.eq_2 @recell.eq_1)) (And.intro (And.intro @recell.eq_2 @snap.eq_1) (And.intro @snap.eq_2 (And.intro @sn1.eq_1 @sn1.eq_2))))) (And.intro (And.intro (And.intro (And.intro @sn1.eq_3 @shift.eq_1) (And.intro @shift.eq_2 @sh1.eq_1)) (And.intro (And.intro @sh1.eq_2 @sh1.eq_3) (And.intro @stAt.eq_1 (And.intro @stAt.eq_2 @elems.eq_1)))) (And.intro (And.intro (And.intro @elems.eq_2 @elems.eq_3) (And.intro @amin.eq_1 @amin.eq_2)) (And.intro (And.intro @amax.eq_1 @amax.eq_2) (And.intro @optInt.eq_1 (And.intro @optInt.eq_2 @true_and)))))) (And.intro (And.intro (And.intro (And.intro (And.intro @and_true @decide_true) (And.intro @decide_false @decide_eq_true_eq)) (And.intro (And.intro @decide_eq_false_iff_not @ne_eq.{1}) (And.intro @not_true_eq_false (And.intro @not_false_eq_true @beq_iff_eq.{0})))) (And.intro (And.intro (And.intro @beq_eq_false_iff_ne.{0} @bne_iff_ne.{0}) (And.intro @Jump.exit.injEq @List.foldl_nil.{0,0})) (And.intro (And.intro @List.foldl_cons.{0,0} @List.map_cons.{0,0}) (And.intro @List.map_nil.{0,0} (And.intro @List.getD_nil.{0} @List.nodup_nil.{0}))))) (And.intro (And.intro (And.intro (And.intro @List.flatMap_cons.{0,0} @List.flatMap_nil.{0,0}) (And.intro @List.append_nil.{0} @List.nil_append.{0})) (And.intro (And.intro @List.cons_append.{0} @Option.getD_some.{0}) (And.intro @Option.getD_none.{0} (And.intro @List.length_cons.{0} @List.length_nil.{0})))) (And.intro (And.intro (And.intro @List.getElem?_cons_zero.{0} @List.getElem?_cons_succ.{0}) (And.intro @List.getElem?_nil.{0} @List.set_cons_zero.{0})) (And.intro (And.intro @List.set_cons_succ.{0} @List.set_nil.{0}) (And.intro @List.take_succ_cons.{0} (And.intro @List.take_zero.{0} @List.drop_zero.{0}))))))) (And.intro (And.intro (And.intro (And.intro (And.intro (And.intro @List.drop_succ_cons.{0} @List.all_cons.{0}) (And.intro @List.all_nil.{0} @Bool.and_true)) (And.intro (And.intro @Bool.true_and @beq_self_eq_true.{0}) (And.intro @true_or (And.intro @or_true @false_or)))) (And.intro (And.intro (And.intro @or_false @false_and) (And.intro @and_false @Bool.false_eq_true)) (And.intro (And.intro @Bool.true_eq_false @forall_const.{0}) (And.intro @forall_const.{1} (And.intro @implies_true.{0} @implies_true.{1}))))) (And.intro (And.intro (And.intro (And.intro @List.head?_cons.{0} @List.getD_cons_zero.{0}) (And.intro @List.getD_cons_succ.{0} @List.drop_nil.{0})) (And.intro (And.intro @List.take_nil.{0} @Nat.zero_add) (And.intro @Nat.add_zero (And.intro @sb_eq @sb_size)))) (And.intro (And.intro (And.intro @sb_append @forall_eq.{1}) (And.intro @imp_self @List.length_append.{0})) (And.intro (And.intro @List.length_map.{0,0} @Bool.not_eq_true) (And.intro @Bool.not_true (And.intro @Bool.not_false @Int.toNat_natCast)))))) (And.intro (And.intro (And.intro (And.intro (And.intro @Bool.not_eq_eq_eq_not @bne_self_eq_false.{0}) (And.intro @Bool.false_bne @Bool.true_bne)) (And.intro (And.intro @Bool.bne_false @Bool.bne_true) (And.intro @bne_eq_false_iff_eq.{0} (And.intro @Bool.not_eq_false @Bool.not_not)))) (And.intro (And.intro (And.intro @Bool.true_beq @Bool.false_beq) (And.intro @Int.le_refl @Nat.mul_one)) (And.intro (And.intro @Nat.one_mul @Int.cast_ofNat_Int) (And.intro @gcl (And.intro @tab_s @tab_g))))) (And.intro (And.intro (And.intro (And.intro @tab_l @loudD.eq_1) (And.intro @loudD.eq_2 @opLoud.eq_1)) (And.intro (And.intro @opLoud.eq_2 @opLoud.eq_3) (And.intro @opLoud.eq_4 (And.intro @opLoud.eq_5 @opLoud.eq_6)))) (And.intro (And.intro (And.intro @opLoud.eq_7 @opLoud.eq_8) (And.intro @opLoud.eq_9 @opLoud.eq_10)) (And.intro (And.intro @List.headD_cons.{0} @Option.isNone_some.{0}) (And.intro @Option.isNone_none.{0} (And.intro @Bool.false_or @Bool.or_false)))))))))
theorem WK : type_of% (And.intro @rowAt.eq_1 WN) := And.intro @rowAt.eq_1 WN
theorem EW : type_of% (And.intro (And.intro (And.intro (And.intro @EndQ.eq_1 @End.eq_1) (And.intro @aresl.eq_1 @aresl.eq_2)) (And.intro (And.intro @ares.eq_1 @ares.eq_2) (And.intro @kills.eq_1 (And.intro @resv.eq_1 @resv.eq_2)))) (And.intro (And.intro (And.intro @refs.eq_1 @refs.eq_2) (And.intro @refs1.eq_1 (And.intro @refs1.eq_2 @refs1.eq_3))) (And.intro (And.intro @rn.eq_1 @rn.eq_2) (And.intro @rn1.eq_1 (And.intro @rn1.eq_2 @rn1.eq_3))))) := (And.intro (And.intro (And.intro (And.intro @EndQ.eq_1 @End.eq_1) (And.intro @aresl.eq_1 @aresl.eq_2)) (And.intro (And.intro @ares.eq_1 @ares.eq_2) (And.intro @kills.eq_1 (And.intro @resv.eq_1 @resv.eq_2)))) (And.intro (And.intro (And.intro @refs.eq_1 @refs.eq_2) (And.intro @refs1.eq_1 (And.intro @refs1.eq_2 @refs1.eq_3))) (And.intro (And.intro @rn.eq_1 @rn.eq_2) (And.intro @rn1.eq_1 (And.intro @rn1.eq_2 @rn1.eq_3)))))
end Go.Av

/- General rules for walks, free of any seat's code. -/
set_option linter.unusedVariables false
set_option linter.unusedSimpArgs false
namespace Go.Av
open Go
set_option maxRecDepth 100000
set_option maxHeartbeats 2000000
theorem ACall.ofGT {P : Program} {S : Tab} (hS : TabOK P S) (hm : P.follows .mixedOrders = true) {f : FuncId} {ac : AC} {rs : List RV} {n : Nat} (hk : chk P f = some (ac, rs, n)) (hd : okD S.loud ac = true) {args : List AV} {r : AV} {h hR : AHeap} (hn : args.length ≤ n) (hst : Hstay h hR)
    (H : HB h → aS P S none ac (Fin P h rs r hR) { n := n, s := argS 0 args, dfr := [] } h) : ACall P f args h r hR :=
  ACall.of hm hk hn hst fun hb => aS_aw hS none ac hd _ _ (fun _ _ _ k => k) _ _ (H hb)
theorem ACall.ofG {P : Program} {S : Spec} (hS : SpecOK P S) (hm : P.follows .mixedOrders = true) {f : FuncId} {ac : AC} {rs : List RV} {n : Nat} (hk : chk P f = some (ac, rs, n)) (hd : okD S.tab.loud ac = true) {args : List AV} {r : AV} {h hR : AHeap} (hn : args.length ≤ n) (hst : Hstay h hR)
    (H : HB h → aS P S none ac (Fin P h rs r hR) { n := n, s := argS 0 args, dfr := [] } h) : ACall P f args h r hR := ACall.ofGT hS.tab hm hk hd hn hst H
/-- The end of a function that leaves its memory as it stands. -/
theorem Fin.plain {P : Program} {h : AHeap} {rs : List RV} {r : AV} {hR : AHeap} {j : Jump} {τ : AFr} {xs : List AV} (hj : j = .none ∨ j = .ret) (hd : τ.dfr = []) (hx : aresl τ.s hR rs = some xs) (hr : r = resv xs) : Fin P h rs r hR j τ hR := by
  refine ⟨hj, by rw [hd]; exact List.nodup_nil, by rw [hd]; intro i L _ hm; simp at hm, xs, by rw [hd]; exact hx, ?_⟩
  rw [hd, hr]
  exact Gst.refl _ _ _
section
variable (h l : AHeap)
theorem get0 : (h ++ l)[h.length]? = l[0]? := by rw [List.getElem?_append_right (Nat.le_refl _), Nat.sub_self]
theorem getk (k : Nat) : (h ++ l)[h.length + k]? = l[k]? := by rw [List.getElem?_append_right (Nat.le_add_right _ _), Nat.add_sub_cancel_left]
theorem rowAt0 (v : Nat) : rowAt (h ++ l) h.length v = rowAt l 0 v := by unfold rowAt; rw [get0]
theorem rowAtk (k v : Nat) : rowAt (h ++ l) (h.length + k) v = rowAt l k v := by unfold rowAt; rw [getk]
theorem set0 (o : AObj) : (h ++ l).set h.length o = h ++ l.set 0 o := by rw [List.set_append_right _ _ (Nat.le_refl _), Nat.sub_self]
theorem setk (k : Nat) (o : AObj) : (h ++ l).set (h.length + k) o = h ++ l.set k o := by rw [List.set_append_right _ _ (Nat.le_add_right _ _), Nat.add_sub_cancel_left]
end
def RQ2 (id : Nat) (r : AV) (h' : AHeap) (j : Jump) (τ2 : AFr) (h2 : AHeap) : Prop :=
  ∃ L2, h2[id]? = some (.loop L2) ∧ r = .bool (decide (j = .none)) ∧ h' = h2.set id (.loop { L2 with st := if j = .none then .ready else .done, pend := j })
def RQ1 (P : Program) (S : Tab) (id : Nat) (body : AC) (r : AV) (h' : AHeap) (j : Jump) (τ1 : AFr) (h1 : AHeap) : Prop :=
  j = .none ∧ ∃ L1, h1[id]? = some (.loop L1) ∧ L1.st = .ready ∧ aS P S (some id) body (RQ2 id r h') τ1 (h1.set id (.loop { L1 with st := .busy }))
theorem AYield.ofT {P : Program} {S : Tab} (hS : TabOK P S) (hm : P.follows .mixedOrders = true) {id : Nat} {L : ALoop} {args : List AV} {r : AV} {h h' : AHeap} (hL : h[id]? = some (.loop L)) (hlen : args.length = L.ps.length) (hps : ∀ p ∈ L.ps, p < L.n) (hd : Hstay h h')
    (d1 : okD S.loud L.assign = true) (d2 : okD S.loud L.body = true) (H : aS P S (some id) L.assign (RQ1 P S id L.body r h') { n := L.n, s := putArgs L.slots L.ps args, dfr := [] } h) : AYield P id args h r h' := by
  refine AYield.of hm hL hlen hps hd (aS_aw hS (some id) _ d1 _ _ (fun j τ1 h1 k => ?_) _ _ H)
  obtain ⟨k1, L1, k2, k3, k4⟩ := k
  exact ⟨k1, L1, k2, k3, aS_aw hS (some id) _ d2 _ _ (fun j τ2 h2 k => k) _ _ k4⟩
theorem AYield.ofS {P : Program} {S : Spec} (hS : SpecOK P S) (hm : P.follows .mixedOrders = true) {id : Nat} {L : ALoop} {args : List AV} {r : AV} {h h' : AHeap} (hL : h[id]? = some (.loop L)) (hlen : args.length = L.ps.length) (hps : ∀ p ∈ L.ps, p < L.n) (hd : Hstay h h')
    (d1 : okD S.tab.loud L.assign = true) (d2 : okD S.tab.loud L.body = true) (H : aS P S (some id) L.assign (RQ1 P S id L.body r h') { n := L.n, s := putArgs L.slots L.ps args, dfr := [] } h) : AYield P id args h r h' := AYield.ofT hS.tab hm hL hlen hps hd d1 d2 H
theorem stay_loop (h l l' : AHeap) (e : ∀ k : Nat, l[k]? = some .dfr → l'[k]? = some .dfr) : Hstay (h ++ l) (h ++ l') := by
  intro d hd
  rcases Nat.lt_or_ge d h.length with c | c
  · rw [List.getElem?_append_left c] at hd ⊢; exact hd
  · rw [List.getElem?_append_right c] at hd ⊢; exact e _ hd
theorem x_range {P : Program} {S : Tab} {rd : Option Nat} {k : List It} {Q : Jump → AFr → AHeap → Prop} {τ : AFr} {h : AHeap} (g : Opd) (ps : List Nat) (x y : AC) : aS P S rd (.rangeF g ps x y) (den P S rd k Q) τ h = awRange P rd g ps x y (den P S rd k Q) τ h := rfl
section
variable {P : Program}
/-- A ghost step at no value. -/
def GstH (P : Program) (h₀ h h' : AHeap) : Prop := ∀ ρ₀ w₀ ρ w, Step ρ₀ h₀ w₀ ρ h w → HR P ρ h w → ∃ ρ', HR P ρ' h' w ∧ Step ρ₀ h₀ w₀ ρ' h' w
theorem GstH.refl (h₀ h : AHeap) : GstH P h₀ h h := fun ρ₀ w₀ ρ w s hh => ⟨ρ, hh, s⟩
theorem GstH.drop {h₀ h l : AHeap} (hlen : h₀.length ≤ h.length) (hb : HB h) : GstH P h₀ (h ++ l) h := by
  intro ρ₀ w₀ ρ w s hh
  obtain ⟨ρ', h1, h2, h3⟩ := Gst.drop (P := P) (l := l) (x := .bool true) hlen hb (.bool _) ρ₀ w₀ ρ w (.bool true) s hh (.bool _)
  exact ⟨ρ', h1, h3⟩
theorem AYield.ghost {id : Nat} {args : List AV} {b : Bool} {h h1 h' : AHeap} (a : AYield P id args h (.bool b) h1) (g : GstH P h h1 h') (hd : Hstay h h') : AYield P id args h (.bool b) h' := by
  refine ⟨a.isLoop, hd, fun ρ w vals hh hv => ?_⟩
  obtain ⟨fn, tmps, asg, bd, e1, e2⟩ := a.run ρ w vals hh hv
  refine ⟨fn, tmps, asg, bd, e1, RoundIn.mono e2 fun e w' he => ?_⟩
  obtain ⟨v, ρ', rfl, f1, f2, f3⟩ := he
  obtain ⟨ρ2, g1, g2⟩ := g ρ w ρ' w' f3 f2
  cases f1
  exact ⟨_, ρ2, rfl, .bool _, g1, g2⟩
theorem ACall.ghost {f : FuncId} {args : List AV} {r r' : AV} {h h1 h' : AHeap} (a : ACall P f args h r h1) (g : Gst P h r h1 r' h') (hd : Hstay h h') : ACall P f args h r' h' := by
  refine ⟨a.enters, hd, fun ρ w vals hh hv => CallsIn.mono (a.run ρ w vals hh hv) fun e w' he => ?_⟩
  obtain ⟨v, ρ', rfl, f1, f2, f3⟩ := he
  obtain ⟨ρ2, g1, g2, g3⟩ := g ρ w ρ' w' v f3 f2 f1
  exact ⟨v, ρ2, rfl, g2, g1, g3⟩
section
variable {loud : List Nat} {iv : List (Nat × Nat)} {hs : Nat → AHeap} {i : Nat} {d : Option Nat} {op : AOpr} {af : List Nat} {r : List AOpD} {K : AFr → Prop} {τ : AFr}
theorem awL_q (x : AV) (lo hi : Nat) (hl : loud.contains i = false) (hv : iv.getD i (0, 0) = (lo, hi)) (hd : τ.inb d = true) (ha : ∀ k, lo ≤ k → k ≤ hi → astep τ.s (hs k) op = .v x (hs k)) (H : awL P loud iv hs (i + 1) r K (τ.put d x)) : awL P loud iv hs i (⟨d, none, op, af⟩ :: r) K τ := by
  refine ⟨hd, x, ?_, H⟩
  rw [if_neg (by rw [hl]; simp), hv]
  intro k h1 h2
  simp only [awR, awG, awOp]
  rw [ha k h1 h2]
  exact ⟨rfl, rfl⟩
theorem awL_cq (x : AV) (lo hi : Nat) {f : FuncId} {args : List AV} (hl : loud.contains i = false) (hv : iv.getD i (0, 0) = (lo, hi)) (hd : τ.inb d = true) (ha : ∀ k, lo ≤ k → k ≤ hi → astep τ.s (hs k) op = .call f args ∧ ACall P f args (hs k) x (hs k)) (H : awL P loud iv hs (i + 1) r K (τ.put d x)) : awL P loud iv hs i (⟨d, none, op, af⟩ :: r) K τ := by
  refine ⟨hd, x, ?_, H⟩
  rw [if_neg (by rw [hl]; simp), hv]
  intro k h1 h2
  simp only [awR, awG, awOp]
  rw [(ha k h1 h2).1]
  exact ⟨_, _, (ha k h1 h2).2, rfl, rfl⟩
theorem awL_st (q : Nat) (hl : loud.contains i = true) (hv : iv.getD i (0, 0) = (q, q)) (hd : τ.inb d = true) (ha : astep τ.s (hs q) op = .skip (hs (q + 1))) (H : awL P loud iv hs (i + 1) r K (τ.put d (.tup []))) : awL P loud iv hs i (⟨d, none, op, af⟩ :: r) K τ := by
  refine ⟨hd, .tup [], ?_, H⟩
  rw [if_pos hl, hv]
  simp only [awR, awG, awOp]
  rw [ha]
  exact ⟨trivial, rfl⟩
theorem awL_y (x : AV) (q : Nat) {id : Nat} {args : List AV} (hl : loud.contains i = true) (hv : iv.getD i (0, 0) = (q, q)) (hd : τ.inb d = true) (ha : astep τ.s (hs q) op = .yield id args) (hy : AYield P id args (hs q) x (hs (q + 1))) (H : awL P loud iv hs (i + 1) r K (τ.put d x)) : awL P loud iv hs i (⟨d, none, op, af⟩ :: r) K τ := by
  refine ⟨hd, x, ?_, H⟩
  rw [if_pos hl, hv]
  simp only [awR, awG, awOp]
  rw [ha]
  exact ⟨_, _, hy, rfl, rfl⟩
theorem awL_c (x : AV) (q : Nat) {f : FuncId} {args : List AV} (hl : loud.contains i = true) (hv : iv.getD i (0, 0) = (q, q)) (hd : τ.inb d = true) (ha : astep τ.s (hs q) op = .call f args) (hy : ACall P f args (hs q) x (hs (q + 1))) (H : awL P loud iv hs (i + 1) r K (τ.put d x)) : awL P loud iv hs i (⟨d, none, op, af⟩ :: r) K τ := by
  refine ⟨hd, x, ?_, H⟩
  rw [if_pos hl, hv]
  simp only [awR, awG, awOp]
  rw [ha]
  exact ⟨_, _, hy, rfl, rfl⟩
end
theorem drwL_of {P : Program} {S : Tab} {rd : Option Nat} {k : List It} {Q : Jump → AFr → AHeap → Prop} {τ : AFr} {h : AHeap} {l : List AOpD} (loud : List Nat) (iv : List (Nat × Nat)) (hs : Nat → AHeap) (hok : drawOK l (masks l []) loud iv = true) (h0 : hs 0 = h)
    (H : awL P loud iv hs 0 l (fun τ => den P S rd k Q .none τ (hs loud.length)) τ) : drwL (P := P) (S := S) (rd := rd) l k Q τ h := .inr (.inl ⟨_, loud, iv, hs, hok, h0, H⟩)
theorem rowAt_app {h : AHeap} {id v : Nat} {x : Nat × List AV} (e : rowAt h id v = some x) (X : AHeap) : rowAt (h ++ X) id v = some x := by
  have : id < h.length := by
    unfold rowAt at e
    split at e
    · rename_i hr; exact getElem?_lt hr
    · cases e
  unfold rowAt at *
  rw [List.getElem?_append_left this]
  exact e
end
theorem Bel.mono {n m : Nat} (hnm : n ≤ m) {x : AV} (h : Bel n x) : Bel m x := by
  induction h with
  | any => exact .any
  | int k i => exact .int k i
  | bool b => exact .bool b
  | str s => exact .str s
  | nilp => exact .nilp
  | rp id ver idx off h => exact .rp _ _ _ _ (by omega)
  | cp e off h ih => exact .cp _ _ ih
  | sl t xs h ih => exact .sl _ _ ih
  | rf id ver idx len h => exact .rf _ _ _ _ (by omega)
  | mp id h => exact .mp _ (by omega)
  | nilmap => exact .nilmap
  | fn f a b h1 h2 ih1 ih2 => exact .fn _ _ _ ih1 ih2
  | yld id h => exact .yld _ (by omega)
  | nilfn => exact .nilfn
  | anyb => exact .anyb
  | agg cs h ih => exact .agg _ ih
  | tup cs h ih => exact .tup _ ih
theorem OBel.mono {n m : Nat} (hnm : n ≤ m) {o : AObj} (h : OBel n o) : OBel m o := by
  cases o with
  | row v sz es => exact fun u hu => (h u hu).mono hnm
  | map es => exact fun p hp => ⟨(h p hp).1.mono hnm, (h p hp).2.mono hnm⟩
  | loop L => exact ⟨fun i => (h.1 i).mono hnm, Nat.lt_of_lt_of_le h.2 hnm⟩
  | dfr => trivial
  | dead => trivial
theorem HB.app {h l : AHeap} (hb : HB h) (hl : ∀ o ∈ l, OBel (h.length + l.length) o) : HB (h ++ l) := by
  intro i o hi
  rw [List.length_append]
  rcases Nat.lt_or_ge i h.length with c | c
  · rw [List.getElem?_append_left c] at hi
    exact (hb i o hi).mono (Nat.le_add_right _ _)
  · rw [List.getElem?_append_right c] at hi
    exact hl o (List.mem_of_getElem? hi)
theorem ACall.assume {P : Program} {f : FuncId} {args : List AV} {r : AV} {h h' : AHeap} (he : Enters P f) (hd : Hstay h h') (H : HB h → (∀ x ∈ args, Bel h.length x) → ACall P f args h r h') : ACall P f args h r h' := by
  refine ⟨he, hd, fun ρ w vals hh hv => (H hh.bel fun x hx => ?_).run ρ w vals hh hv⟩
  obtain ⟨j, hj⟩ := List.mem_iff_getElem?.1 hx
  exact (hv.2 j x hj).bel
theorem stay3 (h l l' X : AHeap) (hl : l.length = l'.length) (e : ∀ k : Nat, l[k]? = some .dfr → l'[k]? = some .dfr) : Hstay (h ++ l ++ X) (h ++ l' ++ X) := by
  rw [List.append_assoc, List.append_assoc]
  refine stay_loop _ _ _ fun k hk => ?_
  rcases Nat.lt_or_ge k l.length with c | c
  · rw [List.getElem?_append_left c] at hk
    rw [List.getElem?_append_left (by omega)]
    exact e k hk
  · rw [List.getElem?_append_right c] at hk
    rw [List.getElem?_append_right (by omega), ← hl]
    exact hk
theorem stay2 (h l l' : AHeap) (hl : l.length = l'.length) (e : ∀ k : Nat, l[k]? = some .dfr → l'[k]? = some .dfr) : Hstay (h ++ l) (h ++ l') := by
  have := stay3 h l l' [] hl e
  simpa using this
theorem x_rangeG {P : Program} {S : Tab} {k : List It} {Q : Jump → AFr → AHeap → Prop} {τ : AFr} {h : AHeap} {g : Opd} {ps : List Nat} {x y : AC} {f : FuncId} {first caps : List AV} (b b2 : Nat) (hb : h.length = b) (hb2 : b + 1 = b2) (H0 : AHeap)
    (he : ev τ.s g = .fn (.func f) first caps) (hH : h ++ [.dfr, .loop { st := .ready, pend := .none, slots := τ.s, n := τ.n, ps := ps, assign := x, body := y, dfr := b }] = H0) (r : AV) (h2 : AHeap) (L2 : ALoop)
    (hc : ACall P f (first ++ [.yld b2] ++ caps) H0 r h2) (hl : h2[b2]? = some (.loop L2)) (hs : L2.st ≠ .busy)
    (H : den P S none k Q L2.pend { τ with dfr := b :: τ.dfr } (h2.set b2 .dead)) : aS P S none (.rangeF g ps x y) (den P S none k Q) τ h := by
  subst hb hb2 hH
  rw [x_range]
  unfold awRange
  rw [he]
  exact ⟨r, h2, L2, hc, hl, hs, H⟩
/-- The end of a function that had a range over a function at its top: its own memory is gone. -/
theorem Fin.gone {P : Program} {h l : AHeap} {rs : List RV} {r : AV} {j : Jump} {τ : AFr} {xs : List AV} {d : Nat} (hbel : HB h) (hj : j = .none ∨ j = .ret) (hd : τ.dfr = [d]) (hdl : h.length ≤ d) (hnl : ∀ o ∈ l, ∀ L, o ≠ .loop L)
    (hx : aresl τ.s ((h ++ l).set d .dead) rs = some xs) (hr : r = resv xs) (hrb : Bel h.length r) : Fin P h rs r h j τ (h ++ l) := by
  refine ⟨hj, by rw [hd]; simp, ?_, xs, by rw [hd]; exact hx, ?_⟩
  · rw [hd]
    intro i L hi hm
    rcases Nat.lt_or_ge i h.length with c | c
    · rw [List.getElem?_append_left c] at hi
      have := (hbel i _ hi).2
      simp at hm; omega
    · rw [List.getElem?_append_right c] at hi
      exact hnl _ (List.mem_of_getElem? hi) L rfl
  · rw [hd, ← hr]
    obtain ⟨e, rfl⟩ : ∃ e, d = h.length + e := ⟨d - h.length, by omega⟩
    simp only [kills, List.foldl_cons, List.foldl_nil, setk]
    exact Gst.drop (Nat.le_refl _) hbel hrb
theorem Fin.gone' {P : Program} {h hR l : AHeap} {rs : List RV} {r : AV} {j : Jump} {τ : AFr} {xs : List AV} {d : Nat} (hbel : HB hR) (hlen : h.length ≤ hR.length) (hj : j = .none ∨ j = .ret) (hd : τ.dfr = [d]) (hdl : hR.length ≤ d) (hnl : ∀ o ∈ l, ∀ L, o ≠ .loop L)
    (hx : aresl τ.s ((hR ++ l).set d .dead) rs = some xs) (hr : r = resv xs) (hrb : Bel hR.length r) : Fin P h rs r hR j τ (hR ++ l) := by
  refine ⟨hj, by rw [hd]; simp, ?_, xs, by rw [hd]; exact hx, ?_⟩
  · rw [hd]
    intro i L hi hm
    rcases Nat.lt_or_ge i hR.length with c | c
    · rw [List.getElem?_append_left c] at hi
      have := (hbel i _ hi).2
      simp at hm; omega
    · rw [List.getElem?_append_right c] at hi
      exact hnl _ (List.mem_of_getElem? hi) L rfl
  · rw [hd, ← hr]
    obtain ⟨e, rfl⟩ : ∃ e, d = hR.length + e := ⟨d - hR.length, by omega⟩
    simp only [kills, List.foldl_cons, List.foldl_nil, setk]
    exact Gst.drop hlen hbel hrb
/-- The end of a function: its own memory is gone. -/
theorem Fin.lost {P : Program} {h l : AHeap} {rs : List RV} {r : AV} {j : Jump} {τ : AFr} {xs : List AV} (hbel : HB h) (hj : j = .none ∨ j = .ret) (hd : τ.dfr = [])
    (hx : aresl τ.s (h ++ l) rs = some xs) (hr : r = resv xs) (hrb : Bel h.length r) : Fin P h rs r h j τ (h ++ l) := by
  refine ⟨hj, by rw [hd]; simp, by rw [hd]; intro i L _ hm; simp at hm, xs, by rw [hd]; exact hx, ?_⟩
  rw [hd, ← hr]
  exact Gst.drop (Nat.le_refl _) hbel hrb
section
variable {H : AHeap} {b : Nat} (hl : H.length = b) (E : AHeap)
include hl
theorem hget (k : Nat) : (H ++ E)[b + k]? = E[k]? := by subst hl; exact getk H E k
theorem hget0 : (H ++ E)[b]? = E[0]? := by subst hl; exact get0 H E
theorem hrow (k v : Nat) : rowAt (H ++ E) (b + k) v = rowAt E k v := by subst hl; exact rowAtk H E k v
theorem hrow0 (v : Nat) : rowAt (H ++ E) b v = rowAt E 0 v := by subst hl; exact rowAt0 H E v
theorem hset (k : Nat) (o : AObj) : (H ++ E).set (b + k) o = H ++ E.set k o := by subst hl; exact setk H E k o
theorem hset0 (o : AObj) : (H ++ E).set b o = H ++ E.set 0 o := by subst hl; exact set0 H E o
end
theorem stay_app {A B : AHeap} (h : Hstay A B) (hl : A.length = B.length) (E : AHeap) : Hstay (A ++ E) (B ++ E) := by
  intro d hd
  rcases Nat.lt_or_ge d A.length with c | c
  · rw [List.getElem?_append_left c] at hd
    rw [List.getElem?_append_left (by omega)]
    exact h d hd
  · rw [List.getElem?_append_right c] at hd
    rw [List.getElem?_append_right (by omega), ← hl]
    exact hd
theorem Fin.lost' {P : Program} {h hR l : AHeap} {rs : List RV} {r : AV} {j : Jump} {τ : AFr} {xs : List AV} (hbel : HB hR) (hlen : h.length ≤ hR.length) (hj : j = .none ∨ j = .ret) (hd : τ.dfr = [])
    (hx : aresl τ.s (hR ++ l) rs = some xs) (hr : r = resv xs) (hrb : Bel hR.length r) : Fin P h rs r hR j τ (hR ++ l) := by
  refine ⟨hj, by rw [hd]; simp, by rw [hd]; intro i L _ hm; simp at hm, xs, by rw [hd]; exact hx, ?_⟩
  rw [hd, ← hr]
  exact Gst.drop hlen hbel hrb
end Go.Av

/- A statement's frame, free of any seat's code. -/
set_option linter.unusedVariables false
set_option linter.unusedSimpArgs false
set_option maxRecDepth 100000
namespace Go.Av
open Go Go.ChangeShapes Go.WideShapes Go.ChangeAt Go.RowKit
theorem one_of {v x : Value} (hna : ∀ cs, v ≠ .agg cs) {l : List Value} (hl : v.cells.toList = l) (h : l = [x]) : v = x := by
  have : v.cells = #[v] := by cases v <;> first | rfl | exact absurd rfl (hna _)
  rw [this] at hl
  rw [h] at hl
  simpa using hl
theorem agg_of {v : Value} {n : Nat} (h : v.cells.toList.length = n) (hn : n ≠ 1) : v = .agg v.cells := by
  cases v <;> first | rfl | (exfalso; apply hn; rw [← h]; rfl)
theorem VRs.agg {ρ : Rho} {h : AHeap} {w : World} {cs : List AV} {vals : Array Value} (hv : VRs ρ h w cs vals.toList) : VR ρ h w (.agg cs) (.agg vals) :=
  .agg cs vals (by have := hv.1; simpa using this.symm) fun j u hj => by
    have := hv.2 j u hj
    simpa [List.getD, Array.getD_eq_getD_getElem?] using this
theorem not_agg_sl {P : Program} {w : World} {t e : TypeId} {v : Value} {b : Nat} (hu : P.underlying t = some (.slice e)) (h : Value.okWide P w .any b t v) : ∀ cs, v ≠ .agg cs := by
  rintro cs rfl; simp [Value.okWide, hu, Cell.okWide, Cell.ok] at h
theorem not_agg_int {P : Program} {w : World} {t : TypeId} {k : IntKind} {v : Value} {b : Nat} (hu : P.underlying t = some (.int k)) (h : Value.okWide P w .any b t v) : ∀ cs, v ≠ .agg cs := by
  rintro cs rfl; simp [Value.okWide, hu, Cell.okWide, Cell.ok] at h
theorem below_of {ρ ρ' : Rho} {w w' : World} (hX : ∀ b, ¬ ρ.X b) (s : Step ρ [] w ρ' [] w') : Below w.heap.size w w' :=
  ⟨s.os, s.tape, s.output, s.size, fun k hk => (s.free k ⟨hk, fun ho => ho.elim (fun ⟨i, o, hi, _⟩ => by simp at hi) (hX k)⟩).1⟩
theorem walk_of {P : Program} {f : FuncId} {xs : List AV} (k : ACall P f xs [] (.bool true) []) {ρ : Rho} {w : World} {vs : List Value} (hX : ∀ b, ¬ ρ.X b) (hv : VRs ρ [] w xs vs) :
    Calls P f vs.toArray w fun e w' => e = .returned (.bool true) ∧ Below w.heap.size w w' := by
  refine callsIn_wide.1 (CallsIn.mono (k.run ρ w vs (HR.nil fun b hb => absurd hb (hX b)) hv) fun e w' h => ?_)
  obtain ⟨v', ρ', rfl, h1, h2, h3⟩ := h
  cases h1
  exact ⟨rfl, below_of hX h3⟩
theorem VRs.cons {ρ : Rho} {h : AHeap} {w : World} {x : AV} {xs : List AV} {v : Value} {vs : List Value} (a : VR ρ h w x v) (b : VRs ρ h w xs vs) : VRs ρ h w (x :: xs) (v :: vs) :=
  VRs.append (VRs.one a) b
theorem VRs.nil {ρ : Rho} {h : AHeap} {w : World} : VRs ρ h w [] [] := ⟨rfl, by simp⟩
end Go.Av
