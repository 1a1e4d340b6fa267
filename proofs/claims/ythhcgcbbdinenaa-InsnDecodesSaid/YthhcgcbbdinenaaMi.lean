/- More of the walk: rounds that forget what they made, regions that draw their order and write. -/
import Derived.Test.YthhcgcbbdinenaaMh
set_option linter.unusedVariables false
set_option linter.unusedSimpArgs false
namespace Go.Av
open Go
section
variable {P : Program}
/-- A ghost step at no value. -/
def GstH (P : Program) (h₀ h h' : AHeap) : Prop := ∀ ρ₀ w₀ ρ w, Step ρ₀ h₀ w₀ ρ h w → HR P ρ h w → ∃ ρ', HR P ρ' h' w ∧ Step ρ₀ h₀ w₀ ρ' h' w
theorem GstH.refl (h₀ h : AHeap) : GstH P h₀ h h := fun ρ₀ w₀ ρ w s hh => ⟨ρ, hh, s⟩
theorem GstH.drop {h₀ h l : AHeap} (hlen : h₀.length ≤ h.length) (hb : HB h) : GstH P h₀ (h ++ l) h := by
  intro ρ₀ w₀ ρ w s hh
  obtain ⟨ρ', h1, h2, h3⟩ := Gst.drop (P := P) (l := l) (x := .bool true) hlen hb (.bool _) ρ₀ w₀ ρ w (.bool true) s hh (.bool _)
  exact ⟨ρ', h1, h3⟩
theorem AYield.ghost {id : Nat} {args : List AV} {b : Bool} {h h1 h' : AHeap} (a : AYield P id args h (.bool b) h1) (g : GstH P h h1 h') (hd : Hstay h h') : AYield P id args h (.bool b) h' := by
  refine ⟨a.isLoop, hd, fun ρ w vals hh hv => ?_⟩
  obtain ⟨fn, tmps, asg, bd, e1, e2⟩ := a.run ρ w vals hh hv
  refine ⟨fn, tmps, asg, bd, e1, RoundIn.mono e2 fun e w' he => ?_⟩
  obtain ⟨v, ρ', rfl, f1, f2, f3⟩ := he
  obtain ⟨ρ2, g1, g2⟩ := g ρ w ρ' w' f3 f2
  cases f1
  exact ⟨_, ρ2, rfl, .bool _, g1, g2⟩
theorem ACall.ghost {f : FuncId} {args : List AV} {r r' : AV} {h h1 h' : AHeap} (a : ACall P f args h r h1) (g : Gst P h r h1 r' h') (hd : Hstay h h') : ACall P f args h r' h' := by
  refine ⟨a.enters, hd, fun ρ w vals hh hv => CallsIn.mono (a.run ρ w vals hh hv) fun e w' he => ?_⟩
  obtain ⟨v, ρ', rfl, f1, f2, f3⟩ := he
  obtain ⟨ρ2, g1, g2, g3⟩ := g ρ w ρ' w' v f3 f2 f1
  exact ⟨v, ρ2, rfl, g2, g1, g3⟩
section
variable {loud : List Nat} {iv : List (Nat × Nat)} {hs : Nat → AHeap} {i : Nat} {d : Option Nat} {op : AOpr} {af : List Nat} {r : List AOpD} {K : AFr → Prop} {τ : AFr}
theorem awL_q (x : AV) (lo hi : Nat) (hl : loud.contains i = false) (hv : iv.getD i (0, 0) = (lo, hi)) (hd : τ.inb d = true) (ha : ∀ k, lo ≤ k → k ≤ hi → astep τ.s (hs k) op = .v x (hs k)) (H : awL P loud iv hs (i + 1) r K (τ.put d x)) : awL P loud iv hs i (⟨d, none, op, af⟩ :: r) K τ := by
  refine ⟨hd, x, ?_, H⟩
  rw [if_neg (by rw [hl]; simp), hv]
  intro k h1 h2
  simp only [awR, awG, awOp]
  rw [ha k h1 h2]
  exact ⟨rfl, rfl⟩
theorem awL_cq (x : AV) (lo hi : Nat) {f : FuncId} {args : List AV} (hl : loud.contains i = false) (hv : iv.getD i (0, 0) = (lo, hi)) (hd : τ.inb d = true) (ha : ∀ k, lo ≤ k → k ≤ hi → astep τ.s (hs k) op = .call f args ∧ ACall P f args (hs k) x (hs k)) (H : awL P loud iv hs (i + 1) r K (τ.put d x)) : awL P loud iv hs i (⟨d, none, op, af⟩ :: r) K τ := by
  refine ⟨hd, x, ?_, H⟩
  rw [if_neg (by rw [hl]; simp), hv]
  intro k h1 h2
  simp only [awR, awG, awOp]
  rw [(ha k h1 h2).1]
  exact ⟨_, _, (ha k h1 h2).2, rfl, rfl⟩
theorem awL_st (q : Nat) (hl : loud.contains i = true) (hv : iv.getD i (0, 0) = (q, q)) (hd : τ.inb d = true) (ha : astep τ.s (hs q) op = .skip (hs (q + 1))) (H : awL P loud iv hs (i + 1) r K (τ.put d (.tup []))) : awL P loud iv hs i (⟨d, none, op, af⟩ :: r) K τ := by
  refine ⟨hd, .tup [], ?_, H⟩
  rw [if_pos hl, hv]
  simp only [awR, awG, awOp]
  rw [ha]
  exact ⟨trivial, rfl⟩
theorem awL_y (x : AV) (q : Nat) {id : Nat} {args : List AV} (hl : loud.contains i = true) (hv : iv.getD i (0, 0) = (q, q)) (hd : τ.inb d = true) (ha : astep τ.s (hs q) op = .yield id args) (hy : AYield P id args (hs q) x (hs (q + 1))) (H : awL P loud iv hs (i + 1) r K (τ.put d x)) : awL P loud iv hs i (⟨d, none, op, af⟩ :: r) K τ := by
  refine ⟨hd, x, ?_, H⟩
  rw [if_pos hl, hv]
  simp only [awR, awG, awOp]
  rw [ha]
  exact ⟨_, _, hy, rfl, rfl⟩
theorem awL_c (x : AV) (q : Nat) {f : FuncId} {args : List AV} (hl : loud.contains i = true) (hv : iv.getD i (0, 0) = (q, q)) (hd : τ.inb d = true) (ha : astep τ.s (hs q) op = .call f args) (hy : ACall P f args (hs q) x (hs (q + 1))) (H : awL P loud iv hs (i + 1) r K (τ.put d x)) : awL P loud iv hs i (⟨d, none, op, af⟩ :: r) K τ := by
  refine ⟨hd, x, ?_, H⟩
  rw [if_pos hl, hv]
  simp only [awR, awG, awOp]
  rw [ha]
  exact ⟨_, _, hy, rfl, rfl⟩
end
theorem drwL_of {P : Program} {S : Tab} {rd : Option Nat} {k : List It} {Q : Jump → AFr → AHeap → Prop} {τ : AFr} {h : AHeap} {l : List AOpD} (loud : List Nat) (iv : List (Nat × Nat)) (hs : Nat → AHeap) (hok : drawOK l (masks l []) loud iv = true) (h0 : hs 0 = h)
    (H : awL P loud iv hs 0 l (fun τ => den P S rd k Q .none τ (hs loud.length)) τ) : drwL (P := P) (S := S) (rd := rd) l k Q τ h := .inr ⟨_, loud, iv, hs, hok, h0, H⟩
theorem rowAt_app {h : AHeap} {id v : Nat} {x : Nat × List AV} (e : rowAt h id v = some x) (X : AHeap) : rowAt (h ++ X) id v = some x := by
  have : id < h.length := by
    unfold rowAt at e
    split at e
    · rename_i hr; exact getElem?_lt hr
    · cases e
  unfold rowAt at *
  rw [List.getElem?_append_left this]
  exact e
end
end Go.Av

/- Contracts: a row gone through backwards; the greatest one. -/
namespace Go.Av
open Go Go.Proofs
set_option maxRecDepth 100000
set_option maxHeartbeats 2000000
theorem k59 (t : Bool) (l : List In) (h : AHeap) : ACall PA 59 [.sl t (avs l)] h (.fn (.func 77) [] [.rp h.length 0 0 0]) (h ++ [.row 0 1 [.sl t (avs l)]]) := by
  refine ACall.ofG S10ok hmA h59 (by kernel_rfl) (Nat.le_of_ble_eq_true rfl) (Hstay.app _ _) fun _ => aS_den ?_
  simp only [WK, simprocAttr, c59, n59]
  exact Fin.plain (.inr rfl) rfl rfl rfl
/-- The rounds of a row gone through backwards. -/
structure Gen77 (t : Bool) (l : List In) (p id : Nat) (Hs : Nat → AHeap) : Prop where
  p : ∀ j, rowAt (Hs j) p 0 = some (1, [.sl t (avs l)])
  y : ∀ j (h : j < l.length), AYield PA id [.int .i64 ((l.length - 1 - j : Nat) : Int), (l[l.length - 1 - j]).av] (Hs j) (.bool true) (Hs (j + 1))
  st : Hstay (Hs 0) (Hs l.length)
def i77 (l : List In) (id p : Nat) (Hs : Nat → AHeap) (m : Nat) (τ : AFr) (h : AHeap) : Prop :=
  ∃ j : Nat, j ≤ l.length ∧ m = l.length - j ∧ h = Hs j ∧ τ = { n := 19, s := [(0, .yld id), (1, .rp p 0 0 0), (3, .int .i64 ((l.length : Int) - 1 - j))], dfr := [] }
theorem k77 (t : Bool) (l : List In) (hb : l.length ≤ 1000000000) (p id : Nat) (Hs : Nat → AHeap) (G : Gen77 t l p id Hs) : ACall PA 77 [.yld id, .rp p 0 0 0] (Hs 0) (.tup []) (Hs l.length) := by
  refine ACall.ofG S10ok hmA h77 (by kernel_rfl) (Nat.le_of_ble_eq_true rfl) G.st fun _ => aS_den ?_
  have p0 := G.p 0
  have w0 : IntKind.i64.wrap ((l.length : Int) - 1) = (l.length : Int) - 1 := wrI64 (by omega) (by omega)
  simp only [WN, simprocAttr, c77, n77, p0, avs_len, w0, List.head?_cons]
  refine x_loop (i77 l id p Hs) ⟨l.length, _, ⟨0, by omega, by omega, rfl, rfl⟩, ⟨rfl, rfl, by simp [alook]⟩⟩ ?_
  rintro m τ h ⟨j, hj, rfl, rfl, rfl⟩
  have pj := G.p j
  by_cases b : j < l.length
  · have b1 : (0 : Int) ≤ (l.length : Int) - 1 - j := by omega
    have e1 : (((l.length - 1 - j : Nat) : Int)).toNat = l.length - 1 - j := by omega
    have b2 : (0 : Int) ≤ ((l.length - 1 - j : Nat) : Int) := by omega
    have e2 : (l.length : Int) - 1 - j = ((l.length - 1 - j : Nat) : Int) := by omega
    have g1 := avs_getq (l := l) (i := l.length - 1 - j) (by omega)
    have cl : (l[l.length - 1 - j]).av.cells.length = 4 := rfl
    have ct : takeAs (some 4) (List.drop 0 (l[l.length - 1 - j]).av.cells) = some (l[l.length - 1 - j]).av := rfl
    simp only [WN, simprocAttr, pj, b2, e1, g1, cl, ct, ge_iff_le, e2, List.drop_zero, In.av, inV, cells_agg, List.take_succ_cons, List.take_zero]
    refine ⟨_, _, G.y j b, ?_⟩
    simp only [WN, simprocAttr]
    refine ⟨l.length - (j + 1), _, by omega, ⟨j + 1, by omega, rfl, rfl, rfl⟩, ⟨rfl, rfl, ?_⟩⟩
    have w : IntKind.i64.wrap (((l.length - 1 - j : Nat) : Int) - 1) = (l.length : Int) - 1 - (j + 1 : Nat) := by rw [wrI64 (by omega) (by omega)]; omega
    simp [alook, w]
  · have b1 : ¬ (0 : Int) ≤ (l.length : Int) - 1 - j := by omega
    have ej : j = l.length := by omega
    subst ej
    simp only [WN, simprocAttr, b1, ge_iff_le]
    exact Fin.plain (.inl rfl) rfl rfl rfl
end Go.Av

/- Contracts: the greatest one of what is told. -/
namespace Go.Av
open Go Go.Proofs
set_option maxRecDepth 100000
set_option maxHeartbeats 2000000
theorem Bel.mono {n m : Nat} (hnm : n ≤ m) {x : AV} (h : Bel n x) : Bel m x := by
  induction h with
  | any => exact .any
  | int k i => exact .int k i
  | bool b => exact .bool b
  | str s => exact .str s
  | nilp => exact .nilp
  | rp id ver idx off h => exact .rp _ _ _ _ (by omega)
  | cp e off h ih => exact .cp _ _ ih
  | sl t xs h ih => exact .sl _ _ ih
  | rf id ver idx len h => exact .rf _ _ _ _ (by omega)
  | mp id h => exact .mp _ (by omega)
  | nilmap => exact .nilmap
  | fn f a b h1 h2 ih1 ih2 => exact .fn _ _ _ ih1 ih2
  | yld id h => exact .yld _ (by omega)
  | nilfn => exact .nilfn
  | anyb => exact .anyb
  | agg cs h ih => exact .agg _ ih
  | tup cs h ih => exact .tup _ ih
theorem OBel.mono {n m : Nat} (hnm : n ≤ m) {o : AObj} (h : OBel n o) : OBel m o := by
  cases o with
  | row v sz es => exact fun u hu => (h u hu).mono hnm
  | map es => exact fun p hp => ⟨(h p hp).1.mono hnm, (h p hp).2.mono hnm⟩
  | loop L => exact ⟨fun i => (h.1 i).mono hnm, Nat.lt_of_lt_of_le h.2 hnm⟩
  | dfr => trivial
  | dead => trivial
theorem HB.app {h l : AHeap} (hb : HB h) (hl : ∀ o ∈ l, OBel (h.length + l.length) o) : HB (h ++ l) := by
  intro i o hi
  rw [List.length_append]
  rcases Nat.lt_or_ge i h.length with c | c
  · rw [List.getElem?_append_left c] at hi
    exact (hb i o hi).mono (Nat.le_add_right _ _)
  · rw [List.getElem?_append_right c] at hi
    exact hl o (List.mem_of_getElem? hi)
theorem alook_bel {n : Nat} : ∀ {s : List (Nat × AV)}, (∀ p ∈ s, Bel n p.2) → ∀ i, Bel n (alook s i)
  | [], _, i => .any
  | (j, v) :: r, h, i => by
    unfold alook
    split
    · exact h (j, v) (by simp)
    · exact alook_bel (fun p hp => h p (by simp [hp])) i
theorem ACall.assume {P : Program} {f : FuncId} {args : List AV} {r : AV} {h h' : AHeap} (he : Enters P f) (hd : Hstay h h') (H : HB h → (∀ x ∈ args, Bel h.length x) → ACall P f args h r h') : ACall P f args h r h' := by
  refine ⟨he, hd, fun ρ w vals hh hv => (H hh.bel fun x hx => ?_).run ρ w vals hh hv⟩
  obtain ⟨j, hj⟩ := List.mem_iff_getElem?.1 hx
  exact (hv.2 j x hj).bel
theorem stay3 (h l l' X : AHeap) (hl : l.length = l'.length) (e : ∀ k : Nat, l[k]? = some .dfr → l'[k]? = some .dfr) : Hstay (h ++ l ++ X) (h ++ l' ++ X) := by
  rw [List.append_assoc, List.append_assoc]
  refine stay_loop _ _ _ fun k hk => ?_
  rcases Nat.lt_or_ge k l.length with c | c
  · rw [List.getElem?_append_left c] at hk
    rw [List.getElem?_append_left (by omega)]
    exact e k hk
  · rw [List.getElem?_append_right c] at hk
    rw [List.getElem?_append_right (by omega), ← hl]
    exact hk
theorem stay2 (h l l' : AHeap) (hl : l.length = l'.length) (e : ∀ k : Nat, l[k]? = some .dfr → l'[k]? = some .dfr) : Hstay (h ++ l) (h ++ l') := by
  have := stay3 h l l' [] hl e
  simpa using this
theorem x_rangeG {P : Program} {S : Tab} {k : List It} {Q : Jump → AFr → AHeap → Prop} {τ : AFr} {h : AHeap} {g : Opd} {ps : List Nat} {x y : AC} {f : FuncId} {first caps : List AV} (b b2 : Nat) (hb : h.length = b) (hb2 : b + 1 = b2) (H0 : AHeap)
    (he : ev τ.s g = .fn (.func f) first caps) (hH : h ++ [.dfr, .loop { st := .ready, pend := .none, slots := τ.s, n := τ.n, ps := ps, assign := x, body := y, dfr := b }] = H0) (r : AV) (h2 : AHeap) (L2 : ALoop)
    (hc : ACall P f (first ++ [.yld b2] ++ caps) H0 r h2) (hl : h2[b2]? = some (.loop L2)) (hs : L2.st ≠ .busy)
    (H : den P S none k Q L2.pend { τ with dfr := b :: τ.dfr } (h2.set b2 .dead)) : aS P S none (.rangeF g ps x y) (den P S none k Q) τ h := by
  subst hb hb2 hH
  rw [x_range]
  unfold awRange
  rw [he]
  exact ⟨r, h2, L2, hc, hl, hs, H⟩
/-- The end of a function that had a range over a function at its top: its own memory is gone. -/
theorem Fin.gone {P : Program} {h l : AHeap} {rs : List RV} {r : AV} {j : Jump} {τ : AFr} {xs : List AV} {d : Nat} (hbel : HB h) (hj : j = .none ∨ j = .ret) (hd : τ.dfr = [d]) (hdl : h.length ≤ d) (hnl : ∀ o ∈ l, ∀ L, o ≠ .loop L)
    (hx : aresl τ.s ((h ++ l).set d .dead) rs = some xs) (hr : r = resv xs) (hrb : Bel h.length r) : Fin P h rs r h j τ (h ++ l) := by
  refine ⟨hj, by rw [hd]; simp, ?_, xs, by rw [hd]; exact hx, ?_⟩
  · rw [hd]
    intro i L hi hm
    rcases Nat.lt_or_ge i h.length with c | c
    · rw [List.getElem?_append_left c] at hi
      have := (hbel i _ hi).2
      simp at hm; omega
    · rw [List.getElem?_append_right c] at hi
      exact hnl _ (List.mem_of_getElem? hi) L rfl
  · rw [hd, ← hr]
    obtain ⟨e, rfl⟩ : ∃ e, d = h.length + e := ⟨d - h.length, by omega⟩
    simp only [kills, List.foldl_cons, List.foldl_nil, setk]
    exact Gst.drop (Nat.le_refl _) hbel hrb
theorem Fin.gone' {P : Program} {h hR l : AHeap} {rs : List RV} {r : AV} {j : Jump} {τ : AFr} {xs : List AV} {d : Nat} (hbel : HB hR) (hlen : h.length ≤ hR.length) (hj : j = .none ∨ j = .ret) (hd : τ.dfr = [d]) (hdl : hR.length ≤ d) (hnl : ∀ o ∈ l, ∀ L, o ≠ .loop L)
    (hx : aresl τ.s ((hR ++ l).set d .dead) rs = some xs) (hr : r = resv xs) (hrb : Bel hR.length r) : Fin P h rs r hR j τ (hR ++ l) := by
  refine ⟨hj, by rw [hd]; simp, ?_, xs, by rw [hd]; exact hx, ?_⟩
  · rw [hd]
    intro i L hi hm
    rcases Nat.lt_or_ge i hR.length with c | c
    · rw [List.getElem?_append_left c] at hi
      have := (hbel i _ hi).2
      simp at hm; omega
    · rw [List.getElem?_append_right c] at hi
      exact hnl _ (List.mem_of_getElem? hi) L rfl
  · rw [hd, ← hr]
    obtain ⟨e, rfl⟩ : ∃ e, d = hR.length + e := ⟨d - hR.length, by omega⟩
    simp only [kills, List.foldl_cons, List.foldl_nil, setk]
    exact Gst.drop hlen hbel hrb
/-- The end of a function: its own memory is gone. -/
theorem Fin.lost {P : Program} {h l : AHeap} {rs : List RV} {r : AV} {j : Jump} {τ : AFr} {xs : List AV} (hbel : HB h) (hj : j = .none ∨ j = .ret) (hd : τ.dfr = [])
    (hx : aresl τ.s (h ++ l) rs = some xs) (hr : r = resv xs) (hrb : Bel h.length r) : Fin P h rs r h j τ (h ++ l) := by
  refine ⟨hj, by rw [hd]; simp, by rw [hd]; intro i L _ hm; simp at hm, xs, by rw [hd]; exact hx, ?_⟩
  rw [hd, ← hr]
  exact Gst.drop (Nat.le_refl _) hbel hrb
/-- What a function told tells, wherever it runs. -/
def GensX (g : FuncId) (caps : List AV) (h : AHeap) (vs : List Int) : Prop :=
  ∀ (id : Nat) (H : Nat → AHeap), (∀ j, (H j).length = (H 0).length) → (∀ j, ∃ t, H j = h ++ t) → (∀ j, HB (H j)) → id < (H 0).length → (∀ X j v, vs[j]? = some v → AYield PA id [.int .i64 v] (H j ++ X) (.bool true) (H (j + 1) ++ X)) → Hstay (H 0) (H vs.length) → ACall PA g ([.yld id] ++ caps) (H 0) (.tup []) (H vs.length)
section
variable {H : AHeap} {b : Nat} (hl : H.length = b) (E : AHeap)
include hl
theorem hget (k : Nat) : (H ++ E)[b + k]? = E[k]? := by subst hl; exact getk H E k
theorem hget0 : (H ++ E)[b]? = E[0]? := by subst hl; exact get0 H E
theorem hrow (k v : Nat) : rowAt (H ++ E) (b + k) v = rowAt E k v := by subst hl; exact rowAtk H E k v
theorem hrow0 (v : Nat) : rowAt (H ++ E) b v = rowAt E 0 v := by subst hl; exact rowAt0 H E v
theorem hset (k : Nat) (o : AObj) : (H ++ E).set (b + k) o = H ++ E.set k o := by subst hl; exact setk H E k o
theorem hset0 (o : AObj) : (H ++ E).set b o = H ++ E.set 0 o := by subst hl; exact set0 H E o
end
theorem stay_app {A B : AHeap} (h : Hstay A B) (hl : A.length = B.length) (E : AHeap) : Hstay (A ++ E) (B ++ E) := by
  intro d hd
  rcases Nat.lt_or_ge d A.length with c | c
  · rw [List.getElem?_append_left c] at hd
    rw [List.getElem?_append_left (by omega)]
    exact h d hd
  · rw [List.getElem?_append_right c] at hd
    rw [List.getElem?_append_right (by omega), ← hl]
    exact hd
def mx2 (x y : Int) : Int := if y > x then y else x
def asg60 : AC := (.ops [o 5 (.mov (.t 7))])
def bod60 : AC := (.block 1 (.ops [o 8 (.ld none (.t 2)), o 9 (.mov (.t 5)), o 10 (.mx [.t 8, .t 9]), u (.st 1 (.t 2) (.t 10))]))
def loop60 (b : Nat) (s : List (Nat × AV)) : ALoop := { st := .ready, pend := .none, slots := s, n := 12, ps := [7], assign := asg60, body := bod60, dfr := b + 1 }
def T60 (b : Nat) (s : List (Nat × AV)) (a : Int) (vs : List Int) (j : Nat) : AHeap := [.row 0 1 [.int .i64 ((vs.take j).foldl mx2 a)], .dfr, .loop (loop60 b s)]
theorem y60 (h X : AHeap) (s : List (Nat × AV)) (hs : alook s 2 = .rp h.length 0 0 0) (a : Int) (vs : List Int) (j : Nat) (v : Int) (hv : vs[j]? = some v) : AYield PA (h.length + 2) [.int .i64 v] (h ++ T60 h.length s a vs j ++ X) (.bool true) (h ++ T60 h.length s a vs (j + 1) ++ X) := by
  have ht : (vs.take (j + 1)).foldl mx2 a = mx2 ((vs.take j).foldl mx2 a) v := by rw [List.take_add_one, hv]; simp
  refine AYield.ofS S10ok hmA (L := loop60 h.length s) (by simp only [T60, List.append_assoc, getk]; rfl) rfl (by simp [loop60]) (stay3 _ _ _ _ rfl ?_) (by kernel_rfl) (by kernel_rfl) (aS_den ?_)
  · intro k hk
    rcases k with _ | _ | _ | k <;> first | rfl | (simp [T60] at hk)
  · simp only [T60, loop60, asg60, bod60, putArgs]
    simp only [WK, simprocAttr, get0, getk, rowAt0, rowAtk, set0, setk, List.append_assoc, hs]
    refine ⟨rfl, _, (by simp only [getk]; rfl), rfl, aS_den ?_⟩
    simp only [WK, simprocAttr, get0, getk, rowAt0, rowAtk, set0, setk, List.append_assoc, hs]
    refine ⟨_, (by simp only [getk]; rfl), rfl, ?_⟩
    simp [setk, ht, mx2]
theorem k60 (g : FuncId) (caps : List AV) (h : AHeap) (a : Int) (vs : List Int) (G : GensX g caps h vs) : ACall PA 60 [.int .i64 a, .fn (.func g) [] caps] h (.int .i64 (vs.foldl mx2 a)) h := by
  refine ACall.assume (chk_enters h60) (Hstay.refl _) fun hbel hargs => ?_
  refine ACall.ofG S10ok hmA h60 (by kernel_rfl) (Nat.le_of_ble_eq_true rfl) (Hstay.refl _) fun _ => aS_den ?_
  simp only [WK, simprocAttr, c60, n60, get0, getk, rowAt0, rowAtk, set0, setk, List.append_assoc]
  obtain ⟨s, hs⟩ : ∃ s : List (Nat × AV), s = [(6, .fn (.func g) [] caps), (4, .int .i64 0), (2, .rp h.length 0 0 0), (0, .int .i64 a), (1, .fn (.func g) [] caps)] := ⟨_, rfl⟩
  have h2 : alook s 2 = .rp h.length 0 0 0 := by rw [hs]; rfl
  have hfn : Bel h.length (.fn (.func g) [] caps) := hargs _ (by simp)
  have hB : ∀ j, HB (h ++ T60 h.length s a vs j) := fun j => by
    refine hbel.app fun o ho => ?_
    simp only [T60, List.mem_cons, List.not_mem_nil, or_false] at ho
    rcases ho with rfl | rfl | rfl
    · simp [OBel, flat, cells_int, bel_int]
    · trivial
    · refine ⟨alook_bel fun p hp => ?_, by simp [loop60, T60]⟩
      simp only [loop60, hs, List.mem_cons, List.not_mem_nil, or_false] at hp
      rcases hp with rfl | rfl | rfl | rfl | rfl
      · exact hfn.mono (by omega)
      · exact .int _ _
      · exact .rp _ _ _ _ (by simp [T60])
      · exact .int _ _
      · exact hfn.mono (by omega)
  have hst : Hstay (h ++ T60 h.length s a vs 0) (h ++ T60 h.length s a vs vs.length) := by
    refine stay2 _ _ _ rfl fun k hk => ?_
    rcases k with _ | _ | _ | k <;> first | rfl | (simp [T60] at hk)
  have hc := G (h.length + 2) (fun j => h ++ T60 h.length s a vs j) (fun j => by simp [T60]) (fun j => ⟨_, rfl⟩) hB (by simp [T60]) (fun X j v hv => y60 h X s h2 a vs j v hv) hst
  rw [← hs]
  refine x_rangeG (h.length + 1) (h.length + 2) (by simp) rfl (h ++ T60 h.length s a vs 0) (by rw [hs]; rfl) (by simp [T60, loop60, asg60, bod60]) (.tup []) (h ++ T60 h.length s a vs vs.length) (loop60 h.length s) (by simpa using hc) (by rw [getk]; rfl) (by simp [loop60]) ?_
  simp only [T60, loop60, List.take_length, hs]
  simp only [WK, simprocAttr, get0, getk, rowAt0, rowAtk, set0, setk, List.append_assoc]
  refine Fin.gone (d := h.length + 1) (l := [.row 0 1 [.int .i64 (vs.foldl mx2 a)], .dfr, .dead]) (xs := [.int .i64 (vs.foldl mx2 a)]) hbel (.inr rfl) rfl (by omega) (by simp) ?_ rfl (.int _ _)
  simp [r60, aresl, ares, alook]
end Go.Av

/- Contracts: the steps of what comes next. -/
namespace Go.Av
open Go Go.Proofs
set_option maxRecDepth 100000
set_option maxHeartbeats 2000000
def asg61 : AC := (.ops [o 5 (.mov (.t 9))])
def drw61 : List AOpD := [o 10 (.ld none (.t 4)), o 11 (.ld none (.t 3)), o 12 (.mov (.t 5)), ⟨some 13, none, .iaddr 1 (.t 11) (.t 12), [1, 2]⟩, ⟨some 14, none, .ld none (.t 13), [3]⟩, ⟨some 15, none, .callV (.t 10) [.t 14], [0, 4]⟩, ⟨some 16, none, .not (.t 15), [5]⟩]
def bod61 : AC := (.block 1 (.seq (.draw drw61) (.cond (.t 16) .ret .skip)))
def loop61 (b : Nat) (s : List (Nat × AV)) : ALoop := { st := .ready, pend := .none, slots := s, n := 17, ps := [9], assign := asg61, body := bod61, dfr := b + 3 }
def E61 (b id : Nat) (s : List (Nat × AV)) (x : In) (i : Int) : AHeap := [.row 0 1 [.yld id], rowI x, rowN i, .dfr, .loop (loop61 b s)]
structure Mem61 (H : AHeap) (c8 c7 c6 sid : Nat) (x : In) (i : Int) (st : List Int) : Prop where
  p8 : rowAt H c8 0 = some (4, [x.av])
  p7 : rowAt H c7 0 = some (1, [.int .i64 i])
  p6 : rowAt H c6 0 = some (1, [.rf sid 0 0 st.length])
  ps : rowAt H sid 0 = some (1, ints st)
theorem Mem61.app {H : AHeap} {c8 c7 c6 sid : Nat} {x : In} {i : Int} {st : List Int} (m : Mem61 H c8 c7 c6 sid x i st) (X : AHeap) : Mem61 (H ++ X) c8 c7 c6 sid x i st :=
  ⟨rowAt_app m.p8 X, rowAt_app m.p7 X, rowAt_app m.p6 X, rowAt_app m.ps X⟩
theorem y61 {H H' : AHeap} {b : Nat} (hl : H.length = b) (hl' : H'.length = b) (hst : Hstay H H') {c8 c7 c6 sid id : Nat} {x : In} {i : Int} {st : List Int} (m : Mem61 H c8 c7 c6 sid x i st) {s : List (Nat × AV)} (s3 : alook s 3 = .rp c6 0 0 0) (s4 : alook s 4 = .rp b 0 0 0) {k : Nat} (hk : k < st.length)
    (hy : ∀ X, AYield PA id [.int .i64 st[k]] (H ++ X) (.bool true) (H' ++ X)) : AYield PA (b + 4) [.int .i64 (k : Int)] (H ++ E61 b id s x i) (.bool true) (H' ++ E61 b id s x i) := by
  have m' := fun X => m.app X
  have p6 := fun X => (m' X).p6
  have ps := fun X => (m' X).ps
  have g0 := fun E => hget0 hl E
  have gk := fun E k => hget hl E k
  have gk' := fun E k => hget hl' E k
  have r0 := fun E v => hrow0 hl E v
  have sk := fun E k o => hset hl E k o
  have sk' := fun E k o => hset hl' E k o
  refine AYield.ofS S10ok hmA (L := loop61 b s) (by rw [gk]; rfl) rfl (by simp [loop61]) (stay_app hst (by omega) _) (by kernel_rfl) (by kernel_rfl) (aS_den ?_)
  simp only [loop61, asg61, bod61, putArgs]
  simp only [WK, simprocAttr, gk, sk, E61]
  refine ⟨rfl, _, (by rw [gk]; rfl), rfl, aS_den ?_⟩
  simp only [WN, simprocAttr, drw61]
  obtain ⟨E0, hE0⟩ : ∃ E0 : AHeap, E0 = [.row 0 1 [.yld id], rowI x, rowN i, .dfr, .loop { st := .busy, pend := .none, slots := s, n := 17, ps := [9], assign := asg61, body := bod61, dfr := b + 3 }] := ⟨_, rfl⟩
  refine drwL_of [5] [(0, 0), (0, 0), (0, 0), (0, 0), (0, 0), (0, 0), (1, 1)] (fun q => match q with
    | 0 => H ++ E0
    | _ => H' ++ E0) (by kernel_rfl) (by rw [hE0, sk]; rfl) ?_
  have k0 : (0 : Int) ≤ (k : Int) := by omega
  have gi : (ints st)[k]? = some (.int .i64 st[k]) := by simp [ints, hk]
  refine awL_q (.yld id) 0 0 rfl rfl rfl (fun q h1 h2 => ?_) ?_
  · obtain rfl : q = 0 := by omega
    simp only [WK, simprocAttr, s4, hE0, g0]
  refine awL_q (.rf sid 0 0 st.length) 0 0 rfl rfl rfl (fun q h1 h2 => ?_) ?_
  · obtain rfl : q = 0 := by omega
    simp only [WN, simprocAttr, s3, p6]
  refine awL_q (.int .i64 k) 0 0 rfl rfl rfl (fun q h1 h2 => ?_) ?_
  · obtain rfl : q = 0 := by omega
    simp only [WN, simprocAttr]
  refine awL_q (.rp sid 0 k 0) 0 0 rfl rfl rfl (fun q h1 h2 => ?_) ?_
  · obtain rfl : q = 0 := by omega
    simp only [WN, simprocAttr, k0, ps, hk]
  refine awL_q (.int .i64 st[k]) 0 0 rfl rfl rfl (fun q h1 h2 => ?_) ?_
  · obtain rfl : q = 0 := by omega
    simp only [WN, simprocAttr, ps, gi]
  refine awL_y (.bool true) 0 rfl rfl rfl ?_ (hy E0) ?_
  · simp only [WN, simprocAttr]
  refine awL_q (.bool false) 1 1 rfl rfl rfl (fun q h1 h2 => ?_) ?_
  · obtain rfl : q = 1 := by omega
    simp only [WN, simprocAttr]
  simp only [awL]
  simp only [WN, simprocAttr]
  refine ⟨_, (by rw [hE0, gk']; rfl), rfl, ?_⟩
  rw [hE0, sk']
  rfl
theorem gens61 {h : AHeap} {c8 c7 c6 sid : Nat} {x : In} {i : Int} {st : List Int} (m : Mem61 h c8 c7 c6 sid x i st) (hx : x.OK) (hi : -1000 ≤ i ∧ i ≤ 1000) (hk : ∀ k ∈ nextL x i, 0 ≤ k ∧ k < st.length) : GensX 61 [.rp c8 0 0 0, .rp c7 0 0 0, .rp c6 0 0 0] h ((nextL x i).map fun k => st.getD k.toNat 0) := by
  intro id H hlen happ hB hid hy hst
  obtain ⟨b, hb⟩ : ∃ b, b = (H 0).length := ⟨_, rfl⟩
  have hl : ∀ j, (H j).length = b := fun j => by rw [hlen j, hb]
  have mj : ∀ j, Mem61 (H j) c8 c7 c6 sid x i st := fun j => by
    obtain ⟨t, ht⟩ := happ j
    rw [ht]; exact m.app t
  have p8 := fun X => ((mj 0).app X).p8
  have p7 := fun X => ((mj 0).app X).p7
  rw [List.length_map] at hst ⊢
  refine ACall.ofG S10ok hmA h61 (by kernel_rfl) (Nat.le_of_ble_eq_true rfl) hst fun _ => aS_den ?_
  simp only [WN, simprocAttr, c61, n61, p8, p7, In.av, inV, cells_agg, S10, S9, S8, S7, S6, S5, S4, S3, S2, S1, List.append_assoc]
  refine ⟨_, _, k62 x i _, ?_⟩
  have e1 : (H 0 ++ [AObj.row 0 1 [AV.yld id]]).length = b + 1 := by simp [hl]
  rw [e1, hl 0]
  obtain ⟨s, hs⟩ : ∃ s : List (Nat × AV), s = [(8, .fn (.func 78) [] [.rp (b + 1) 0 0 0, .rp (b + 1 + 1) 0 0 0]), (7, .int .i64 i), (6, x.av), (4, .rp b 0 0 0), (0, .yld id), (1, .rp c8 0 0 0), (2, .rp c7 0 0 0), (3, .rp c6 0 0 0)] := ⟨_, rfl⟩
  have hnk := nextL_len x i
  have hc := k78 x hx i hi (b + 1) (b + 2) (b + 4) (fun j => H j ++ E61 b id s x i) ⟨fun j => by rw [hrow (hl j)]; rfl, fun j => by rw [hrow (hl j)]; rfl, fun j v hv => by
    obtain ⟨hv0, hv1⟩ := hk v (List.mem_of_getElem? hv)
    obtain ⟨k, rfl⟩ := Int.eq_ofNat_of_zero_le hv0
    have hk' : k < st.length := by omega
    refine y61 (hl j) (hl (j + 1)) ?_ (mj j) (by rw [hs]; rfl) (by rw [hs]; rfl) hk' fun X => ?_
    · have := (hy [] j (st.getD ((k : Int)).toNat 0) (by rw [List.getElem?_map, hv]; rfl)).dfr
      simpa using this
    · have := hy X j (st.getD ((k : Int)).toNat 0) (by rw [List.getElem?_map, hv]; rfl)
      rw [show st.getD ((k : Int)).toNat 0 = st[k] by simp [hk']] at this
      exact this, stay_app hst (by rw [hl, hl]) _⟩
  have hs' : [(8, AV.fn (.func 78) [] [.rp (b + 1) 0 0 0, .rp (b + 1 + 1) 0 0 0]), (7, .int .i64 i), (6, AV.agg [AV.int IntKind.u16 x.c, AV.int IntKind.u8 x.a, AV.int IntKind.u8 x.b, AV.int IntKind.u32 x.k]), (4, .rp b 0 0 0), (0, .yld id), (1, .rp c8 0 0 0), (2, .rp c7 0 0 0), (3, .rp c6 0 0 0)] = s := hs.symm
  rw [hs']
  refine x_rangeG (b + 3) (b + 4) (by simp [hl]) rfl (H 0 ++ E61 b id s x i) (by rw [hs]; rfl) (by simp [E61, loop61, asg61, bod61, drw61]) (.tup []) (H (nextL x i).length ++ E61 b id s x i) (loop61 b s) hc (by rw [hget (hl _)]; rfl) (by simp [loop61]) ?_
  rw [hset (hl _)]
  simp only [E61, loop61, hs]
  simp only [WN, simprocAttr]
  exact Fin.gone' (d := b + 3) (xs := []) (hB _) (by rw [hl, hl]; exact Nat.le_refl _) (.inl rfl) rfl (by rw [hl]; omega) (by simp [rowI, rowN]) rfl rfl (.tup _ (by simp))
end Go.Av

/- Contracts: the greatest number of steps. -/
namespace Go.Av
open Go Go.Proofs
set_option maxRecDepth 100000
set_option maxHeartbeats 2000000
def gmax (x : In) (i : Int) (st : List Int) : Int := ((nextL x i).map fun k => st.getD k.toNat 0).foldl mx2 0
def stK (l : List In) : Nat → List Int
  | 0 => List.replicate l.length 0
  | j + 1 => (stK l j).set (l.length - 1 - j) (1 + gmax (l.getD (l.length - 1 - j) default) ((l.length - 1 - j : Nat) : Int) (stK l j))
def mostK (l : List In) : Int := (stK l l.length).getD 0 0
theorem stK_len (l : List In) : ∀ j, (stK l j).length = l.length
  | 0 => by simp [stK]
  | j + 1 => by simp [stK, stK_len l j]
theorem mx2_le {a b c : Int} (h1 : a ≤ c) (h2 : b ≤ c) : mx2 a b ≤ c := by unfold mx2; split <;> omega
theorem mx2_ge (a b : Int) : a ≤ mx2 a b ∧ b ≤ mx2 a b := by unfold mx2; split <;> omega
theorem fold_le {c : Int} : ∀ {vs : List Int} {a : Int}, a ≤ c → (∀ v ∈ vs, v ≤ c) → vs.foldl mx2 a ≤ c
  | [], a, h, _ => h
  | v :: vs, a, h, hv => fold_le (vs := vs) (mx2_le h (hv v (by simp))) fun u hu => hv u (by simp [hu])
theorem fold_ge : ∀ {vs : List Int} {a : Int}, a ≤ vs.foldl mx2 a
  | [], a => Int.le_refl _
  | v :: vs, a => Int.le_trans (mx2_ge a v).1 fold_ge
theorem getD_bound {st : List Int} {c : Int} (h0 : 0 ≤ c) (h : ∀ v ∈ st, 0 ≤ v ∧ v ≤ c) (k : Nat) : 0 ≤ st.getD k 0 ∧ st.getD k 0 ≤ c := by
  rw [List.getD]
  cases hk : st[k]? with
  | none => exact ⟨Int.le_refl _, h0⟩
  | some v => exact h v (List.mem_of_getElem? hk)
theorem gmax_bound {x : In} {i : Int} {st : List Int} {c : Int} (h0 : 0 ≤ c) (h : ∀ v ∈ st, 0 ≤ v ∧ v ≤ c) : 0 ≤ gmax x i st ∧ gmax x i st ≤ c := by
  refine ⟨fold_ge, fold_le h0 fun v hv => ?_⟩
  obtain ⟨k, _, rfl⟩ := List.mem_map.1 hv
  exact (getD_bound h0 h _).2
theorem stK_bound (l : List In) : ∀ j, ∀ v ∈ stK l j, 0 ≤ v ∧ v ≤ (j : Int)
  | 0, v, hv => by
    simp only [stK] at hv
    have := List.eq_of_mem_replicate hv
    subst this; exact ⟨by omega, by omega⟩
  | j + 1, v, hv => by
    simp only [stK] at hv
    rcases List.mem_or_eq_of_mem_set hv with c | c
    · have := stK_bound l j v c; omega
    · have := gmax_bound (x := l.getD (l.length - 1 - j) default) (i := ((l.length - 1 - j : Nat) : Int)) (by omega) (stK_bound l j)
      omega
/-- What comes next lies behind, within. -/
theorem next_in {x : In} (hx : x.OK) {i n : Int} (hi0 : 0 ≤ i) (hn : n ≤ 64) (h1 : oneK x.c x.a x.b x.k i n = 0) (h2 : i < n - 1 ∨ rets x = true) : ∀ k ∈ nextL x i, i < k ∧ k < n := by
  intro k hk
  have ha := hx.a
  have hb := hx.b
  have hk0 := hx.k
  unfold U8 at ha hb
  unfold nextL at hk
  split at hk
  · simp at hk
  · rename_i hc
    simp only [not_or] at hc
    obtain ⟨c1, c2, c3, c4⟩ := hc
    have hlt : i < n - 1 := by rcases h2 with h | h; exact h; exact absurd h c4
    have hbh : behindN i n = n - 1 - i := by unfold behindN; rw [if_neg (by omega)]
    unfold oneK at h1
    rw [if_neg c3] at h1
    by_cases e1 : x.c = 32 ∧ (x.k % 4 ≠ 0 ∨ 64 ≤ x.k)
    · rw [if_pos e1] at h1; exact absurd h1 (by decide)
    rw [if_neg e1] at h1
    by_cases e2 : x.c = 52 ∧ x.k = 0
    · rw [if_pos e2] at h1; exact absurd h1 (by decide)
    rw [if_neg e2] at h1
    by_cases e3 : (x.c = 100 ∨ x.c = 116) ∧ 32 ≤ x.k
    · rw [if_pos e3] at h1; exact absurd h1 (by decide)
    rw [if_neg e3] at h1
    by_cases e4 : formK x.c = 3 ∧ 16 ≤ x.k
    · rw [if_pos e4] at h1; exact absurd h1 (by decide)
    rw [if_neg e4] at h1
    by_cases d5 : formK x.c = 4 ∧ behindN i n ≤ x.k
    · rw [if_pos d5] at h1; exact absurd h1 (by decide)
    rw [if_neg d5] at h1
    by_cases d6 : (formK x.c = 5 ∨ formK x.c = 6) ∧ behindN i n ≤ (if x.a < x.b then x.b else x.a)
    · rw [if_pos d6] at h1; exact absurd h1 (by decide)
    rw [if_neg d6] at h1
    rw [hbh] at d5 d6
    split at hk
    · rename_i f4
      split at hk
      · simp only [List.mem_singleton] at hk; subst hk
        have : ¬ (n - 1 - i ≤ x.k) := fun c => d5 ⟨f4, c⟩
        omega
      · simp at hk
    · split at hk
      · rename_i f4 f5
        have d6' : ¬ (n - 1 - i ≤ if x.a < x.b then x.b else x.a) := fun c => d6 ⟨f5, c⟩
        have hlo : 0 ≤ lo x ∧ lo x < n - 1 - i := by unfold lo; split at d6' <;> split <;> omega
        have hhi : 0 ≤ hi x ∧ hi x < n - 1 - i := by unfold hi; split at d6' <;> omega
        split at hk
        · simp only [List.mem_singleton] at hk; subst hk; omega
        · simp only [List.mem_cons, List.not_mem_nil, or_false] at hk
          rcases hk with rfl | rfl <;> omega
      · simp only [List.mem_singleton] at hk; subst hk; omega
theorem ok_next {l : List In} (hl : ∀ x ∈ l, x.OK) (h : (checkK l).2 = 0) {i : Nat} (hi : i < l.length) : ∀ k ∈ nextL l[i] i, (i : Int) < k ∧ k < l.length := by
  obtain ⟨h1, h2, h3, h4, h5⟩ := check_ok h
  rw [fb_none] at h3
  have := h3 i l[i] (List.getElem?_eq_getElem hi)
  rw [Nat.zero_add] at this
  refine next_in (hl _ (List.getElem_mem hi)) (by omega) (by omega) this ?_
  rcases Nat.lt_or_ge i (l.length - 1) with c | c
  · exact .inl (by omega)
  · right
    have e : l.length - 1 = i := by omega
    rw [e] at h4
    simpa [List.getD, List.getElem?_eq_getElem hi] using h4
def asg36 : AC := (.seq (.ops [o 7 (.alloc (.int .i64 0)), u (.st 1 (.t 7) (.t 22))]) (.ops [o 8 (.alloc (.agg [.int .u16 0, .int .u8 0, .int .u8 0, .int .u32 0])), u (.st 4 (.t 8) (.t 23))]))
def drw36 : List AOpD := [o 24 (.ld none (.t 6)), o 25 (.ld none (.t 7)), o 26 (.mkfn (.func 61) [] [.t 8, .t 7, .t 6]), ⟨some 27, none, .callS 60 [.c (.int .i64 0), .t 26], [2]⟩, ⟨some 28, none, .bin .add (.c (.int .i64 1)) (.t 27), [3]⟩, ⟨some 29, none, .iaddr 1 (.t 24) (.t 25), [0, 1, 0, 1, 2, 3, 4]⟩, ⟨none, none, .st 1 (.t 29) (.t 28), [5, 4, 3, 0, 1, 2, 3, 4]⟩]
def bod36 : AC := (.block 1 (.draw drw36))
def loop36 (s : List (Nat × AV)) : ALoop := { st := .ready, pend := .none, slots := s, n := 33, ps := [22, 23], assign := asg36, body := bod36, dfr := 3 }
def H36 (t : Bool) (l : List In) (s : List (Nat × AV)) (L : ALoop) (j : Nat) : AHeap := [.row 0 1 (ints (stK l j)), .row 0 1 [.rf 0 0 0 l.length], .row 0 1 [.sl t (avs l)], .dfr, .loop L]
theorem ints_obel (n v : Nat) (l : List Int) : OBel n (.row v 1 (ints l)) := by
  intro u hu
  obtain ⟨x, hx, hu⟩ := List.mem_flatMap.1 hu
  obtain ⟨y, _, rfl⟩ := List.mem_map.1 hx
  simp only [cells_int, List.mem_singleton] at hu
  subst hu
  exact .int _ _
theorem HB.of {l : AHeap} (hl : ∀ o ∈ l, OBel l.length o) : HB l := fun i o hi => hl o (List.mem_of_getElem? hi)
theorem y36 (t : Bool) {l : List In} (hl : ∀ x ∈ l, x.OK) (hc : (checkK l).2 = 0) {s : List (Nat × AV)} (s6 : alook s 6 = .rp 1 0 0 0) (hsB : ∀ p ∈ s, Bel 5 p.2) (j : Nat) (h : j < l.length) : AYield PA 4 [.int .i64 ((l.length - 1 - j : Nat) : Int), (l[l.length - 1 - j]).av] (H36 t l s (loop36 s) j) (.bool true) (H36 t l s (loop36 s) (j + 1)) := by
  obtain ⟨i, hi⟩ : ∃ i, i = l.length - 1 - j := ⟨_, rfl⟩
  have hil : i < l.length := by omega
  have e0 : l[l.length - 1 - j] = l[i] := by simp [hi]
  rw [e0, ← hi]
  obtain ⟨x, hx⟩ : ∃ x, x = l[i] := ⟨_, rfl⟩
  rw [← hx]
  obtain ⟨q1, q2, _⟩ := check_ok hc
  have hxo : x.OK := hx ▸ hl _ (List.getElem_mem hil)
  have hn : ∀ k ∈ nextL x i, 0 ≤ k ∧ k < (stK l j).length := fun k hk => by
    have := ok_next hl hc hil k (hx ▸ hk); rw [stK_len]; omega
  have hb := gmax_bound (x := x) (i := (i : Int)) (c := 64) (by omega) (fun v hv => by have := stK_bound l j v hv; omega : ∀ v ∈ stK l j, 0 ≤ v ∧ v ≤ 64)
  have w : IntKind.i64.wrap (1 + gmax x i (stK l j)) = 1 + gmax x i (stK l j) := wrI64 (by omega) (by omega)
  have e1 : l.getD i default = x := by rw [hx]; simp [hil]
  have e2 : stK l (j + 1) = (stK l j).set i (1 + gmax x i (stK l j)) := by simp only [stK]; rw [← hi, e1]
  have e3 : (ints (stK l j)).set i (.int .i64 (1 + gmax x i (stK l j))) = ints (stK l (j + 1)) := by rw [e2]; simp [ints, List.map_set]
  have gi : (ints (stK l j))[i]? = some (.int .i64 (stK l j)[i]!) := by
    have : i < (stK l j).length := by rw [stK_len]; exact hil
    simp [ints, this]
  have i0 : (0 : Int) ≤ (i : Int) := by omega
  refine AYield.ghost (h1 := H36 t l s (loop36 s) (j + 1) ++ [.row 0 1 [.int .i64 i], .row 0 4 [x.av]]) ?_ (GstH.drop (by simp [H36]) ?_) ?_
  · refine AYield.ofS S10ok hmA (L := loop36 s) rfl rfl (by simp [loop36]) ?_ (by kernel_rfl) (by kernel_rfl) (aS_den ?_)
    · intro d hd
      rcases d with _ | _ | _ | _ | _ | d <;> first | rfl | (simp [H36] at hd)
    · simp only [loop36, asg36, bod36, putArgs, H36]
      simp only [WK, simprocAttr, In.av, inV, s6]
      refine ⟨rfl, _, rfl, rfl, aS_den ?_⟩
      simp only [WK, simprocAttr, drw36]
      obtain ⟨L1, hL1⟩ : ∃ L1 : ALoop, L1 = { st := .busy, pend := .none, slots := s, n := 33, ps := [22, 23], assign := asg36, body := bod36, dfr := 3 } := ⟨_, rfl⟩
      refine drwL_of [6] [(0, 0), (0, 0), (0, 0), (0, 0), (0, 0), (0, 0), (0, 0)] (fun q => match q with
        | 0 => H36 t l s L1 j ++ [.row 0 1 [.int .i64 i], .row 0 4 [x.av]]
        | _ => H36 t l s L1 (j + 1) ++ [.row 0 1 [.int .i64 i], .row 0 4 [x.av]]) (by kernel_rfl) (by rw [hL1]; rfl) ?_
      refine awL_q (.rf 0 0 0 l.length) 0 0 rfl rfl rfl (fun q h1 h2 => ?_) ?_
      · obtain rfl : q = 0 := by omega
        simp only [WK, simprocAttr, s6, H36]
      refine awL_q (.int .i64 i) 0 0 rfl rfl rfl (fun q h1 h2 => ?_) ?_
      · obtain rfl : q = 0 := by omega
        simp only [WK, simprocAttr, s6, H36]
      refine awL_q (.fn (.func 61) [] [.rp 6 0 0 0, .rp 5 0 0 0, .rp 1 0 0 0]) 0 0 rfl rfl rfl (fun q h1 h2 => ?_) ?_
      · obtain rfl : q = 0 := by omega
        simp only [WK, simprocAttr, s6, H36]
      refine awL_cq (.int .i64 (gmax x i (stK l j))) 0 0 (f := 60) (args := [.int .i64 0, .fn (.func 61) [] [.rp 6 0 0 0, .rp 5 0 0 0, .rp 1 0 0 0]]) rfl rfl rfl (fun q h1 h2 => ⟨?_, ?_⟩) ?_
      · obtain rfl : q = 0 := by omega
        simp only [WK, simprocAttr]
      · obtain rfl : q = 0 := by omega
        exact k60 61 _ _ 0 _ (gens61 (sid := 0) (st := stK l j) ⟨rfl, rfl, by rw [stK_len]; rfl, rfl⟩ hxo (by omega) hn)
      refine awL_q (.int .i64 (1 + gmax x i (stK l j))) 0 0 rfl rfl rfl (fun q h1 h2 => ?_) ?_
      · obtain rfl : q = 0 := by omega
        simp only [WK, simprocAttr, w]
      refine awL_q (.rp 0 0 i 0) 0 0 rfl rfl rfl (fun q h1 h2 => ?_) ?_
      · obtain rfl : q = 0 := by omega
        simp only [WK, simprocAttr, H36, i0, hil]
      refine awL_st 0 rfl rfl rfl ?_ ?_
      · simp only [WK, simprocAttr, H36, gi, e3, Nat.le_refl, List.headD_cons]
      simp only [awL, H36]
      simp only [WK, simprocAttr]
      refine ⟨_, rfl, rfl, ?_⟩
      rw [hL1]; rfl
  · refine HB.of fun o ho => ?_
    simp only [H36, List.mem_cons, List.not_mem_nil, or_false] at ho
    rcases ho with rfl | rfl | rfl | rfl | rfl
    · exact ints_obel _ _ _
    · intro u hu
      simp [flat, cells_rf] at hu; subst hu
      exact .rf _ _ _ _ (by simp [H36])
    · intro u hu
      simp [flat, cells_sl] at hu; subst hu
      exact avs_bel _ _ _
    · trivial
    · exact ⟨alook_bel hsB, by simp [H36, loop36]⟩
  · intro d hd
    rcases d with _ | _ | _ | _ | _ | d <;> first | rfl | (simp [H36] at hd)
theorem ints_rep (n : Nat) : List.replicate n (AV.int .i64 0) = ints (List.replicate n 0) := by simp [ints]
theorem k36 (t : Bool) (l : List In) (hl : ∀ x ∈ l, x.OK) : ACall PA 36 [.sl t (avs l)] [] (.tup [.int .i64 (if (checkK l).2 = 0 then mostK l else 0), .int .i64 (checkK l).2]) [] := by
  refine ACall.ofS S10ok hmA h36 (by kernel_rfl) (Nat.le_of_ble_eq_true rfl) ownH_nil (own_solid (by simp [solid_tup, solid_int])) (aS_den ?_)
  have hd := decIns_avs hl
  by_cases c0 : (checkK l).2 = 0
  · obtain ⟨h1, h2, h3, h4, h5⟩ := check_ok c0
    have m0 : (0 : Int) ≤ (l.length : Int) := by omega
    have m1 : (l.length : Int) * 8 ≤ 140737488355328 := by omega
    simp only [WK, simprocAttr, c36, n36, S10, S9, S8, S7, S6, S5, S4, S3, S2, S1, hd, h5, avs_len, m0, m1, most, ints_rep]
    refine ⟨_, _, k59 t l _, ?_⟩
    simp only [WK, simprocAttr, List.headD_cons]
    obtain ⟨s, hs⟩ : ∃ s : List (Nat × AV), s = [(21, AV.fn (Fn.func 77) [] [AV.rp 2 0 0 0]), (20, AV.sl t (avs l)), (6, AV.rp 1 0 0 0), (19, AV.rf 0 0 0 l.length), (18, AV.int IntKind.i64 l.length), (17, AV.sl t (avs l)), (15, AV.bool false),
          (14, AV.int IntKind.i64 0), (5, AV.int IntKind.i64 0), (4, AV.int IntKind.i64 0), (13, AV.int IntKind.i64 0), (12, AV.int IntKind.i64 0), (9, AV.tup [AV.int IntKind.i64 0, AV.int IntKind.i64 0]),
          (11, AV.tup [AV.int IntKind.i64 0, AV.int IntKind.i64 0]), (10, AV.sl t (avs l)), (3, AV.int IntKind.i64 0), (2, AV.int IntKind.i64 0), (0, AV.sl t (avs l))] := ⟨_, rfl⟩
    rw [← hs]
    have s6 : alook s 6 = .rp 1 0 0 0 := by rw [hs]; rfl
    have hsB : ∀ p ∈ s, Bel 5 p.2 := by
      intro p hp
      rw [hs] at hp
      simp only [List.mem_cons, List.not_mem_nil, or_false] at hp
      rcases hp with rfl | rfl | rfl | rfl | rfl | rfl | rfl | rfl | rfl | rfl | rfl | rfl | rfl | rfl | rfl | rfl | rfl | rfl
      all_goals first
        | exact .int _ _
        | exact .bool _
        | exact avs_bel _ _ _
        | exact .rp _ _ _ _ (by omega)
        | exact .rf _ _ _ _ (by omega)
        | exact .tup _ (by simp [bel_int])
        | exact .fn _ _ _ (by simp) (by simp only [List.mem_singleton, forall_eq]; exact .rp _ _ _ _ (by omega))
    have hst : ∀ a b, Hstay (H36 t l s (loop36 s) a) (H36 t l s (loop36 s) b) := by
      intro a b d hd
      rcases d with _ | _ | _ | _ | _ | d <;> first | rfl | (simp [H36] at hd)
    have hc := k77 t l (by omega) 2 4 (H36 t l s (loop36 s)) ⟨fun j => rfl, fun j hj => y36 t hl c0 s6 hsB j hj, hst _ _⟩
    refine x_rangeG 3 4 rfl rfl (H36 t l s (loop36 s) 0) (by rw [hs]; rfl) (by simp [H36, loop36, asg36, bod36, drw36, stK]) (.tup []) (H36 t l s (loop36 s) l.length) (loop36 s) hc rfl (by simp [loop36]) ?_
    have z1 : (0 : Nat) < l.length := by omega
    have z2 : (ints (stK l l.length))[0]? = some (.int .i64 (mostK l)) := by
      have : 0 < (stK l l.length).length := by rw [stK_len]; omega
      simp [ints, mostK, this]
    simp only [H36, loop36, hs]
    simp only [WK, simprocAttr, z1, z2]
    simp only [WK, simprocAttr, EW, r36, noLoop]
    simp
  · have c1 : ((checkK l).2 != 0) = true := by simp [c0]
    simp only [WK, simprocAttr, c36, n36, S10, S9, S8, S7, S6, S5, S4, S3, S2, S1, hd, avs_len, c1]
    simp only [WK, simprocAttr, EW, r36]
    all_goals simp [c0]
end Go.Av

/- CheckLonger: one instruction more ahead, or one less. -/
namespace Go.Av
open Go Go.Proofs
set_option maxRecDepth 100000
set_option maxHeartbeats 2000000
/-! ### The plain law -/
def ldImm (k : Int) : In := ⟨0, 0, 0, k⟩
theorem form0 : formK 0 = 1 := by kernel_rfl
theorem behind_up {i n : Int} (hn : 1 ≤ n) : behindN (i + 1) (n + 1) = behindN i n := by
  unfold behindN
  by_cases h : n - 1 ≤ i
  · rw [if_pos (by omega), if_pos (by omega)]
  · rw [if_neg (by omega), if_neg (by omega)]; omega
theorem one_up {c a b k i n : Int} (hn : 1 ≤ n) : oneK c a b k (i + 1) (n + 1) = oneK c a b k i n := by
  unfold oneK
  rw [behind_up hn]
theorem fb_up {n : Int} (hn : 1 ≤ n) : ∀ (l : List In) (i : Nat), fb (n + 1) (i + 1) l = (fb n i l).map fun p => (p.1 + 1, p.2)
  | [], i => rfl
  | x :: r, i => by
    unfold fb
    rw [show ((i + 1 : Nat) : Int) = (i : Int) + 1 by omega, one_up hn]
    split
    · exact fb_up hn r (i + 1)
    · rfl
theorem one_imm (k i n : Int) : oneK 0 0 0 k i n = 0 := by
  unfold oneK
  simp [form0]
theorem check_in {l : List In} (h1 : 1 ≤ l.length) (h2 : l.length ≤ 64) : checkK l = match fb l.length 0 l with
  | some p => p
  | none => if rets (l.getD (l.length - 1) default) = true then (0, 0) else ((l.length : Int) - 1, 147) := by
  unfold checkK
  rw [if_neg (by omega)]
  rfl
theorem next_of {x : In} {i : Int} (h0 : 0 ≤ i) (h1 : i ≤ 255) (c : ¬ (formK x.c < 0 ∨ rets x = true)) : nextL x i = if formK x.c = 4 then (if x.k ≤ 255 then [i + 1 + x.k] else []) else
  if formK x.c = 5 ∨ formK x.c = 6 then (if lo x = hi x then [i + 1 + lo x] else [i + 1 + lo x, i + 1 + hi x]) else [i + 1] := by
  unfold nextL
  rw [if_neg (fun d => by rcases d with d | d | d | d; omega; omega; exact c (.inl d); exact c (.inr d))]
theorem next_not {x : In} {i : Int} (c : formK x.c < 0 ∨ rets x = true) : nextL x i = [] := by
  unfold nextL
  rw [if_pos (by rcases c with c | c <;> simp [c])]
theorem check_up {l : List In} (k : Int) (h1 : 1 ≤ l.length) (h2 : l.length < 64) : (checkK (ldImm k :: l)).2 = (checkK l).2 := by
  have e : fb ((ldImm k :: l).length : Nat) 0 (ldImm k :: l) = (fb l.length 0 l).map fun p => (p.1 + 1, p.2) := by
    have := fb_up (n := l.length) (by omega) l 0
    rw [← this]
    show (if oneK 0 0 0 k _ _ = 0 then _ else _) = _
    rw [if_pos (one_imm _ _ _)]
    simp
  rw [check_in (l := ldImm k :: l) (by simp) (by simp; omega), check_in h1 (by omega), e]
  cases h : fb l.length 0 l with
  | some p => rfl
  | none =>
    have hg : (ldImm k :: l).getD ((ldImm k :: l).length - 1) default = l.getD (l.length - 1) default := by
      simp only [List.length_cons, Nat.add_sub_cancel]
      obtain ⟨m, hm⟩ : ∃ m, l.length = m + 1 := ⟨l.length - 1, by omega⟩
      rw [hm]; simp
    simp only [Option.map_none]
    rw [hg]
    split <;> rfl
theorem check_down {x : In} {l : List In} (h : (checkK (x :: l)).2 = 0) (h1 : 1 ≤ l.length) : (checkK l).2 = 0 := by
  obtain ⟨a1, a2, a3, a4, a5⟩ := check_ok h
  simp only [List.length_cons] at a2
  have e : fb l.length 0 l = none := by
    unfold fb at a3
    split at a3
    · have := fb_up (n := l.length) (by omega) l 0
      simp only [List.length_cons] at a3
      rw [show (((l.length + 1 : Nat)) : Int) = (l.length : Int) + 1 by omega, this] at a3
      cases hf : fb l.length 0 l with
      | none => rfl
      | some p => rw [hf] at a3; cases a3
    · cases a3
  have hg : (x :: l).getD ((x :: l).length - 1) default = l.getD (l.length - 1) default := by
    simp only [List.length_cons, Nat.add_sub_cancel]
    obtain ⟨m, hm⟩ : ∃ m, l.length = m + 1 := ⟨l.length - 1, by omega⟩
    rw [hm]; simp
  rw [hg] at a4
  unfold checkK
  rw [if_neg (by omega), e]
  dsimp only
  rw [if_pos a4]
theorem next_up {x : In} (i : Int) (h0 : 0 ≤ i) (h1 : i < 255) : nextL x (i + 1) = (nextL x i).map (· + 1) := by
  by_cases c : formK x.c < 0 ∨ rets x = true
  · rw [next_not c, next_not c]; rfl
  · rw [next_of (by omega) (by omega) c, next_of h0 (by omega) c]
    have e1 : i + 1 + 1 + x.k = i + 1 + x.k + 1 := by omega
    have e2 : i + 1 + 1 + lo x = i + 1 + lo x + 1 := by omega
    have e3 : i + 1 + 1 + hi x = i + 1 + hi x + 1 := by omega
    rw [e1, e2, e3]
    repeat' split
    all_goals rfl
theorem next_pos {x : In} (hx : x.OK) {i : Int} (h0 : 0 ≤ i) : ∀ k ∈ nextL x i, 0 ≤ k := by
  intro k hk
  have ha := hx.a
  have hb := hx.b
  have hk0 := hx.k
  unfold U8 at ha hb
  have h1 : 0 ≤ lo x := by unfold lo; split <;> omega
  have h2 : 0 ≤ hi x := by unfold hi; split <;> omega
  unfold nextL at hk
  repeat' split at hk
  all_goals simp at hk
  all_goals first | omega | (rcases hk with rfl | rfl <;> omega)
theorem gmax_up {x : In} (hx : x.OK) {i : Int} (h0 : 0 ≤ i) (h1 : i < 255) (v : Int) (st : List Int) : gmax x (i + 1) (v :: st) = gmax x i st := by
  unfold gmax
  rw [next_up i h0 h1, List.map_map]
  congr 1
  refine List.map_congr_left fun k hk => ?_
  have := next_pos hx h0 k hk
  obtain ⟨m, rfl⟩ := Int.eq_ofNat_of_zero_le this
  have e1 : (((m : Int)) + 1).toNat = m + 1 := by omega
  simp [e1]
theorem stK_up {l : List In} (hl : ∀ x ∈ l, x.OK) (hn : l.length < 64) (y : In) : ∀ j, j ≤ l.length → stK (y :: l) j = 0 :: stK l j
  | 0, _ => rfl
  | j + 1, hj => by
    have ih := stK_up hl hn y j (by omega)
    have e : (y :: l).length - 1 - j = (l.length - 1 - j) + 1 := by simp only [List.length_cons]; omega
    have hlt : l.length - 1 - j < l.length := by omega
    simp only [stK]
    rw [ih, e, List.getD_cons_succ, List.set_cons_succ]
    have hx : (l.getD (l.length - 1 - j) default).OK := by
      rw [List.getD, List.getElem?_eq_getElem hlt]; exact hl _ (List.getElem_mem hlt)
    rw [show (((l.length - 1 - j + 1 : Nat)) : Int) = ((l.length - 1 - j : Nat) : Int) + 1 by omega, gmax_up hx (by omega) (by omega)]
theorem most_up {l : List In} (hl : ∀ x ∈ l, x.OK) (h1 : 1 ≤ l.length) (hn : l.length < 64) (k : Int) : mostK (ldImm k :: l) = mostK l + 1 := by
  unfold mostK
  have e : (ldImm k :: l).length = l.length + 1 := rfl
  rw [e, stK, stK_up hl hn _ _ (Nat.le_refl _)]
  have e2 : (ldImm k :: l).length - 1 - l.length = 0 := by simp
  have hg : gmax (ldImm k) 0 (0 :: stK l l.length) = (stK l l.length).getD 0 0 := by
    have hn1 : nextL (ldImm k) 0 = [1] := by
      unfold nextL
      simp [ldImm, form0, rets]
    unfold gmax
    rw [hn1]
    have := (getD_bound (c := (l.length : Int)) (by omega) (stK_bound l l.length) 0).1
    simp only [List.map_cons, List.map_nil, List.foldl_cons, List.foldl_nil]
    show mx2 0 ((0 :: stK l l.length).getD 1 0) = _
    rw [List.getD_cons_succ]
    unfold mx2
    split <;> omega
  rw [e2]
  simp only [List.set_cons_zero, List.getD_cons_zero]
  show 1 + gmax (ldImm k) 0 _ = _
  rw [hg]; omega
/-! ### The walk -/
def S11 : Spec := fun f args => match f, args with
  | 36, [.sl _ xs] => match decIns xs with
    | some l => some (.tup [.int .i64 (if (checkK l).2 = 0 then mostK l else 0), .int .i64 (checkK l).2], [])
    | none => none
  | f, args => S10 f args
theorem S11ok : SpecOK PA S11 := by
  refine ⟨fun f args r l h => ?_⟩
  unfold S11 at h
  split at h
  · split at h
    · rename_i hd
      obtain ⟨rfl, hok⟩ := decIns_inv hd
      cases h
      exact ⟨k36 _ _ hok, by simp only [List.mem_singleton, forall_eq]; exact avs_bel _ _ _, own_solid (by simp [solid_tup, solid_int]), ownH_nil⟩
    · cases h
  · exact S10ok.ok _ _ _ _ h
theorem ldImm_ok {k : Int} (hk : 0 ≤ k ∧ k < 4294967296) : (ldImm k).OK := ⟨⟨by simp [ldImm], by simp [ldImm]⟩, ⟨by simp [ldImm], by simp [ldImm]⟩, ⟨by simp [ldImm], by simp [ldImm]⟩, hk⟩
theorem k8 (t : Bool) (l : List In) (hok : ∀ x ∈ l, x.OK) (k : Int) (hk : 0 ≤ k ∧ k < 4294967296) : ACall PA 8 [.sl t (avs l), .int .u32 k] [] (.bool true) [] := by
  refine ACall.ofS S11ok hmA h8 (by kernel_rfl) (Nat.le_of_ble_eq_true rfl) ownH_nil (own_solid (by simp [solid_bool])) (aS_den ?_)
  have hd := decIns_avs hok
  obtain ⟨L, hL⟩ : ∃ L, L = l.take 65 := ⟨_, rfl⟩
  have hLok : ∀ y ∈ L, y.OK := fun y hy => hok y (List.mem_of_mem_take (hL ▸ hy))
  have hLl : L.length ≤ 65 := by rw [hL, List.length_take]; omega
  have hdL := decIns_avs hLok
  have hy := ldImm_ok hk
  have hmok : ∀ y ∈ ldImm k :: L, y.OK := fun y h => by
    rcases List.mem_cons.1 h with rfl | h
    · exact hy
    · exact hLok y h
  have hdm : decIns (.agg [.int .u16 0, .int .u8 0, .int .u8 0, .int .u32 k] :: avs L) = some (ldImm k :: L) := decIns_avs hmok
  by_cases e : L = []
  · have ea : avs ([] : List In) = [] := rfl
    have c2 : checkK [] = (0, 140) := by kernel_rfl
    have c3 : checkK [ldImm k] = (0, 147) := by
      have hf : fb (([ldImm k]).length : Nat) 0 [ldImm k] = none := by
        unfold fb
        rw [if_pos (show oneK (ldImm k).c (ldImm k).a (ldImm k).b (ldImm k).k _ _ = 0 from one_imm _ _ _)]; rfl
      rw [check_in (by simp) (by simp), hf]; rfl
    subst e
    have hd0 : decIns [] = some [] := rfl
    have hdm0 : decIns [.agg [.int .u16 0, .int .u8 0, .int .u8 0, .int .u32 k]] = some [ldImm k] := hdm
    simp only [WK, simprocAttr, S11, S10, S9, S8, S7, S6, S5, S4, S3, S2, S1, c8, n8, hd, ← hL, ownRow, ea, c2, appR, hd0, hdm0, c3]
    simp only [WK, simprocAttr, EW, r8]
  · have e' : ¬ avs L = [] := by rw [avs_nil]; exact e
    have el : (avs L).take L.length = avs L := by rw [avs_take, List.take_length]
    have n1 : 1 ≤ L.length := by
      rcases Nat.eq_zero_or_pos L.length with c | c
      · exact absurd (List.length_eq_zero_iff.1 c) e
      · exact c
    have q0 : ((L.length : Int) == 0) = false := by simp; omega
    have m1 : (1 + L.length) * 8 ≤ 140737488355328 := by omega
    have ok4 : (avs L).all (okE 4) = true := avs_okE L
    have el2 : (AV.agg [.int .u16 0, .int .u8 0, .int .u8 0, .int .u32 k] :: avs L).take (1 + L.length) = .agg [.int .u16 0, .int .u8 0, .int .u8 0, .int .u32 k] :: avs L := by
      rw [Nat.add_comm, List.take_succ_cons, el]
    by_cases g : 64 ≤ L.length
    · have q1 : (64 : Int) ≤ (L.length : Int) := by omega
      have c4 : checkK (ldImm k :: L) = (0, 140) := by
        unfold checkK; rw [if_pos (by simp only [List.length_cons]; omega)]
      simp only [WK, simprocAttr, S11, S10, S9, S8, S7, S6, S5, S4, S3, S2, S1, c8, n8, hd, ← hL, ownRow, e', hdL, el, appR, most, m1, ok4, avs_len, el2, hdm, c4, q0, q1, ge_iff_le]
      simp only [WK, simprocAttr, EW, r8]
    · have q1 : ¬ (64 : Int) ≤ (L.length : Int) := by omega
      have c4 := check_up k n1 (by omega)
      by_cases c0 : (checkK L).2 = 0
      · have q2 : ((checkK L).2 != (checkK L).2) = false := by simp
        have q3 : ((0 : Int) != 0) = false := by simp
        have mu := most_up hLok n1 (by omega) k
        have hb := (getD_bound (c := (L.length : Int)) (by omega) (stK_bound L L.length) 0)
        have w1 : IntKind.i64.wrap (mostK L + 1) = mostK L + 1 := wrI64 (by unfold mostK; omega) (by unfold mostK; omega)
        have q4 : (mostK L + 1 != mostK L + 1) = false := by simp
        by_cases g2 : 1 < L.length
        · have q5 : (1 : Int) < (L.length : Int) := by omega
          have q6 : (1 : Int) ≤ (L.length : Int) := by omega
          have td : (avs L).drop 1 = avs (L.drop 1) := avs_drop L 1
          have tl : (L.drop 1).length = L.length - 1 := by simp
          have tt : (avs (L.drop 1)).take ((L.length : Int) - 1).toNat = avs (L.drop 1) := List.take_of_length_le (by rw [avs_len, tl]; omega)
          have hdt := decIns_avs (l := L.drop 1) fun y hy => hLok y (List.mem_of_mem_drop hy)
          have c5 : (checkK (L.drop 1)).2 = 0 := by
            cases hL' : L with
            | nil => exact absurd hL' e
            | cons x r =>
              rw [hL'] at c0 g2
              have hr : 1 ≤ r.length := by simp only [List.length_cons] at g2; omega
              have := check_down c0 hr
              exact this
          simp only [WK, simprocAttr, S11, S10, S9, S8, S7, S6, S5, S4, S3, S2, S1, c8, n8, hd, ← hL, ownRow, e', hdL, el, appR, most, m1, ok4, avs_len, el2, hdm, c4, q0, q1, ge_iff_le, gt_iff_lt, c0, mu, w1, q4, q5, q6, aslc, Int.le_refl, td, tt, hdt, c5]
          simp only [WK, simprocAttr, EW, r8]
        · have q5 : ¬ (1 : Int) < (L.length : Int) := by omega
          simp only [WK, simprocAttr, S11, S10, S9, S8, S7, S6, S5, S4, S3, S2, S1, c8, n8, hd, ← hL, ownRow, e', hdL, el, appR, most, m1, ok4, avs_len, el2, hdm, c4, q0, q1, ge_iff_le, gt_iff_lt, c0, mu, w1, q4, q5]
          simp only [WK, simprocAttr, EW, r8]
      · have q2 : ((checkK L).2 != (checkK L).2) = false := by simp
        have q3 : ((checkK L).2 != 0) = true := by simp [c0]
        simp only [WK, simprocAttr, S11, S10, S9, S8, S7, S6, S5, S4, S3, S2, S1, c8, n8, hd, ← hL, ownRow, e', hdL, el, appR, most, m1, ok4, avs_len, el2, hdm, c4, q0, q1, ge_iff_le, gt_iff_lt, q2, q3]
        simp only [WK, simprocAttr, EW, r8]
end Go.Av
