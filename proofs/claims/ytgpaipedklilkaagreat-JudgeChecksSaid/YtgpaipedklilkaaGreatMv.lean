/- Deep freezing: what a function made and hands back is handed back as what it holds; its memory is gone. -/
import Derived.Test.YtgpaipedklilkaaGreatMf
set_option linter.unusedVariables false
set_option linter.unusedSimpArgs false
namespace Go.Av
open Go
inductive Fz (b : Nat) (H : AHeap) : AV → AV → Prop
  | keep (x : AV) (h : Bel b x) : Fz b H x x
  | rf (id ver idx len sz : Nat) (es ys : List AV) (hid : b ≤ id) (hr : rowAt H id ver = some (sz, es)) (hl : ((es.drop idx).take len).length = ys.length)
      (he : ∀ (j : Nat) (x y : AV), ((es.drop idx).take len)[j]? = some x → ys[j]? = some y → x.cells.length = y.cells.length)
      (hc : ∀ (j : Nat) (u v : AV), (flat ((es.drop idx).take len))[j]? = some u → (flat ys)[j]? = some v → Fz b H u v) : Fz b H (.rf id ver idx len) (.sl false ys)
  | rp (id ver idx off sz : Nat) (es : List AV) (e e' : AV) (hid : b ≤ id) (hr : rowAt H id ver = some (sz, es)) (he : es[idx]? = some e) (hl : e.cells.length = e'.cells.length)
      (hc : ∀ (j : Nat) (u v : AV), e.cells[j]? = some u → e'.cells[j]? = some v → Fz b H u v) : Fz b H (.rp id ver idx off) (.cp e' off)
  | sl (t t' : Bool) (xs ys : List AV) (hl : xs.length = ys.length) (htt : t' = true → t = true) (he : ∀ (j : Nat) (x y : AV), xs[j]? = some x → ys[j]? = some y → x.cells.length = y.cells.length)
      (hc : ∀ (j : Nat) (u v : AV), (flat xs)[j]? = some u → (flat ys)[j]? = some v → Fz b H u v) : Fz b H (.sl t xs) (.sl t' ys)
  | agg (cs ds : List AV) (hl : cs.length = ds.length) (hc : ∀ (j : Nat) (u v : AV), cs[j]? = some u → ds[j]? = some v → Fz b H u v) : Fz b H (.agg cs) (.agg ds)
  | tup (cs ds : List AV) (hl : cs.length = ds.length) (hc : ∀ (j : Nat) (u v : AV), cs[j]? = some u → ds[j]? = some v → Fz b H u v) : Fz b H (.tup cs) (.tup ds)
theorem flat_len_eq : ∀ {xs ys : List AV}, xs.length = ys.length → (∀ (j : Nat) (x y : AV), xs[j]? = some x → ys[j]? = some y → x.cells.length = y.cells.length) → (flat xs).length = (flat ys).length
  | [], [], _, _ => rfl
  | [], _ :: _, h, _ => by simp at h
  | _ :: _, [], h, _ => by simp at h
  | x :: xs, y :: ys, h, he => by
    have i := flat_len_eq (xs := xs) (ys := ys) (by simpa using h) fun j u v hu hv => he (j + 1) u v (by simpa using hu) (by simpa using hv)
    have e := he 0 x y rfl rfl
    simp only [flat, List.flatMap_cons, List.length_append] at i ⊢
    rw [e, i]
theorem get_other {xs ys : List AV} (h : xs.length = ys.length) {j : Nat} {v : AV} (hv : ys[j]? = some v) : ∃ u, xs[j]? = some u :=
  ⟨xs[j]'(by rw [h]; exact getElem?_lt hv), List.getElem?_eq_getElem _⟩
variable {P : Program} {ρ : Rho} {h : AHeap} {w : World}
theorem Fz.vr {l : AHeap} (hh : HR P ρ (h ++ l) w) {x y : AV} (f : Fz h.length (h ++ l) x y) : ∀ {v : Value}, VR ρ (h ++ l) w x v → VR ρ h w y v := by
  have still : ∀ {id ver sz : Nat} {es : List AV}, h.length ≤ id → rowAt (h ++ l) id ver = some (sz, es) → ρ id < w.heap.size → Still ρ h w (ρ id) := by
    intro id ver sz es hid hr hlt
    refine ⟨hlt, ?_⟩
    rintro (⟨i, o, hi, hl', e⟩ | hX)
    rotate_left
    · exact hh.xo id _ (rowAt_eq hr) rfl hX
    have hi' : (h ++ l)[i]? = some o := by rw [List.getElem?_append_left (getElem?_lt hi)]; exact hi
    have := hh.inj i id o _ hi' (rowAt_eq hr) hl' rfl e
    have := getElem?_lt hi
    omega
  induction f with
  | keep x hb => exact fun hv => hv.drop hb
  | rf id ver idx len sz es ys hid hr hl he hc ih =>
    intro v hv
    have hro := rowAt_eq hr
    cases hv with
    | rf _ _ _ _ A c hid' hl' hc' =>
      obtain ⟨_, hc2⟩ := hc' _ _ _ hro
      obtain ⟨e1, e2, e3⟩ := hc2 rfl
      obtain ⟨cs, el, b1, b2, b3, b4, b5⟩ := hh.obj id _ hro
      have hmem : ∀ x ∈ (es.drop idx).take len, x.cells.length = sz := fun x hx => b2 x (List.mem_of_mem_drop (List.mem_of_mem_take hx))
      have hlen : ((es.drop idx).take len).length = len := by simp; omega
      have hyl : ys.length = len := by rw [← hl, hlen]
      have hget : ∀ (j : Nat) (u : AV), (flat ((es.drop idx).take len))[j]? = some u → (flat es)[idx * sz + j]? = some u := by
        intro j u hj
        obtain ⟨q, el, k, f1, f2, f3, f4⟩ := flat_mem hmem j u hj
        have : es[idx + q]? = some el := by
          rw [List.getElem?_take] at f1
          split at f1
          · rw [List.getElem?_drop] at f1; exact f1
          · cases f1
        have := flat_get b2 (idx + q) el this k f4
        rw [f2] at this
        rw [f3]
        rw [Nat.add_mul] at this
        rw [← this]
        congr 1
        omega
      have : VR ρ h w (.sl false ys) (.slice A ys.length c) := by
        refine .sl false _ A c sz (fun j => (cs[idx * sz + j]?).getD undef) (fun y hy => ?_) (fun hx => ?_) (fun j u hj => ?_) (by omega) (by simp)
        · obtain ⟨j, hj⟩ := List.mem_iff_getElem?.1 hy
          obtain ⟨x, hx⟩ := get_other hl hj
          rw [← he j x y hx hj]
          exact hmem x (List.mem_of_getElem? hx)
        · have hne : c ≠ 0 := by
            have : ys.length ≠ 0 := fun e => hx (List.length_eq_zero_iff.1 e)
            omega
          refine ⟨ρ id, idx * sz, e1 hne, still hid hr (heap_lt b1), fun j u hj => ?_⟩
          obtain ⟨u', hu'⟩ := get_other (flat_len_eq hl he) hj
          obtain ⟨v, g1, g2⟩ := b5 _ u' (hget j u' hu')
          simp [World.cell?, b1, g1]
        · obtain ⟨u', hu'⟩ := get_other (flat_len_eq hl he) hj
          obtain ⟨v, g1, g2⟩ := b5 _ u' (hget j u' hu')
          simp only [g1, Option.getD_some]
          exact ih j u' u hu' hj g2
      rw [hyl] at this
      exact this
  | rp id ver idx off sz es e e' hid hr he hl hc ih =>
    intro v hv
    have hro := rowAt_eq hr
    cases hv with
    | rp _ _ _ _ a hid' hc' =>
      obtain ⟨_, hc2⟩ := hc' _ _ _ hro
      have ea := hc2 rfl
      subst ea
      obtain ⟨cs, el, b1, b2, b3, b4, b5⟩ := hh.obj id _ hro
      have hg : ∀ (j : Nat) (u : AV), e.cells[j]? = some u → (flat es)[idx * sz + j]? = some u := fun j u hj => by
        have := flat_get b2 idx e he j (by rw [← b2 e (List.mem_of_getElem? he)]; exact getElem?_lt hj)
        rw [this]; exact hj
      refine .cp e' off (ρ id) (idx * sz) (fun j => (cs[idx * sz + j]?).getD undef) (still hid hr (heap_lt b1)) (fun j u hj => ?_) (fun j u hj => ?_)
      · obtain ⟨u', hu'⟩ := get_other hl hj
        obtain ⟨v, g1, g2⟩ := b5 _ u' (hg j u' hu')
        simp [World.cell?, b1, g1]
      · obtain ⟨u', hu'⟩ := get_other hl hj
        obtain ⟨v, g1, g2⟩ := b5 _ u' (hg j u' hu')
        simp only [g1, Option.getD_some]
        exact ih j u' u hu' hj g2
  | sl t t' xs ys hl htt he hc ih =>
    intro v hv
    cases hv with
    | sl _ _ A c sz vals hsz ha hv' hc' ht =>
      rw [hl]
      refine .sl t' ys A c sz vals (fun y hy => ?_) (fun hx => ?_) (fun j u hj => ?_) (by omega) (fun e => by rw [← hl]; exact ht (htt e))
      · obtain ⟨j, hj⟩ := List.mem_iff_getElem?.1 hy
        obtain ⟨x, hx⟩ := get_other hl hj
        rw [← he j x y hx hj]
        exact hsz x (List.mem_of_getElem? hx)
      · have hne : xs ≠ [] := fun e => hx (by subst e; exact List.length_eq_zero_iff.1 (by simpa using hl.symm))
        obtain ⟨b, o, a1, a2, a3⟩ := ha hne
        refine ⟨b, o, a1, a2.drop, fun j u hj => ?_⟩
        obtain ⟨u', hu'⟩ := get_other (flat_len_eq hl he) hj
        exact a3 j u' hu'
      · obtain ⟨u', hu'⟩ := get_other (flat_len_eq hl he) hj
        exact ih j u' u hu' hj (hv' j u' hu')
  | agg cs ds hl hc ih =>
    intro v hv
    cases hv with
    | agg _ vals hl' hv' =>
      refine .agg ds vals (by omega) fun j u hj => ?_
      obtain ⟨u', hu'⟩ := get_other hl hj
      exact ih j u' u hu' hj (hv' j u' hu')
  | tup cs ds hl hc ih =>
    intro v hv
    cases hv with
    | tup _ vals hl' hv' =>
      refine .tup ds vals (by omega) fun j u hj => ?_
      obtain ⟨u', hu'⟩ := get_other hl hj
      exact ih j u' u hu' hj (hv' j u' hu')
/-- All behind h is gone; what is handed back holds what it held. -/
theorem Gst.fz {h₀ l : AHeap} {x y : AV} (hlen : h₀.length ≤ h.length) (hb : HB h) (f : Fz h.length (h ++ l) x y) : Gst P h₀ x (h ++ l) y h := by
  intro ρ₀ w₀ ρ w v s hh hv
  obtain ⟨ρ', g1, g2, g3⟩ := Gst.drop (P := P) (x := .any) (l := l) hlen hb .any ρ₀ w₀ ρ w v s hh (.any v)
  have at' : ∀ {i : Nat} {o : AObj}, h[i]? = some o → (h ++ l)[i]? = some o := fun {i o} hi => by rw [List.getElem?_append_left (getElem?_lt hi)]; exact hi
  refine ⟨ρ, ⟨fun i o hi => (hh.obj i o (at' hi)).drop (hb i o hi), fun i j o p hi hj => hh.inj i j o p (at' hi) (at' hj), fun i o hi => hh.xo i o (at' hi), hh.xl⟩, f.vr hh hv, hlen, fun i o' hi hl hlt => s.keep i o' (at' hi) hl hlt, fun b hb => ?_, s.size, s.os, s.tape, s.output, s.x, s.kx⟩
  obtain ⟨h1, h2⟩ := s.free b hb
  exact ⟨h1, h2.drop⟩
/-- The end of a function that hands back what it made, as what it holds. -/
theorem Fin.fz {l : AHeap} {rs : List RV} {r : AV} {j : Jump} {τ : AFr} {xs : List AV} (hbel : HB h) (hj : j = .none ∨ j = .ret) (hd : τ.dfr = [])
    (hx : aresl τ.s (h ++ l) rs = some xs) (hr : Fz h.length (h ++ l) (resv xs) r) : Fin P h rs r h j τ (h ++ l) := by
  refine ⟨hj, by rw [hd]; exact List.nodup_nil, by rw [hd]; intro i L _ hm; simp at hm, xs, by rw [hd]; exact hx, ?_⟩
  rw [hd]
  exact Gst.fz (Nat.le_refl _) hbel hr
/-- A contract told of an empty memory serves where its arguments are what ours hold, at any depth. -/
theorem ACall.liftFz {f : FuncId} {args args' : List AV} {r : AV} {l : AHeap} (H : ACall P f args' [] r l) (hl : args.length = args'.length) (hf : ∀ (i : Nat) (x y : AV), args[i]? = some x → args'[i]? = some y → Fz 0 h x y) (hr : Own l r) (ho : OwnH l) : ACall P f args h (shift h.length r) (h ++ l) := by
  refine ⟨H.enters, Hstay.app h l, fun ρ w vals hh hv => ?_⟩
  refine CallsIn.mono (H.run ρ w vals (HR.nil hh.xl) ⟨by rw [hv.1, hl], fun j u hj => ?_⟩) fun e w' he => ?_
  · obtain ⟨x, hx⟩ := get_other hl hj
    exact Fz.vr (h := []) (l := h) hh (hf j x u hx hj) (hv.2 j x hx)
  · obtain ⟨v, ρ', rfl, e1, e2, e3⟩ := he
    obtain ⟨f1, f2, f3⟩ := own_shift hh e3 e2 ho
    exact ⟨v, _, rfl, f3 r v hr e1, f1, f2⟩
end Go.Av

/- An evaluator: what closed calls do, found by running the short words; sound. -/
set_option linter.unusedVariables false
set_option linter.unusedSimpArgs false
namespace Go.Av
open Go
structure Cl where
  c : FuncId → List AV → AHeap → Option (AV × AHeap)
  o : FuncId → List AV → AHeap → Option (AV × AHeap)
  y : Nat → List AV → AHeap → Option (AV × AHeap)
structure ClOK (P : Program) (C : Cl) : Prop where
  c : ∀ f a h r h', C.c f a h = some (r, h') → ACall P f a h r h'
  o : ∀ f a h r l, C.o f a h = some (r, l) → ACall P f a h r (h ++ l)
  y : ∀ id a h r h', C.y id a h = some (r, h') → AYield P id a h r h'
section
variable (C : Cl)
def vOp (o : AOpr) (s : List (Nat × AV)) (h : AHeap) : Option (AV × AHeap) :=
  match astep s h o with
  | .v x h' => some (x, h')
  | .skip h' => some (.tup [], h')
  | .call f a => C.c f a h
  | .yield id a => C.y id a h
  | .fail => none
def vG (g : Option (Nat × Bool)) (o : AOpr) (s : List (Nat × AV)) (h : AHeap) : Option (AV × AHeap) :=
  match g with
  | none => vOp C o s h
  | some (d, b) => match alook s d with
    | .bool t => if t = b then vOp C o s h else some (.tup [], h)
    | .tup [] => some (.tup [], h)
    | _ => none
def vOps : List AOpD → AFr → AHeap → Option (AFr × AHeap)
  | [], τ, h => some (τ, h)
  | ⟨d, g, o, _⟩ :: r, τ, h => if τ.inb d = true then match vG C g o τ.s h with
      | some (x, h') => vOps r (τ.put d x) h'
      | none => none
    else none
/-- Operations that leave memory as it is. -/
def qOp : AOpr → Bool
  | .mov _ | .pick _ _ _ | .bld _ _ | .bsl _ _ | .ld _ _ | .nilchk _ | .bin _ _ _ | .eqs _ _ _ _ | .eqb _ _ _ | .eqp _ _ _ | .eqn _ _ _ | .not _ | .neg _ | .conv _ _ | .mkfn _ _ _ | .slcS _ _ _ | .slc _ _ _ _ _ | .faddr _ _ | .fld _ _ _ | .iaddr _ _ _ | .iaddrA _ _ _ _ | .idxA _ _ _ _ _ | .ext _ _ | .lenS _ | .len _ | .lenM _ | .cap _ | .idxS _ _ | .mn _ | .mx _ | .cbs _ | .look _ _ _ _ => true
  | _ => false
/-- One operation of a region: its value; the memory then, if it is another one. -/
def vX1 (o : AOpr) (s : List (Nat × AV)) (h : AHeap) : Option (AV × Option AHeap) :=
  match o with
  | .callS f args => match C.o f (args.map (ev s)) h with
    | some (r, []) => some (r, none)
    | some (r, l) => some (r, some (h ++ l))
    | none => match C.c f (args.map (ev s)) h with
      | some (r, h') => some (r, some h')
      | none => none
  | o => if qOp o = true then match astep s h o with
    | .v x _ => some (x, none)
    | _ => none
    else match vOp C o s h with
      | some (x, h') => some (x, some h')
      | none => none
def vX (g : Option (Nat × Bool)) (o : AOpr) (s : List (Nat × AV)) (h : AHeap) : Option (AV × Option AHeap) :=
  match g with
  | none => vX1 C o s h
  | some (d, b) => match alook s d with
    | .bool t => if t = b then vX1 C o s h else some (.tup [], none)
    | .tup [] => some (.tup [], none)
    | _ => none
/-- A region, run as it is written. -/
def vT : List AOpD → AFr → AHeap → Option (List (AV × Option AHeap))
  | [], τ, h => some []
  | ⟨d, g, o, _⟩ :: r, τ, h => if τ.inb d = true then match vX C g o τ.s h with
      | some (x, none) => match vT r (τ.put d x) h with
        | some t => some ((x, none) :: t)
        | none => none
      | some (x, some h') => match vT r (τ.put d x) h' with
        | some t => some ((x, some h') :: t)
        | none => none
      | none => none
    else none
def eqV : Nat → AV → AV → Bool
  | 0, _, _ => false
  | d + 1, x, y => match x, y with
    | .any, .any => true
    | .int k a, .int k' b => decide (k = k') && decide (a = b)
    | .bool a, .bool b => decide (a = b)
    | .nilp, .nilp => true
    | .nilmap, .nilmap => true
    | .nilfn, .nilfn => true
    | .anyb, .anyb => true
    | .str a, .str b => decide (a = b)
    | .rp a b c e, .rp a' b' c' e' => decide (a = a') && decide (b = b') && decide (c = c') && decide (e = e')
    | .rf a b c e, .rf a' b' c' e' => decide (a = a') && decide (b = b') && decide (c = c') && decide (e = e')
    | .mp a, .mp b => decide (a = b)
    | .yld a, .yld b => decide (a = b)
    | .cp a b, .cp a' b' => eqV d a a' && decide (b = b')
    | .sl t xs, .sl t' ys => decide (t = t') && decide (xs.length = ys.length) && (xs.zip ys).all fun p => eqV d p.1 p.2
    | .agg xs, .agg ys => decide (xs.length = ys.length) && (xs.zip ys).all fun p => eqV d p.1 p.2
    | .tup xs, .tup ys => decide (xs.length = ys.length) && (xs.zip ys).all fun p => eqV d p.1 p.2
    | .fn (.func f) a b, .fn (.func f') a' b' => decide (f = f') && (decide (a.length = a'.length) && (a.zip a').all fun p => eqV d p.1 p.2) && (decide (b.length = b'.length) && (b.zip b').all fun p => eqV d p.1 p.2)
    | _, _ => false
def outs (tr : List (AV × Option AHeap)) : List AHeap := tr.filterMap (·.2)
def loudsAt (i : Nat) : List (AV × Option AHeap) → List Nat
  | [] => []
  | (_, none) :: t => loudsAt (i + 1) t
  | (_, some _) :: t => i :: loudsAt (i + 1) t
def lead (p : Nat → Bool) : List Nat → Nat
  | [] => 0
  | x :: r => if p x = true then lead p r + 1 else 0
def mkIv (M : List Nat) (loud : List Nat) (n : Nat) : List (Nat × Nat) :=
  (List.range n).map fun i => if loud.contains i = true then (loud.idxOf i, loud.idxOf i) else
    (lead (fun l => (M.getD i 0).testBit l) loud, loud.length - lead (fun l => (M.getD l 0).testBit i) loud.reverse)
def fstq (p : Nat → Bool) : List Nat → Nat
  | [] => 0
  | x :: r => if p x = true then 0 else fstq p r + 1
def mkIvF (M : List Nat) (loud : List Nat) (n : Nat) : List (Nat × Nat) :=
  (List.range n).map fun i => if loud.contains i = true then (loud.idxOf i, loud.idxOf i) else
    (lead (fun l => (M.getD i 0).testBit l) loud, fstq (fun l => (M.getD l 0).testBit i) loud)
/-- Every quiet operation has one value wherever it may run. -/
def vT2 (loud : List Nat) (iv : List (Nat × Nat)) (hl : List AHeap) : List AOpD → List (AV × Option AHeap) → Nat → Nat → AFr → Bool
  | [], _, _, _, _ => true
  | ⟨d, g, o, _⟩ :: r, (x, none) :: t, i, q, τ => !loud.contains i && (List.range ((iv.getD i (0, 0)).2 + 1)).all (fun k => decide (k < (iv.getD i (0, 0)).1) || decide (k = q) || (match vX C g o τ.s (hl.getD k []) with
      | some (y, none) => eqV 8 y x
      | _ => false)) && vT2 loud iv hl r t (i + 1) q (τ.put d x)
  | ⟨d, g, o, _⟩ :: r, (x, some _) :: t, i, q, τ => loud.contains i && decide (iv.getD i (0, 0) = (q, q)) && vT2 loud iv hl r t (i + 1) (q + 1) (τ.put d x)
  | _, [], _, _, _ => false
def putT : List AOpD → List (AV × Option AHeap) → AFr → AFr
  | o :: r, (x, _) :: t, τ => putT r t (τ.put o.dst x)
  | _, _, τ => τ
def vDraw (l : List AOpD) (τ : AFr) (h : AHeap) : Option (AFr × AHeap) :=
  match vT C l τ h with
  | none => none
  | some tr =>
    if (drawOK l (masks l []) (loudsAt 0 tr) (mkIv (masks l []) (loudsAt 0 tr) l.length) && vT2 C (loudsAt 0 tr) (mkIv (masks l []) (loudsAt 0 tr) l.length) (h :: outs tr) l tr 0 0 τ && decide ((loudsAt 0 tr).length = (outs tr).length)) = true then some (putT l tr τ, (h :: outs tr).getD (outs tr).length [])
    else if (drawOKF l (masks l []) (loudsAt 0 tr) (mkIvF (masks l []) (loudsAt 0 tr) l.length) ((loudsAt 0 tr).filter fun i => floatB (l.getD i default)) && vT2 C (loudsAt 0 tr) (mkIvF (masks l []) (loudsAt 0 tr) l.length) (h :: outs tr) l tr 0 0 τ && decide ((loudsAt 0 tr).length = (outs tr).length)) = true then some (putT l tr τ, (h :: outs tr).getD (outs tr).length []) else none
def dedup : List (Nat × AV) → List (Nat × AV) → List (Nat × AV)
  | [], acc => acc
  | (i, x) :: r, acc => if acc.any (fun p => p.1 == i) then dedup r acc else dedup r (acc ++ [(i, x)])
def vLoop (body : AFr → AHeap → Option (Jump × AFr × AHeap)) : Nat → AFr → AHeap → Option (Jump × AFr × AHeap)
  | 0, _, _ => none
  | n + 1, τ, h => match body τ h with
    | some (.none, τ', h') => vLoop body n { τ' with s := dedup τ'.s [] } h'
    | some r => some r
    | none => none
def vRange (rd : Option Nat) (g : Opd) (ps : List Nat) (assign body : AC) (τ : AFr) (h : AHeap) : Option (Jump × AFr × AHeap) :=
  match ev τ.s g, rd with
  | .fn (.func f) first captured, none =>
    match C.c f (first ++ [.yld (h.length + 1)] ++ captured) (h ++ [.dfr, .loop { st := .ready, pend := .none, slots := τ.s, n := τ.n, ps, assign, body, dfr := h.length }]) with
    | some (r, h2) => match h2[h.length + 1]? with
      | some (.loop L2) => match L2.st with
        | .busy => none
        | _ => some (L2.pend, { τ with dfr := h.length :: τ.dfr }, h2.set (h.length + 1) .dead)
      | _ => none
    | none => none
  | .fn (.func f) first captured, some l => match h[l]? with
    | some (.loop L0) => match C.c f (first ++ [.yld h.length] ++ captured) (h ++ [.loop { st := .ready, pend := .none, slots := τ.s, n := τ.n, ps, assign, body, dfr := L0.dfr }]) with
      | some (r, h2) => match h2[h.length]? with
        | some (.loop L2) => match L2.st with
          | .busy => none
          | _ => some (L2.pend, τ, h2.set h.length .dead)
        | _ => none
      | none => none
    | _ => none
  | _, _ => none
def vC (F : Nat) (rd : Option Nat) : AC → AFr → AHeap → Option (Jump × AFr × AHeap)
  | .skip, τ, h => some (.none, τ, h)
  | .ops l, τ, h => match vOps C l τ h with
    | some (τ', h') => some (.none, τ', h')
    | none => none
  | .draw l, τ, h => match vDraw C l τ h with
    | some (τ', h') => some (.none, τ', h')
    | none => none
  | .seq a b, τ, h => match vC F rd a τ h with
    | some (.none, τ', h') => vC F rd b τ' h'
    | some r => some r
    | none => none
  | .cond c a b, τ, h => match ev τ.s c with
    | .bool true => vC F rd a τ h
    | .bool false => vC F rd b τ h
    | _ => none
  | .block id a, τ, h => match vC F rd a τ h with
    | some (j, τ', h') => some (if j = .exit id then .none else j, τ', h')
    | none => none
  | .loop a, τ, h => vLoop (vC F rd a) F { τ with s := dedup τ.s [] } h
  | .rangeF g ps x y, τ, h => vRange C rd g ps x y τ h
  | .exit id, τ, h => some (.exit id, τ, h)
  | .ret, τ, h => some (.ret, τ, h)
end

variable {P : Program} {C : Cl}
theorem vOp_ok (hC : ClOK P C) {o : AOpr} {s : List (Nat × AV)} {h : AHeap} {x : AV} {h' : AHeap} (e : vOp C o s h = some (x, h')) {K : AV → AHeap → Prop} (k : K x h') : awOp P o s h K := by
  unfold vOp at e
  unfold awOp
  split at e
  · rename_i hs; cases e; rw [hs]; exact k
  · rename_i hs; cases e; rw [hs]; exact k
  · rename_i hs; rw [hs]; exact ⟨_, _, hC.c _ _ _ _ _ e, k⟩
  · rename_i hs; rw [hs]; exact ⟨_, _, hC.y _ _ _ _ _ e, k⟩
  · cases e
theorem vG_ok (hC : ClOK P C) {o : AOpD} {s : List (Nat × AV)} {h : AHeap} {x : AV} {h' : AHeap} (e : vG C o.g o.op s h = some (x, h')) {K : AV → AHeap → Prop} (k : K x h') : awG P o K s h := by
  unfold vG at e
  unfold awG
  cases hg : o.g with
  | none => rw [hg] at e; exact vOp_ok hC e k
  | some p =>
    obtain ⟨d, b⟩ := p
    rw [hg] at e
    dsimp only at e ⊢
    split at e
    · rename_i t ht
      rw [ht]
      by_cases c : t = b
      · rw [if_pos c] at e; exact ⟨fun _ => vOp_ok hC e k, fun n => absurd c n⟩
      · rw [if_neg c] at e; cases e; exact ⟨fun n => absurd n c, fun _ => k⟩
    · rename_i ht; rw [ht]; cases e; exact k
    · cases e
theorem vOps_ok (hC : ClOK P C) : ∀ (l : List AOpD) {τ τ' : AFr} {h h' : AHeap}, vOps C l τ h = some (τ', h') → ∀ {K : AFr → AHeap → Prop}, K τ' h' → awOps P l K τ h
  | [], τ, τ', h, h', e, K, k => by cases e; exact k
  | ⟨d, g, op, af⟩ :: r, τ, τ', h, h', e, K, k => by
    unfold vOps at e
    split at e
    · rename_i hi
      split at e
      · rename_i x h1 hv
        exact (awO_iff _ _ _ _ _).2 ⟨hi, vG_ok (o := ⟨d, g, op, af⟩) hC hv (vOps_ok hC r e k)⟩
      · cases e
    · cases e
theorem rv_h {h : AHeap} {o : Option AV} {x : AV} {h' : AHeap} (e : rv h o = .v x h') : h' = h := by
  cases o <;> simp [rv] at e
  exact e.2.symm
theorem slc_h {h : AHeap} {s : List (Nat × AV)} {sz : Nat} {x : AV} {lo hi mx : Option Opd} {y : AV} {h' : AHeap} (e : aslc h s sz x lo hi mx = .v y h') : h' = h := by
  unfold aslc at e
  repeat' split at e
  all_goals first | (cases e; done) | (cases e; rfl)
theorem qstep {s : List (Nat × AV)} {h : AHeap} {o : AOpr} (hq : qOp o = true) {x : AV} {h' : AHeap} (e : astep s h o = .v x h') : h' = h := by
  cases o <;> simp only [qOp, Bool.false_eq_true] at hq <;> simp only [astep] at e <;> first
    | exact rv_h e
    | exact slc_h e
    | (repeat' split at e) <;> first | (cases e; done) | (cases e; rfl) | exact rv_h e
theorem vX1_ok (hC : ClOK P C) {o : AOpr} {s : List (Nat × AV)} {h : AHeap} {x : AV} {oh : Option AHeap} (e : vX1 C o s h = some (x, oh)) : awOp P o s h (fun y h'' => y = x ∧ h'' = oh.getD h) := by
  unfold vX1 at e
  unfold awOp
  split at e
  · simp only [astep]
    split at e
    · rename_i hc; cases e
      have := hC.o _ _ _ _ _ hc
      rw [List.append_nil] at this
      exact ⟨_, _, this, rfl, rfl⟩
    · rename_i hc; cases e; exact ⟨_, _, hC.o _ _ _ _ _ hc, rfl, rfl⟩
    · split at e
      · rename_i hc; cases e; exact ⟨_, _, hC.c _ _ _ _ _ hc, rfl, rfl⟩
      · cases e
  · split at e
    · rename_i hq
      split at e
      · rename_i hs
        cases e
        have := qstep hq hs
        subst this
        rw [hs]; exact ⟨rfl, rfl⟩
      · cases e
    · split at e
      · rename_i hv; cases e; exact vOp_ok hC hv (K := fun y h'' => y = x ∧ h'' = _) ⟨rfl, rfl⟩
      · cases e
theorem vX_ok (hC : ClOK P C) {o : AOpD} {s : List (Nat × AV)} {h : AHeap} {x : AV} {oh : Option AHeap} (e : vX C o.g o.op s h = some (x, oh)) : awR P o s h x (oh.getD h) := by
  unfold vX at e
  unfold awR awG
  cases hg : o.g with
  | none => rw [hg] at e; exact vX1_ok hC e
  | some p =>
    obtain ⟨d, b⟩ := p
    rw [hg] at e
    dsimp only at e ⊢
    split at e
    · rename_i t ht
      rw [ht]
      by_cases c : t = b
      · rw [if_pos c] at e; exact ⟨fun _ => vX1_ok hC e, fun n => absurd c n⟩
      · rw [if_neg c] at e; cases e; exact ⟨fun n => absurd n c, fun _ => ⟨rfl, rfl⟩⟩
    · rename_i ht; rw [ht]; cases e; exact ⟨rfl, rfl⟩
    · cases e
theorem eqV_ok : ∀ {d : Nat} {x y : AV}, eqV d x y = true → x = y
  | 0, x, y, h => by simp [eqV] at h
  | d + 1, x, y, h => by
    have al : ∀ {xs ys : List AV}, xs.length = ys.length → ((xs.zip ys).all fun p => eqV d p.1 p.2) = true → xs = ys := fun hl h => by
      refine List.ext_getElem hl fun i h1 h2 => eqV_ok (d := d) ?_
      have := List.all_eq_true.1 h (_, _) (List.mem_of_getElem (i := i) (h := by simp; omega) rfl)
      simpa using this
    unfold eqV at h
    split at h <;> simp only [Bool.and_eq_true, decide_eq_true_eq, Bool.false_eq_true] at h <;> first
      | rfl
      | (obtain ⟨⟨h1, h2⟩, h3⟩ := h; rw [h1, al h2 h3])
      | (obtain ⟨⟨h1, h2, h3⟩, h4, h5⟩ := h; rw [h1, al h2 h3, al h4 h5])
      | (obtain ⟨⟨⟨h1, h2⟩, h3⟩, h4⟩ := h; rw [h1, h2, h3, h4])
      | (obtain ⟨h1, h2⟩ := h; first | rw [h1, h2] | rw [al h1 h2] | rw [eqV_ok h1, h2])
      | rw [h]
theorem vT_ok (hC : ClOK P C) {loud : List Nat} {iv : List (Nat × Nat)} {hl : List AHeap} : ∀ (l : List AOpD) {tr : List (AV × Option AHeap)} {τ : AFr} {h : AHeap} {i q : Nat}, vT C l τ h = some tr → vT2 C loud iv hl l tr i q τ = true → hl.getD q [] = h → (∀ k, (outs tr)[k]? = hl[q + 1 + k]? ∨ (outs tr)[k]? = none) →
    ∀ {K : AFr → Prop}, K (putT l tr τ) → awL P loud iv (fun k => hl.getD k []) i l K τ
  | [], tr, τ, h, i, q, e, _, _, _, K, k => by cases e; exact k
  | ⟨d, g, op, af⟩ :: r, tr, τ, h, i, q, e, e2, hq, ho, K, k => by
    unfold vT at e
    split at e
    · rename_i hi
      split at e
      · rename_i x hv
        split at e
        · rename_i t ht
          cases e
          simp only [vT2, Bool.and_eq_true, Bool.not_eq_true'] at e2
          obtain ⟨⟨a1, a2⟩, a3⟩ := e2
          refine ⟨hi, x, ?_, vT_ok hC r ht a3 hq (by simpa [outs] using ho) k⟩
          rw [if_neg (by rw [a1]; simp)]
          intro k' k1 k2
          have := List.all_eq_true.1 a2 k' (List.mem_range.2 (by omega))
          simp only [Bool.or_eq_true, decide_eq_true_eq] at this
          rcases this with (c | c) | c
          · omega
          · subst c
            have := vX_ok (o := ⟨d, g, op, af⟩) hC hv
            simp only [hq]
            exact this
          · split at c
            · rename_i y hy
              have ey := eqV_ok c
              subst ey
              exact vX_ok (o := ⟨d, g, op, af⟩) hC hy
            · cases c
        · cases e
      · rename_i x h1 hv
        split at e
        · rename_i t ht
          cases e
          simp only [vT2, Bool.and_eq_true, decide_eq_true_eq] at e2
          obtain ⟨⟨a1, a2⟩, a3⟩ := e2
          have e1 : hl.getD (q + 1) [] = h1 := by
            rcases ho 0 with c | c
            · simp only [outs, List.filterMap_cons, List.getElem?_cons_zero, Nat.add_zero] at c
              rw [List.getD, ← c]; rfl
            · simp [outs] at c
          refine ⟨hi, x, ?_, vT_ok hC r ht a3 e1 (fun k' => ?_) k⟩
          · rw [if_pos a1, a2]
            have := vX_ok (o := ⟨d, g, op, af⟩) hC hv
            simp only [hq, e1]
            exact this
          · have := ho (k' + 1)
            simp only [outs, List.filterMap_cons, List.getElem?_cons_succ] at this
            rw [show q + 1 + 1 + k' = q + 1 + (k' + 1) by omega]
            exact this
        · cases e
      · cases e
    · cases e
theorem vDraw_ok (hC : ClOK P C) {l : List AOpD} {τ τ' : AFr} {h h' : AHeap} (e : vDraw C l τ h = some (τ', h')) {K : AFr → AHeap → Prop} (k : K τ' h') : awDraw P l K τ h := by
  unfold vDraw at e
  split at e
  · cases e
  · rename_i tr ht
    split at e
    · rename_i hb
      cases e
      simp only [Bool.and_eq_true, decide_eq_true_eq] at hb
      obtain ⟨⟨b1, b2⟩, b3⟩ := hb
      refine .inr (.inl ⟨_, _, _, fun k => (h :: outs tr).getD k [], b1, rfl, vT_ok hC l ht b2 rfl (fun k => .inl (by rw [show 0 + 1 + k = k + 1 by omega]; simp)) ?_⟩)
      rw [b3]
      exact k
    · split at e
      · rename_i hb
        cases e
        simp only [Bool.and_eq_true, decide_eq_true_eq] at hb
        obtain ⟨⟨b1, b2⟩, b3⟩ := hb
        refine .inr (.inr ⟨_, _, _, fun k => (h :: outs tr).getD k [], _, b1, rfl, vT_ok hC l ht b2 rfl (fun k => .inl (by rw [show 0 + 1 + k = k + 1 by omega]; simp)) ?_⟩)
        rw [b3]
        exact k
      · cases e
theorem dedup_mem : ∀ (s acc : List (Nat × AV)) (t : List (Nat × AV)), (∀ p ∈ acc, alook t p.1 = p.2) → (∀ i, acc.any (fun p => p.1 == i) = false → alook t i = alook s i) → ∀ p ∈ dedup s acc, alook t p.1 = p.2
  | [], acc, t, h1, h2 => h1
  | (i, x) :: r, acc, t, h1, h2 => by
    unfold dedup
    split
    · rename_i c
      refine dedup_mem r acc t h1 fun j hj => ?_
      rw [h2 j hj]
      have : j ≠ i := by rintro rfl; rw [c] at hj; cases hj
      rw [alook, if_neg this]
    · rename_i c
      have c' : acc.any (fun p => p.1 == i) = false := Bool.eq_false_iff.2 c
      refine dedup_mem r _ t (fun p hp => ?_) fun j hj => ?_
      · rcases List.mem_append.1 hp with hp | hp
        · exact h1 p hp
        · simp only [List.mem_singleton] at hp
          subst hp
          rw [h2 _ c', alook, if_pos rfl]
      · rw [List.any_append, Bool.or_eq_false_iff] at hj
        have : j ≠ i := by rintro rfl; simp at hj
        rw [h2 j hj.1, alook, if_neg this]
theorem dedup_le (τ : AFr) : Le τ { τ with s := dedup τ.s [] } := ⟨rfl, rfl, dedup_mem τ.s [] τ.s (fun p hp => by simp at hp) fun i _ => rfl⟩
theorem vLoop_ok {rd : Option Nat} {a : AC} {body : AFr → AHeap → Option (Jump × AFr × AHeap)} (hb : ∀ {τ h j τ' h'}, body τ h = some (j, τ', h') → ∀ {Q : Jump → AFr → AHeap → Prop}, Q j τ' h' → aw P rd a Q τ h) {F : Nat} {τ : AFr} {h : AHeap} {j : Jump} {τ' : AFr} {h' : AHeap} (e : vLoop body F { τ with s := dedup τ.s [] } h = some (j, τ', h'))
    {Q : Jump → AFr → AHeap → Prop} (k : Q j τ' h') (hj : j ≠ .none) : aw P rd (.loop a) Q τ h := by
  refine ⟨fun n τ h => vLoop body n τ h = some (j, τ', h'), ⟨F, _, e, dedup_le τ⟩, fun n τ h i => ?_⟩
  cases n with
  | zero => simp [vLoop] at i
  | succ n =>
    unfold vLoop at i
    split at i
    · rename_i τ1 h1 hbd
      exact hb hbd ⟨n, _, Nat.lt_succ_self n, i, dedup_le τ1⟩
    · rename_i r hn hbd
      cases i
      cases j with
      | none => exact absurd rfl hj
      | ret => exact hb hbd k
      | exit i => exact hb hbd k
    · cases i
theorem vLoop_j {body : AFr → AHeap → Option (Jump × AFr × AHeap)} : ∀ {F : Nat} {τ : AFr} {h : AHeap} {j : Jump} {τ' : AFr} {h' : AHeap}, vLoop body F τ h = some (j, τ', h') → j ≠ .none
  | 0, τ, h, j, τ', h', e => by cases e
  | n + 1, τ, h, j, τ', h', e => by
    unfold vLoop at e
    split at e
    · exact vLoop_j e
    · rename_i r hn hbd
      cases e
      rintro rfl
      exact hn _ _ rfl
    · cases e
theorem vRange_ok (hC : ClOK P C) {rd : Option Nat} {g : Opd} {ps : List Nat} {x y : AC} {τ : AFr} {h : AHeap} {j : Jump} {τ' : AFr} {h' : AHeap} (e : vRange C rd g ps x y τ h = some (j, τ', h')) {Q : Jump → AFr → AHeap → Prop} (k : Q j τ' h') : awRange P rd g ps x y Q τ h := by
  unfold vRange at e
  unfold awRange
  split at e
  · rename_i f first captured hev
    rw [hev]
    split at e
    · rename_i r h2 hc
      split at e
      · rename_i L2 hl
        have hL := hC.c _ _ _ _ _ hc
        split at e
        · cases e
        · rename_i hs
          cases e
          exact ⟨r, h2, L2, hL, hl, hs, k⟩
      · cases e
    · cases e
  · rename_i f first captured l hev
    rw [hev]
    split at e
    · rename_i L0 h0
      split at e
      · rename_i r h2 hc
        split at e
        · rename_i L2 hl
          have hL := hC.c _ _ _ _ _ hc
          split at e
          · cases e
          · rename_i hs
            cases e
            exact ⟨L0, h0, r, h2, L2, hL, hl, hs, k⟩
        · cases e
      · cases e
    · cases e
  · cases e
theorem vC_ok (hC : ClOK P C) (F : Nat) (rd : Option Nat) : ∀ (c : AC) {τ : AFr} {h : AHeap} {j : Jump} {τ' : AFr} {h' : AHeap}, vC C F rd c τ h = some (j, τ', h') → ∀ {Q : Jump → AFr → AHeap → Prop}, Q j τ' h' → aw P rd c Q τ h := by
  intro c
  induction c with
  | skip => intro τ h j τ' h' e Q k; cases e; exact k
  | ops l =>
    intro τ h j τ' h' e Q k
    simp only [vC] at e
    split at e
    · rename_i hv; cases e; exact vOps_ok hC l hv k
    · cases e
  | draw l =>
    intro τ h j τ' h' e Q k
    simp only [vC] at e
    split at e
    · rename_i hv; cases e; exact vDraw_ok hC hv k
    · cases e
  | seq a b iha ihb =>
    intro τ h j τ' h' e Q k
    simp only [vC] at e
    split at e
    · rename_i hv; exact iha hv (ihb e k)
    · rename_i r hn hv
      cases e
      refine iha hv ?_
      cases j with
      | none => exact (hn _ _ rfl).elim
      | ret => exact k
      | exit i => exact k
    · cases e
  | cond c a b iha ihb =>
    intro τ h j τ' h' e Q k
    simp only [vC] at e
    simp only [aw]
    split at e
    · rename_i hv; rw [hv]; exact ⟨fun _ => iha e k, fun n => by cases n⟩
    · rename_i hv; rw [hv]; exact ⟨fun n => (by cases n), fun _ => ihb e k⟩
    · cases e
  | block id a ih =>
    intro τ h j τ' h' e Q k
    simp only [vC] at e
    split at e
    · rename_i hv; cases e; exact ih hv k
    · cases e
  | loop a ih =>
    intro τ h j τ' h' e Q k
    simp only [vC] at e
    exact vLoop_ok (fun e Q k => ih e k) e k (vLoop_j e)
  | rangeF g ps x y _ _ => intro τ h j τ' h' e Q k; exact vRange_ok hC e k
  | exit id => intro τ h j τ' h' e Q k; cases e; exact k
  | ret => intro τ h j τ' h' e Q k; cases e; exact k
end Go.Av

/- The evaluator: functions, rounds; sound. -/
set_option linter.unusedVariables false
set_option linter.unusedSimpArgs false
namespace Go.Av
open Go
def belB (n : Nat) : Nat → AV → Bool
  | 0, _ => false
  | d + 1, x => match x with
    | .any | .int _ _ | .bool _ | .str _ | .nilp | .nilmap | .nilfn | .anyb => true
    | .rp id _ _ _ => decide (id < n)
    | .rf id _ _ _ => decide (id < n)
    | .mp id => decide (id < n)
    | .yld id => decide (id < n)
    | .cp e _ => e.cells.all (belB n d)
    | .sl _ xs => (flat xs).all (belB n d)
    | .fn _ a b => a.all (belB n d) && b.all (belB n d)
    | .agg cs => cs.all (belB n d)
    | .tup cs => cs.all (belB n d)
theorem belB_ok {n : Nat} : ∀ {d : Nat} {x : AV}, belB n d x = true → Bel n x
  | 0, x, h => by simp [belB] at h
  | d + 1, x, h => by
    have al : ∀ {l : List AV}, l.all (belB n d) = true → ∀ u ∈ l, Bel n u := fun h u hu => belB_ok (List.all_eq_true.1 h u hu)
    cases x <;> simp only [belB, decide_eq_true_eq, Bool.and_eq_true] at h
    case any => exact .any
    case int k i => exact .int k i
    case bool b => exact .bool b
    case str s => exact .str s
    case nilp => exact .nilp
    case rp id v i o => exact .rp id v i o h
    case cp e o => exact .cp e o (al h)
    case sl t xs => exact .sl t xs (al h)
    case rf id v i o => exact .rf id v i o h
    case mp id => exact .mp id h
    case nilmap => exact .nilmap
    case fn f a b => exact .fn f a b (al h.1) (al h.2)
    case yld id => exact .yld id h
    case nilfn => exact .nilfn
    case anyb => exact .anyb
    case agg cs => exact .agg cs (al h)
    case tup cs => exact .tup cs (al h)
def solB : Nat → AV → Bool
  | 0, _ => false
  | d + 1, x => match x with
    | .any | .int _ _ | .bool _ | .str _ | .nilp | .nilmap | .nilfn | .anyb => true
    | .sl _ [] => true
    | .agg cs => cs.all (solB d)
    | .tup cs => cs.all (solB d)
    | _ => false
theorem solB_ok : ∀ {d : Nat} {x : AV}, solB d x = true → Solid x
  | 0, x, h => by simp [solB] at h
  | d + 1, x, h => by
    have al : ∀ {l : List AV}, l.all (solB d) = true → ∀ u ∈ l, Solid u := fun h u hu => solB_ok (List.all_eq_true.1 h u hu)
    unfold solB at h
    split at h
    · exact .any
    · exact .int _ _
    · exact .bool _
    · exact .str _
    · exact .nilp
    · exact .nilmap
    · exact .nilfn
    · exact .anyb
    · exact .nilsl _
    · exact .agg _ (al h)
    · exact .tup _ (al h)
    · cases h
def own1B (n : Nat) (x : AV) : Bool := match x with
  | .rf id _ _ _ => decide (id < n)
  | .rp id _ _ _ => decide (id < n)
  | x => solB 8 x
theorem own1B_ok {l : AHeap} {x : AV} (h : own1B l.length x = true) : Own1 l x := by
  unfold own1B at h
  split at h
  · exact .rf _ _ _ _ (by simpa using h)
  · exact .rp _ _ _ _ (by simpa using h)
  · exact .solid _ (solB_ok h)
def ownB (n : Nat) (x : AV) : Bool := match x with
  | .tup xs => xs.all (own1B n)
  | x => own1B n x
theorem ownB_ok {l : AHeap} {x : AV} (h : ownB l.length x = true) : Own l x := by
  unfold ownB at h
  split at h
  · exact .tup _ fun x hx => own1B_ok (List.all_eq_true.1 h x hx)
  · exact .one _ (own1B_ok h)
def ownHB (l : AHeap) : Bool := l.all fun o => match o with
  | .dead => true
  | .row _ _ es => es.all fun x => x.cells.all (solB 8)
  | _ => false
theorem ownHB_ok {l : AHeap} (h : ownHB l = true) : OwnH l := by
  intro i o hi
  have := List.all_eq_true.1 h o (List.mem_of_getElem? hi)
  cases o with
  | dead => exact .inl rfl
  | row k sz es => exact .inr ⟨k, sz, es, rfl, fun x hx u hu => solB_ok (List.all_eq_true.1 (List.all_eq_true.1 this x hx) u hu)⟩
  | _ => cases this
def hstayB : AHeap → AHeap → Bool
  | [], _ => true
  | .dfr :: a, .dfr :: b => hstayB a b
  | .dfr :: _, _ => false
  | _ :: a, _ :: b => hstayB a b
  | _ :: a, [] => a.all fun o => match o with
    | .dfr => false
    | _ => true
theorem hstayB_ok : ∀ {a b : AHeap}, hstayB a b = true → Hstay a b
  | [], _, _ => fun d hd => by simp at hd
  | o :: a, [], h => fun d hd => by
    cases o <;> simp only [hstayB, Bool.false_eq_true] at h <;> (cases d with
      | zero => simp at hd
      | succ d =>
        have := List.all_eq_true.1 h .dfr (List.mem_of_getElem? (i := d) (by simpa using hd))
        cases this)
  | o :: a, p :: b, h => fun d hd => by
    cases d with
    | zero =>
      simp only [List.getElem?_cons_zero, Option.some.injEq] at hd ⊢
      subst hd
      cases p <;> simp [hstayB] at h
      rfl
    | succ d =>
      have h' : hstayB a b = true := by
        cases o <;> cases p <;> simp only [hstayB, Bool.false_eq_true] at h <;> exact h
      simpa using hstayB_ok h' d (by simpa using hd)
def noDfrB (h : AHeap) (ds : List Nat) : Bool := h.all fun o => match o with
  | .loop L => !ds.contains L.dfr
  | _ => true
theorem noDfrB_ok {h : AHeap} {ds : List Nat} (e : noDfrB h ds = true) : NoDfr h ds := by
  intro i L hi hm
  have := List.all_eq_true.1 e _ (List.mem_of_getElem? hi)
  simp only [Bool.not_eq_true', List.contains_eq_mem, decide_eq_false_iff_not] at this
  exact this hm
def nodupB : List Nat → Bool
  | [] => true
  | x :: r => !r.contains x && nodupB r
theorem nodupB_ok : ∀ {l : List Nat}, nodupB l = true → l.Nodup
  | [], _ => List.nodup_nil
  | x :: r, h => by
    simp only [nodupB, Bool.and_eq_true, Bool.not_eq_true', List.contains_eq_mem, decide_eq_false_iff_not] at h
    exact List.nodup_cons.2 ⟨h.1, nodupB_ok h.2⟩

abbrev CTab := FuncId → Option (AC × List RV × Nat)
section
variable (C : Cl) (T : CTab) (F : Nat)
def vFun (f : FuncId) (args : List AV) (h : AHeap) : Option (AV × AHeap) :=
  match T f with
  | some (ac, rs, n) => if args.length ≤ n then match vC C F none ac { n := n, s := argS 0 args, dfr := [] } h with
      | some (j, τ, h') => if j = .none ∨ j = .ret then match aresl τ.s (kills τ.dfr h') rs with
          | some xs => if (nodupB τ.dfr && noDfrB h' τ.dfr && hstayB h (kills τ.dfr h')) = true then some (resv xs, kills τ.dfr h') else none
          | none => none
        else none
      | none => none
    else none
  | none => none
def vOwn (f : FuncId) (args : List AV) : Option (AV × AHeap) :=
  match T f with
  | some (ac, rs, n) => if args.length ≤ n then match vC C F none ac { n := n, s := argS 0 args, dfr := [] } [] with
      | some (j, τ, h') => if j = .none ∨ j = .ret then match aresl τ.s (kills τ.dfr h') rs with
          | some xs =>
            let x := resv xs
            let ks := refs x
            let r := rn ks x
            let l := ks.map fun i => (kills τ.dfr h').getD i .dead
            if (nodupB τ.dfr && noDfrB h' τ.dfr && nodupB ks && ownHB l && ownB l.length r) = true then some (r, l) else none
          | none => none
        else none
      | none => none
    else none
  | none => none
def rnd (h2 : AHeap) (id : Nat) (j : Jump) (L2 : ALoop) : AHeap := h2.set id (.loop { L2 with st := if j = .none then .ready else .done, pend := j })
def vYield (id : Nat) (args : List AV) (h : AHeap) : Option (AV × AHeap) :=
  match h[id]? with
  | some (.loop L) => if args.length = L.ps.length ∧ (L.ps.all fun p => decide (p < L.n)) = true then match vC C F (some id) L.assign { n := L.n, s := putArgs L.slots L.ps args, dfr := [] } h with
      | some (.none, τ1, h1) => match h1[id]? with
        | some (.loop L1) => match L1.st with
          | .ready => match vC C F (some id) L.body τ1 (h1.set id (.loop { L1 with st := .busy })) with
            | some (j, τ2, h2) => match h2[id]? with
              | some (.loop L2) =>
                if hstayB h (rnd h2 id j L2) = true then some (.bool (decide (j = .none)), rnd h2 id j L2) else none
              | _ => none
            | none => none
          | _ => none
        | _ => none
      | _ => none
    else none
  | _ => none
end
def cl (S : Spec) (T : CTab) (sF : FuncId → Bool) (F : Nat) : Nat → Cl
  | 0 => ⟨fun _ _ _ => none, fun _ _ _ => none, fun _ _ _ => none⟩
  | n + 1 => ⟨fun f args h => match S f (args.map (snap h)) with
      | some (r, l) => some (shift h.length r, h ++ l)
      | none => if sF f = true then (if (args.map (snap h)).all (belB 0 16) = true then match vOwn (cl S T sF F n) T F f (args.map (snap h)) with
          | some (r, l) => some (shift h.length r, h ++ l)
          | none => none
        else none) else vFun (cl S T sF F n) T F f args h,
    fun f args h => match S f (args.map (snap h)) with
      | some (r, l) => some (shift h.length r, l)
      | none => if sF f = true ∧ (args.map (snap h)).all (belB 0 16) = true then match vOwn (cl S T sF F n) T F f (args.map (snap h)) with
          | some (r, l) => some (shift h.length r, l)
          | _ => none
        else none,
    fun id args h => vYield (cl S T sF F n) F id args h⟩
variable {P : Program} {C : Cl} {T : CTab} {F : Nat}
def TOK (P : Program) (T : CTab) : Prop := ∀ f c, T f = some c → chk P f = some c
theorem vFun_ok (hC : ClOK P C) (hm : P.follows .mixedOrders = true) (hT : TOK P T) {f : FuncId} {args : List AV} {h : AHeap} {r : AV} {h' : AHeap} (e : vFun C T F f args h = some (r, h')) : ACall P f args h r h' := by
  unfold vFun at e
  split at e
  · rename_i ac rs n ht
    split at e
    · rename_i hn
      split at e
      · rename_i j τ h1 hv
        split at e
        · rename_i hj
          split at e
          · rename_i xs hx
            split at e
            · rename_i hb
              cases e
              simp only [Bool.and_eq_true] at hb
              exact ACall.of hm (hT _ _ ht) hn (hstayB_ok hb.2) fun _ => vC_ok hC F none ac hv ⟨hj, nodupB_ok hb.1.1, noDfrB_ok hb.1.2, xs, hx, Gst.refl _ _ _⟩
            · cases e
          · cases e
        · cases e
      · cases e
    · cases e
  · cases e
theorem vOwn_ok (hC : ClOK P C) (hm : P.follows .mixedOrders = true) (hT : TOK P T) {f : FuncId} {args : List AV} {r : AV} {l : AHeap} (e : vOwn C T F f args = some (r, l)) : ACall P f args [] r l ∧ Own l r ∧ OwnH l := by
  unfold vOwn at e
  split at e
  · rename_i ac rs n ht
    split at e
    · rename_i hn
      split at e
      · rename_i j τ h1 hv
        split at e
        · rename_i hj
          split at e
          · rename_i xs hx
            dsimp only at e
            split at e
            · rename_i hb
              cases e
              simp only [Bool.and_eq_true] at hb
              obtain ⟨⟨⟨⟨b1, b2⟩, b3⟩, b4⟩, b5⟩ := hb
              exact ⟨ACall.of hm (hT _ _ ht) hn (fun d hd => by simp at hd) fun _ => vC_ok hC F none ac hv ⟨hj, nodupB_ok b1, noDfrB_ok b2, xs, hx, gst_out (nodupB_ok b3) (ownHB_ok b4) (ownB_ok b5)⟩, ownB_ok b5, ownHB_ok b4⟩
            · cases e
          · cases e
        · cases e
      · cases e
    · cases e
  · cases e
theorem vYield_ok (hC : ClOK P C) (hm : P.follows .mixedOrders = true) {id : Nat} {args : List AV} {h : AHeap} {r : AV} {h' : AHeap} (e : vYield C F id args h = some (r, h')) : AYield P id args h r h' := by
  unfold vYield at e
  split at e
  · rename_i L hL
    split at e
    · rename_i hp
      split at e
      · rename_i τ1 h1 hv
        split at e
        · rename_i L1 hL1
          split at e
          · rename_i hr
            split at e
            · rename_i j τ2 h2 hv2
              split at e
              · rename_i L2 hL2
                split at e
                · rename_i hb
                  cases e
                  exact AYield.of hm hL hp.1 (fun p hm => by simpa using List.all_eq_true.1 hp.2 p hm) (hstayB_ok hb) (vC_ok hC F (some id) L.assign hv ⟨rfl, L1, hL1, hr, vC_ok hC F (some id) L.body hv2 ⟨L2, hL2, rfl, rfl⟩⟩)
                · cases e
              · cases e
            · cases e
          · cases e
        · cases e
      · cases e
    · cases e
  · cases e
theorem cl_ok (hm : P.follows .mixedOrders = true) {S : Spec} (hS : SpecOK P S) (hT : TOK P T) {sF : FuncId → Bool} : ∀ n, ClOK P (cl S T sF F n)
  | 0 => ⟨fun _ _ _ _ _ e => (by cases e), fun _ _ _ _ _ e => (by cases e), fun _ _ _ _ _ e => (by cases e)⟩
  | n + 1 => by
    have ih := cl_ok hm hS hT (sF := sF) n
    refine ⟨fun f args h r h' e => ?_, fun f args h r l e => ?_, fun id args h r h' e => vYield_ok ih hm e⟩
    · simp only [cl] at e
      split at e
      · rename_i hs
        cases e
        obtain ⟨k1, k2, k3, k4⟩ := hS.ok _ _ _ _ hs
        exact k1.liftOwn k2 k3 k4
      · split at e
        · split at e
          · rename_i hb
            split at e
            · rename_i r1 l hv
              cases e
              obtain ⟨k1, k2, k3⟩ := vOwn_ok ih hm hT hv
              exact k1.liftOwn (fun x hx => belB_ok (List.all_eq_true.1 hb x hx)) k2 k3
            · cases e
          · cases e
        · exact vFun_ok ih hm hT e
    · simp only [cl] at e
      split at e
      · rename_i hs
        cases e
        obtain ⟨k1, k2, k3, k4⟩ := hS.ok _ _ _ _ hs
        exact k1.liftOwn k2 k3 k4
      · split at e
        · rename_i hb
          split at e
          · rename_i r1 hv
            cases e
            obtain ⟨k1, k2, k3⟩ := vOwn_ok ih hm hT hv
            exact k1.liftOwn (fun x hx => belB_ok (List.all_eq_true.1 hb.2 x hx)) k2 k3
          · cases e
        · cases e
def AllTok (P : Program) : Nat → List (AC × List RV × Nat) → Prop
  | _, [] => True
  | i, c :: l => chk P i = some c ∧ AllTok P (i + 1) l
theorem AllTok.get : ∀ {l : List (AC × List RV × Nat)} {i j : Nat} {c : AC × List RV × Nat}, AllTok P i l → l[j]? = some c → chk P (i + j) = some c
  | [], i, j, c, _, h => by simp at h
  | x :: l, i, 0, c, a, h => by simp at h; subst h; exact a.1
  | x :: l, i, j + 1, c, a, h => by
    have := AllTok.get (j := j) a.2 (by simpa using h)
    rw [show i + (j + 1) = i + 1 + j by omega]
    exact this
def tabOf (i : Nat) (l : List (AC × List RV × Nat)) : CTab := fun f => if f < i then none else l[f - i]?
theorem tabOf_ok {i : Nat} {l : List (AC × List RV × Nat)} (a : AllTok P i l) : TOK P (tabOf i l) := by
  intro f c h
  unfold tabOf at h
  split at h
  · cases h
  · rename_i hf
    have := a.get h
    have e : i + (f - i) = f := Nat.add_sub_cancel' (Nat.le_of_not_lt hf)
    rw [e] at this
    exact this
end Go.Av

/- The evaluator's pure calls: what they make is handed back frozen, their memory is gone. -/
set_option linter.unusedVariables false
set_option linter.unusedSimpArgs false
namespace Go.Av
open Go
def mapO (f : AV → Option AV) : List AV → Option (List AV)
  | [] => some []
  | x :: r => match f x, mapO f r with
    | some y, some s => some (y :: s)
    | _, _ => none
def fzV (b : Nat) (H : AHeap) : Nat → AV → Option AV
  | 0, _ => none
  | d + 1, x => if belB b 16 x = true then some x else match x with
    | .rf id ver idx len => if b ≤ id then match rowAt H id ver with
        | some (_, es) => match mapO (fzV b H d) ((es.drop idx).take len) with
          | some ys => some (.sl false ys)
          | none => none
        | none => none
      else none
    | .sl t xs => match mapO (fzV b H d) xs with
      | some ys => some (.sl t ys)
      | none => none
    | .agg cs => match mapO (fzV b H d) cs with
      | some ds => some (.agg ds)
      | none => none
    | .tup cs => match mapO (fzV b H d) cs with
      | some ds => some (.tup ds)
      | none => none
    | _ => none
theorem mapO_ok {f : AV → Option AV} : ∀ {xs ys : List AV}, mapO f xs = some ys → xs.length = ys.length ∧ ∀ (j : Nat) (x y : AV), xs[j]? = some x → ys[j]? = some y → f x = some y
  | [], ys, h => by cases h; exact ⟨rfl, fun j x y h => by simp at h⟩
  | x :: r, ys, h => by
    unfold mapO at h
    split at h
    · rename_i y s h1 h2
      cases h
      obtain ⟨a, b⟩ := mapO_ok h2
      refine ⟨by simp [a], fun j x' y' hx hy => ?_⟩
      cases j with
      | zero => simp at hx hy; subst hx hy; exact h1
      | succ j => exact b j x' y' (by simpa using hx) (by simpa using hy)
    · cases h
/-- Of an element: its cells one by one. -/
def FzE (b : Nat) (H : AHeap) (x y : AV) : Prop := x.cells.length = y.cells.length ∧ ∀ (j : Nat) (u v : AV), x.cells[j]? = some u → y.cells[j]? = some v → Fz b H u v
theorem flat_fz {b : Nat} {H : AHeap} : ∀ {xs ys : List AV}, xs.length = ys.length → (∀ (j : Nat) (x y : AV), xs[j]? = some x → ys[j]? = some y → FzE b H x y) → ∀ (j : Nat) (u v : AV), (flat xs)[j]? = some u → (flat ys)[j]? = some v → Fz b H u v
  | [], ys, _, _, j, u, v, hu, _ => by simp [flat] at hu
  | x :: xs, [], h, _, j, u, v, _, _ => by simp at h
  | x :: xs, y :: ys, h, he, j, u, v, hu, hv => by
    obtain ⟨e1, e2⟩ := he 0 x y rfl rfl
    simp only [flat, List.flatMap_cons] at hu hv
    rcases Nat.lt_or_ge j x.cells.length with q | q
    · rw [List.getElem?_append_left q] at hu
      rw [List.getElem?_append_left (by omega)] at hv
      exact e2 j u v hu hv
    · rw [List.getElem?_append_right q] at hu
      rw [List.getElem?_append_right (by omega), ← e1] at hv
      exact flat_fz (xs := xs) (ys := ys) (by simpa using h) (fun j a b ha hb => he (j + 1) a b (by simpa using ha) (by simpa using hb)) _ u v hu hv
theorem fzV_ok {b : Nat} {H : AHeap} : ∀ {d : Nat} {x y : AV}, fzV b H d x = some y → Fz b H x y ∧ FzE b H x y
  | 0, x, y, h => by cases h
  | d + 1, x, y, h => by
    have ih : ∀ {x y : AV}, fzV b H d x = some y → Fz b H x y ∧ FzE b H x y := fun h => fzV_ok h
    have one : ∀ {x y : AV}, x.cells = [x] → y.cells = [y] → Fz b H x y → Fz b H x y ∧ FzE b H x y := fun hx hy f => ⟨f, by rw [hx, hy]; rfl, fun j u v hu hv => by
      rw [hx] at hu
      rw [hy] at hv
      cases j with
      | zero => simp at hu hv; subst hu hv; exact f
      | succ j => simp at hu⟩
    unfold fzV at h
    split at h
    · rename_i hb
      cases h
      have hB := belB_ok hb
      refine ⟨.keep _ hB, rfl, fun j u v hu hv => ?_⟩
      rw [hu] at hv
      cases hv
      cases hB with
      | agg cs hc => exact .keep _ (hc u (List.mem_of_getElem? hu))
      | _ => simp only [AV.cells] at hu; cases j <;> simp at hu; subst hu; exact .keep _ (belB_ok hb)
    · split at h
      · rename_i id ver idx len _
        split at h
        · rename_i hid
          split at h
          · rename_i sz es hr
            split at h
            · rename_i ys hm
              cases h
              obtain ⟨m1, m2⟩ := mapO_ok hm
              exact one rfl rfl (.rf id ver idx len sz es ys hid hr m1 (fun j x y hx hy => (ih (m2 j x y hx hy)).2.1) (flat_fz m1 fun j x y hx hy => (ih (m2 j x y hx hy)).2))
            · cases h
          · cases h
        · cases h
      · rename_i t xs _
        split at h
        · rename_i ys hm
          cases h
          obtain ⟨m1, m2⟩ := mapO_ok hm
          exact one rfl rfl (.sl t t xs ys m1 (fun e => e) (fun j x y hx hy => (ih (m2 j x y hx hy)).2.1) (flat_fz m1 fun j x y hx hy => (ih (m2 j x y hx hy)).2))
        · cases h
      · rename_i cs _
        split at h
        · rename_i ds hm
          cases h
          obtain ⟨m1, m2⟩ := mapO_ok hm
          exact ⟨.agg cs ds m1 fun j u v hu hv => (ih (m2 j u v hu hv)).1, m1, fun j u v hu hv => (ih (m2 j u v hu hv)).1⟩
        · cases h
      · rename_i cs _
        split at h
        · rename_i ds hm
          cases h
          obtain ⟨m1, m2⟩ := mapO_ok hm
          exact one rfl rfl (.tup cs ds m1 fun j u v hu hv => (ih (m2 j u v hu hv)).1)
        · cases h
      · cases h
end Go.Av

/- The evaluator with pure calls. -/
set_option linter.unusedVariables false
set_option linter.unusedSimpArgs false
namespace Go.Av
open Go
def obelB (n : Nat) : AObj → Bool
  | .row _ _ es => (flat es).all (belB n 16)
  | .map es => es.all fun p => belB n 16 p.1 && belB n 16 p.2
  | .loop L => L.slots.all (fun p => belB n 16 p.2) && decide (L.dfr < n)
  | _ => true
theorem alook_bel {n : Nat} : ∀ {s : List (Nat × AV)}, s.all (fun p => belB n 16 p.2) = true → ∀ i, Bel n (alook s i)
  | [], _, i => .any
  | (j, v) :: r, h, i => by
    simp only [List.all_cons, Bool.and_eq_true] at h
    unfold alook
    split
    · exact belB_ok h.1
    · exact alook_bel h.2 i
theorem obelB_ok {n : Nat} {o : AObj} (h : obelB n o = true) : OBel n o := by
  cases o with
  | row k sz es => exact fun u hu => belB_ok (List.all_eq_true.1 h u hu)
  | map es =>
    intro p hp
    have := List.all_eq_true.1 h p hp
    simp only [Bool.and_eq_true] at this
    exact ⟨belB_ok this.1, belB_ok this.2⟩
  | loop L =>
    simp only [obelB, Bool.and_eq_true, decide_eq_true_eq] at h
    exact ⟨alook_bel h.1, h.2⟩
  | dfr => trivial
  | dead => trivial
theorem hbB_ok {h : AHeap} (e : h.all (obelB h.length) = true) : HB h := fun i o hi => obelB_ok (List.all_eq_true.1 e o (List.mem_of_getElem? hi))
section
variable (C : Cl) (T : CTab) (F : Nat)
def vFunZ (f : FuncId) (args : List AV) (h : AHeap) : Option (AV × AHeap) :=
  match T f with
  | some (ac, rs, n) => if args.length ≤ n then match vC C F none ac { n := n, s := argS 0 args, dfr := [] } h with
      | some (j, τ, h') => if j = .none ∨ j = .ret then match aresl τ.s (kills τ.dfr h') rs with
          | some xs => match fzV h.length (kills τ.dfr h') 16 (resv xs) with
            | some y => if (nodupB τ.dfr && noDfrB h' τ.dfr && hstayB h ((kills τ.dfr h').take h.length) && decide (h.length ≤ (kills τ.dfr h').length) && ((kills τ.dfr h').take h.length).all (obelB h.length)) = true then some (y, (kills τ.dfr h').take h.length) else none
            | none => none
          | none => none
        else none
      | none => none
    else none
  | none => none
end
def clz (S : Spec) (T : CTab) (sF zF : FuncId → Bool) (F : Nat) : Nat → Cl
  | 0 => ⟨fun _ _ _ => none, fun _ _ _ => none, fun _ _ _ => none⟩
  | n + 1 => ⟨fun f args h => match S f (args.map (snap h)) with
      | some (r, l) => some (shift h.length r, h ++ l)
      | none => if sF f = true then (if (args.map (snap h)).all (belB 0 16) = true then match vOwn (clz S T sF zF F n) T F f (args.map (snap h)) with
          | some (r, l) => some (shift h.length r, h ++ l)
          | none => none
        else none) else if zF f = true then vFunZ (clz S T sF zF F n) T F f args h else vFun (clz S T sF zF F n) T F f args h,
    fun f args h => match S f (args.map (snap h)) with
      | some (r, l) => some (shift h.length r, l)
      | none => if sF f = true ∧ (args.map (snap h)).all (belB 0 16) = true then match vOwn (clz S T sF zF F n) T F f (args.map (snap h)) with
          | some (r, l) => some (shift h.length r, l)
          | _ => none
        else none,
    fun id args h => vYield (clz S T sF zF F n) F id args h⟩
variable {P : Program} {C : Cl} {T : CTab} {F : Nat}
theorem vFunZ_ok (hC : ClOK P C) (hm : P.follows .mixedOrders = true) (hT : TOK P T) {f : FuncId} {args : List AV} {h : AHeap} {r : AV} {h' : AHeap} (e : vFunZ C T F f args h = some (r, h')) : ACall P f args h r h' := by
  unfold vFunZ at e
  split at e
  · rename_i ac rs n ht
    split at e
    · rename_i hn
      split at e
      · rename_i j τ h1 hv
        split at e
        · rename_i hj
          split at e
          · rename_i xs hx
            split at e
            · rename_i y hy
              split at e
              · rename_i hb
                cases e
                simp only [Bool.and_eq_true, decide_eq_true_eq] at hb
                obtain ⟨⟨⟨⟨b1, b2⟩, b3⟩, b4⟩, b5⟩ := hb
                have lt : ((kills τ.dfr h1).take h.length).length = h.length := by rw [List.length_take]; omega
                refine ACall.of hm (hT _ _ ht) hn (hstayB_ok b3) fun _ => vC_ok hC F none ac hv ⟨hj, nodupB_ok b1, noDfrB_ok b2, xs, hx, ?_⟩
                have f := (fzV_ok hy).1
                have g := Gst.fz (P := P) (h₀ := h) (h := (kills τ.dfr h1).take h.length) (l := (kills τ.dfr h1).drop h.length) (x := resv xs) (y := r) (by rw [lt]; exact Nat.le_refl _) (hbB_ok (by rw [lt]; exact b5)) (by rw [lt, List.take_append_drop]; exact f)
                rw [List.take_append_drop] at g
                exact g
              · cases e
            · cases e
          · cases e
        · cases e
      · cases e
    · cases e
  · cases e
theorem clz_ok (hm : P.follows .mixedOrders = true) {S : Spec} (hS : SpecOK P S) (hT : TOK P T) {sF zF : FuncId → Bool} : ∀ n, ClOK P (clz S T sF zF F n)
  | 0 => ⟨fun _ _ _ _ _ e => (by cases e), fun _ _ _ _ _ e => (by cases e), fun _ _ _ _ _ e => (by cases e)⟩
  | n + 1 => by
    have ih := clz_ok hm hS hT (sF := sF) (zF := zF) n
    refine ⟨fun f args h r h' e => ?_, fun f args h r l e => ?_, fun id args h r h' e => vYield_ok ih hm e⟩
    · simp only [clz] at e
      split at e
      · rename_i hs
        cases e
        obtain ⟨k1, k2, k3, k4⟩ := hS.ok _ _ _ _ hs
        exact k1.liftOwn k2 k3 k4
      · split at e
        · split at e
          · rename_i hb
            split at e
            · rename_i r1 l hv
              cases e
              obtain ⟨k1, k2, k3⟩ := vOwn_ok ih hm hT hv
              exact k1.liftOwn (fun x hx => belB_ok (List.all_eq_true.1 hb x hx)) k2 k3
            · cases e
          · cases e
        · split at e
          · exact vFunZ_ok ih hm hT e
          · exact vFun_ok ih hm hT e
    · simp only [clz] at e
      split at e
      · rename_i hs
        cases e
        obtain ⟨k1, k2, k3, k4⟩ := hS.ok _ _ _ _ hs
        exact k1.liftOwn k2 k3 k4
      · split at e
        · rename_i hb
          split at e
          · rename_i r1 hv
            cases e
            obtain ⟨k1, k2, k3⟩ := vOwn_ok ih hm hT hv
            exact k1.liftOwn (fun x hx => belB_ok (List.all_eq_true.1 hb.2 x hx)) k2 k3
          · cases e
        · cases e
end Go.Av

/- A code table by function numbers. -/
set_option linter.unusedVariables false
set_option linter.unusedSimpArgs false
namespace Go.Av
open Go
def memB (f : Nat) : List Nat → Bool
  | [] => false
  | g :: r => Nat.beq f g || memB f r
def tabP : List (Nat × AC × List RV × Nat) → CTab
  | [], _ => none
  | (g, c) :: r, f => if Nat.beq f g = true then some c else tabP r f
def AllP (P : Program) : List (Nat × AC × List RV × Nat) → Prop
  | [] => True
  | (g, c) :: r => chk P g = some c ∧ AllP P r
theorem tabP_ok {P : Program} : ∀ {l : List (Nat × AC × List RV × Nat)}, AllP P l → TOK P (tabP l)
  | [], _, f, c, h => by cases h
  | (g, d) :: r, a, f, c, h => by
    unfold tabP at h
    split at h
    · rename_i e
      cases h
      rw [Nat.eq_of_beq_eq_true e]
      exact a.1
    · exact tabP_ok a.2 f c h
end Go.Av
