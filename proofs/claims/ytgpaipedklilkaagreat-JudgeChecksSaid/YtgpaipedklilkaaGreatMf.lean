/- Walking with a table of contracts. -/
import Derived.Test.YtgpaipedklilkaaGreatMb
set_option linter.unusedVariables false
set_option linter.unusedSimpArgs false
namespace Go.Av
open Go

def Spec := FuncId → List AV → Option (AV × AHeap)
structure SpecOK (P : Program) (S : Spec) : Prop where
  ok : ∀ f args r l, S f args = some (r, l) → ACall P f args [] r l ∧ (∀ x ∈ args, Bel 0 x) ∧ Own l r ∧ OwnH l
/-- A table: contracts told of an empty memory (s), of any memory (g). -/
structure Tab where
  s : Spec
  g : FuncId → List AV → AHeap → Option (AV × AHeap)
  loud : FuncId → Bool
/-- Does an operation change memory? (A call: if the table says so.) -/
def opLoud (L : FuncId → Bool) : AOpr → Bool
  | .callV _ _ | .app _ _ _ _ | .alloc _ | .box _ | .mksl _ _ _ _ | .mkmap | .ment _ _ _ | .appZ _ _ _ _ _ => true
  | .callS f _ => L f
  | _ => false
def loudD (L : FuncId → Bool) : List AOpD → Bool
  | [] => false
  | ⟨d, _, op, _⟩ :: r => d.isNone || opLoud L op || loudD L r
def Spec.tab (S : Spec) : Tab := ⟨S, fun _ _ _ => none, fun _ => false⟩
instance : Coe Spec Tab := ⟨Spec.tab⟩
structure TabOK (P : Program) (T : Tab) : Prop where
  s : SpecOK P T.s
  g : ∀ f args h r h', T.g f args h = some (r, h') → ACall P f args h r h'
theorem SpecOK.tab {P : Program} {S : Spec} (h : SpecOK P S) : TabOK P S.tab := ⟨h, fun _ _ _ _ _ e => by cases e⟩
theorem tab_s (S : Spec) (f : FuncId) (a : List AV) : S.tab.s f a = S f a := rfl
theorem tab_l (S : Spec) (f : FuncId) : S.tab.loud f = false := rfl
theorem tab_g (S : Spec) (f : FuncId) (a : List AV) (h : AHeap) : S.tab.g f a h = none := rfl
section
variable (P : Program) (S : Tab)
def aSop (o : AOpr) (s : List (Nat × AV)) (h : AHeap) (K : AV → AHeap → Prop) : Prop :=
  match astep s h o with
  | .v x h' => K x h'
  | .skip h' => K (.tup []) h'
  | .call f args => match S.s f (args.map (snap h)) with
    | some (r, l) => K (shift h.length r) (h ++ l)
    | none => match S.g f args h with
      | some (r, h') => K r h'
      | none => ∃ r h', ACall P f args h r h' ∧ K r h'
  | .yield id args => ∃ r h', AYield P id args h r h' ∧ K r h'
  | .fail => False
def aSG (g : Option (Nat × Bool)) (o : AOpr) (K : AV → AHeap → Prop) (s : List (Nat × AV)) (h : AHeap) : Prop :=
  match g with
  | none => aSop P S o s h K
  | some (d, b) => match alook s d with
    | .bool t => if t = b then aSop P S o s h K else K (.tup []) h
    | .tup [] => K (.tup []) h
    | _ => False
def aSOps : List AOpD → (AFr → AHeap → Prop) → AFr → AHeap → Prop
  | [], K, τ, h => K τ h
  | ⟨d, g, o, _⟩ :: r, K, τ, h => τ.inb d = true ∧ aSG P S g o (fun x h' => aSOps r K (τ.put d x) h') τ.s h
def aSQ (h : AHeap) : List AOpD → (AFr → Prop) → AFr → Prop
  | [], K, τ => K τ
  | ⟨d, g, o, _⟩ :: r, K, τ => τ.inb d = true ∧ aSG P S g o (fun x h' => h' = h ∧ aSQ h r K (τ.put d x)) τ.s h
def aS (rd : Option Nat) : AC → (Jump → AFr → AHeap → Prop) → AFr → AHeap → Prop
  | .skip, Q, τ, h => Q .none τ h
  | .ops l, Q, τ, h => aSOps P S l (Q .none) τ h
  | .draw l, Q, τ, h => if loudD S.loud l = true then awDraw P l (Q .none) τ h else aSQ P S h l (fun τ => Q .none τ h) τ
  | .seq a b, Q, τ, h => aS rd a (fun j τ h => match j with
    | .none => aS rd b Q τ h
    | j => Q j τ h) τ h
  | .cond c a b, Q, τ, h => match ev τ.s c with
    | .bool t => if t = true then aS rd a Q τ h else aS rd b Q τ h
    | .anyb => aS rd a Q τ h ∧ aS rd b Q τ h
    | _ => False
  | .block id a, Q, τ, h => aS rd a (fun j τ h => Q (if j = .exit id then .none else j) τ h) τ h
  | .loop a, Q, τ, h => ∃ I : Nat → AFr → AHeap → Prop, (∃ n τ', I n τ' h ∧ Le τ τ') ∧ ∀ n τ h, I n τ h → aS rd a (fun j τ' h' => match j with
    | .none => ∃ m τ'', m < n ∧ I m τ'' h' ∧ Le τ' τ''
    | j => Q j τ' h') τ h
  | .rangeF g ps assign body, Q, τ, h => awRange P rd g ps assign body Q τ h
  | .exit id, Q, τ, h => Q (.exit id) τ h
  | .ret, Q, τ, h => Q .ret τ h
end
/-- Every region of c that draws its order bears it (none of its operations changing memory). -/
def okD (L : FuncId → Bool) : AC → Bool
  | .draw l => loudD L l || drawOK l (masks l []) [] []
  | .seq a b => okD L a && okD L b
  | .cond _ a b => okD L a && okD L b
  | .block _ a => okD L a
  | .loop a => okD L a
  | _ => true

variable {P : Program} {S : Tab}
theorem aSop_aw (hS : TabOK P S) {o : AOpr} {s : List (Nat × AV)} {h : AHeap} {K : AV → AHeap → Prop} (H : aSop P S o s h K) : awOp P o s h K := by
  unfold aSop at H
  unfold awOp
  cases hs : astep s h o with
  | v x h' => rw [hs] at H; exact H
  | skip h' => rw [hs] at H; exact H
  | call f args =>
    rw [hs] at H
    dsimp only at H ⊢
    split at H
    · rename_i r l hr
      obtain ⟨h1, h2, h3, h4⟩ := hS.s.ok _ _ _ _ hr
      exact ⟨_, _, h1.liftOwn h2 h3 h4, H⟩
    · split at H
      · rename_i r h' hr
        exact ⟨_, _, hS.g _ _ _ _ _ hr, H⟩
      · exact H
  | yield id args => rw [hs] at H; exact H
  | fail => rw [hs] at H; exact H
theorem aSG_aw (hS : TabOK P S) {o : AOpD} {s : List (Nat × AV)} {h : AHeap} {K K' : AV → AHeap → Prop} (hk : ∀ x h', K x h' → K' x h') (H : aSG P S o.g o.op K s h) : awG P o K' s h := by
  unfold aSG at H
  unfold awG
  cases hg : o.g with
  | none => rw [hg] at H; exact awOp_mono hk (aSop_aw hS H)
  | some p =>
    obtain ⟨d, b⟩ := p
    rw [hg] at H
    dsimp only at H ⊢
    split at H
    · rename_i t ht; rw [ht]; exact ⟨fun e => awOp_mono hk (aSop_aw hS (by rw [if_pos e] at H; exact H)), fun e => hk _ _ (by rw [if_neg e] at H; exact H)⟩
    · rename_i ht; rw [ht]; exact hk _ _ H
    · exact H.elim
theorem aSOps_aw (hS : TabOK P S) (l : List AOpD) : ∀ {K K' : AFr → AHeap → Prop}, (∀ τ h, K τ h → K' τ h) → ∀ {τ : AFr} {h : AHeap}, aSOps P S l K τ h → awOps P l K' τ h := by
  induction l with
  | nil => exact fun hk τ h H => hk _ _ H
  | cons o r ih =>
    intro K K' hk τ h H
    obtain ⟨d, g, op, af⟩ := o
    refine (awO_iff _ _ _ _ _).2 ⟨H.1, ?_⟩
    exact aSG_aw (o := ⟨d, g, op, af⟩) hS (fun x h' k => ih hk k) H.2
theorem aSQ_aw (hS : TabOK P S) (l : List AOpD) {h : AHeap} : ∀ {K K' : AFr → Prop}, (∀ τ, K τ → K' τ) → ∀ {τ : AFr}, aSQ P S h l K τ → awQ P h l K' τ := by
  induction l with
  | nil => exact fun hk τ H => hk _ H
  | cons o r ih =>
    intro K K' hk τ H
    obtain ⟨d, g, op, af⟩ := o
    exact ⟨H.1, aSG_aw (o := ⟨d, g, op, af⟩) hS (fun x h' k => ⟨k.1, ih hk k.2⟩) H.2⟩
theorem awG_mono {o : AOpD} {s : List (Nat × AV)} {h : AHeap} {K K' : AV → AHeap → Prop} (hk : ∀ x h', K x h' → K' x h') (H : awG P o K s h) : awG P o K' s h := by
  unfold awG at *
  cases hg : o.g with
  | none => rw [hg] at H; exact awOp_mono hk H
  | some p =>
    obtain ⟨d, b⟩ := p
    rw [hg] at H
    dsimp only at H ⊢
    split at H
    · rename_i t ht; exact ⟨fun e => awOp_mono hk (H.1 e), fun e => hk _ _ (H.2 e)⟩
    · rename_i ht; exact hk _ _ H
    · exact H.elim
theorem awL_mono (loud : List Nat) (iv : List (Nat × Nat)) (hs : Nat → AHeap) : ∀ (l : List AOpD) (i : Nat) {K K' : AFr → Prop} (hk : ∀ τ, K τ → K' τ) (τ : AFr), awL P loud iv hs i l K τ → awL P loud iv hs i l K' τ
  | [], _, _, _, hk, τ, H => hk _ H
  | o :: r, i, K, K', hk, τ, H => by
    obtain ⟨h1, x, h2, h3⟩ := H
    exact ⟨h1, x, h2, awL_mono loud iv hs r (i + 1) hk _ h3⟩
theorem awQ_mono {h : AHeap} : ∀ (l : List AOpD) {K K' : AFr → Prop} (hk : ∀ τ, K τ → K' τ) (τ : AFr), awQ P h l K τ → awQ P h l K' τ
  | [], _, _, hk, τ, H => hk _ H
  | o :: r, K, K', hk, τ, H => by
    refine ⟨H.1, ?_⟩
    obtain ⟨x, h', h1, h2, h3⟩ := awG_elim H.2
    have h4 := awQ_mono r hk _ h3
    subst h2
    exact awG_mono (fun y h'' e => ⟨e.2, by rw [e.1]; exact h4⟩) h1
theorem awDraw_mono {l : List AOpD} {K K' : AFr → AHeap → Prop} (hk : ∀ τ h, K τ h → K' τ h) {τ : AFr} {h : AHeap} (H : awDraw P l K τ h) : awDraw P l K' τ h := by
  rcases H with ⟨M, h1, h2⟩ | ⟨M, loud, iv, hs, h1, h2, h3⟩ | ⟨M, loud, iv, hs, fl, h1, h2, h3⟩
  · exact .inl ⟨M, h1, awQ_mono l (fun τ k => hk _ _ k) τ h2⟩
  · exact .inr (.inl ⟨M, loud, iv, hs, h1, h2, awL_mono loud iv hs l 0 (fun τ k => hk _ _ k) τ h3⟩)
  · exact .inr (.inr ⟨M, loud, iv, hs, fl, h1, h2, awL_mono loud iv hs l 0 (fun τ k => hk _ _ k) τ h3⟩)
theorem awRange_mono {rd : Option Nat} {g : Opd} {ps : List Nat} {x y : AC} {Q Q' : Jump → AFr → AHeap → Prop} (hq : ∀ j τ h, Q j τ h → Q' j τ h) {τ : AFr} {h : AHeap} (H : awRange P rd g ps x y Q τ h) : awRange P rd g ps x y Q' τ h := by
  unfold awRange at H ⊢
  split at H
  · obtain ⟨r, h2, L2, a, b, c, d⟩ := H; exact ⟨r, h2, L2, a, b, c, hq _ _ _ d⟩
  · obtain ⟨L0, e, r, h2, L2, a, b, c, d⟩ := H; exact ⟨L0, e, r, h2, L2, a, b, c, hq _ _ _ d⟩
  · exact H.elim
theorem aS_aw (hS : TabOK P S) (rd : Option Nat) (c : AC) : okD S.loud c = true → ∀ (Q Q' : Jump → AFr → AHeap → Prop), (∀ j τ h, Q j τ h → Q' j τ h) → ∀ τ h, aS P S rd c Q τ h → aw P rd c Q' τ h := by
  induction c with
  | skip => exact fun _ Q Q' hq τ h H => hq _ _ _ H
  | ops l => exact fun _ Q Q' hq τ h H => aSOps_aw hS l (fun τ h k => hq _ _ _ k) H
  | draw l =>
    intro hd Q Q' hq τ h H
    simp only [okD, Bool.or_eq_true] at hd
    simp only [aS] at H
    by_cases e : loudD S.loud l = true
    · rw [if_pos e] at H
      exact awDraw_mono (fun τ h k => hq _ _ _ k) H
    · rw [if_neg e] at H
      exact .inl ⟨_, hd.resolve_left e, aSQ_aw hS l (fun τ k => hq _ _ _ k) H⟩
  | seq a b iha ihb =>
    intro hd Q Q' hq τ h H
    simp only [okD, Bool.and_eq_true] at hd
    refine iha hd.1 _ _ (fun j τ h k => ?_) τ h H
    cases j with
    | none => exact ihb hd.2 Q Q' hq τ h k
    | ret => exact hq _ _ _ k
    | exit i => exact hq _ _ _ k
  | cond c a b iha ihb =>
    intro hd Q Q' hq τ h H
    simp only [okD, Bool.and_eq_true] at hd
    simp only [aS] at H
    simp only [aw]
    split at H
    · rename_i t ht; rw [ht]; exact ⟨fun e => iha hd.1 Q Q' hq τ h (by rw [if_pos e] at H; exact H), fun e => ihb hd.2 Q Q' hq τ h (by rw [if_neg (by simp [e])] at H; exact H)⟩
    · rename_i ht; rw [ht]; exact ⟨iha hd.1 Q Q' hq τ h H.1, ihb hd.2 Q Q' hq τ h H.2⟩
    · exact H.elim
  | block id a ih => exact fun hd Q Q' hq τ h H => ih hd _ _ (fun j τ h k => hq _ _ _ k) τ h H
  | loop a ih =>
    intro hd Q Q' hq τ h H
    obtain ⟨I, h0, hI⟩ := H
    refine ⟨I, h0, fun n τ h i => ih hd _ _ (fun j τ' h' k => ?_) τ h (hI n τ h i)⟩
    cases j with
    | none => exact k
    | ret => exact hq _ _ _ k
    | exit i => exact hq _ _ _ k
  | rangeF g ps x y _ _ => exact fun _ Q Q' hq τ h H => awRange_mono hq H
  | exit id => exact fun _ Q Q' hq τ h H => hq _ _ _ H
  | ret => exact fun _ Q Q' hq τ h H => hq _ _ _ H

/-! ### The end of a function -/
def refs1 : AV → List Nat
  | .rf id _ _ _ => [id]
  | .rp id _ _ _ => [id]
  | _ => []
def refs : AV → List Nat
  | .tup xs => xs.flatMap refs1
  | x => refs1 x
def rn1 (ks : List Nat) : AV → AV
  | .rf id ver idx len => .rf (ks.idxOf id) ver idx len
  | .rp id ver idx off => .rp (ks.idxOf id) ver idx off
  | x => x
def rn (ks : List Nat) : AV → AV
  | .tup xs => .tup (xs.map (rn1 ks))
  | x => rn1 ks x
def noLoop (h : AHeap) : Bool := h.all fun | .loop _ => false | _ => true
def End (rs : List RV) (r : AV) (l : AHeap) (j : Jump) (τ : AFr) (h : AHeap) : Prop :=
  (j = .none ∨ j = .ret) ∧ (τ.dfr = [] ∨ (noLoop h = true ∧ τ.dfr.Nodup)) ∧
  match aresl τ.s (kills τ.dfr h) rs with
  | some xs => r = rn (refs (resv xs)) (resv xs) ∧ l = (refs (resv xs)).map fun i => (kills τ.dfr h).getD i .dead
  | none => False

theorem idxOf_get {ks : List Nat} {i : Nat} (h : i ∈ ks) : ks[ks.idxOf i]? = some i := by
  induction ks with
  | nil => simp at h
  | cons k ks ih =>
    by_cases e : k = i
    · subst e; simp
    · have : i ∈ ks := by rcases List.mem_cons.1 h with c | c; exact absurd c.symm e; exact c
      have hb : (k == i) = false := by simpa using e
      rw [List.idxOf_cons, hb]
      simp only [cond_false, List.getElem?_cons_succ]
      exact ih this
theorem nodup_inj : ∀ {ks : List Nat}, ks.Nodup → ∀ {i j : Nat} (hi : i < ks.length) (hj : j < ks.length), ks[i] = ks[j] → i = j
  | [], _, i, j, hi, _, _ => by simp at hi
  | k :: ks, hn, i, j, hi, hj, e => by
    have hn' := List.nodup_cons.1 hn
    cases i with
    | zero =>
      cases j with
      | zero => rfl
      | succ j => exact absurd (List.mem_of_getElem (i := j) (by simpa using e.symm)) hn'.1
    | succ i =>
      cases j with
      | zero => exact absurd (List.mem_of_getElem (i := i) (by simpa using e)) hn'.1
      | succ j =>
        have hi' : i < ks.length := by simpa using hi
        have hj' : j < ks.length := by simpa using hj
        have e' : ks[i] = ks[j] := by simpa using e
        have := nodup_inj hn'.2 hi' hj' e'
        omega
theorem noLoop_ok {h : AHeap} (hn : noLoop h = true) (ds : List Nat) : NoDfr h ds := by
  intro i L hi
  unfold noLoop at hn
  rw [List.all_eq_true] at hn
  have := hn _ (List.mem_of_getElem? hi)
  simp at this
/-- What a function hands back goes out of its own memory, renumbered. -/
theorem gst_out {h : AHeap} {x : AV} (hnd : (refs x).Nodup) (hO : OwnH ((refs x).map fun i => h.getD i .dead)) (hx : Own ((refs x).map fun i => h.getD i .dead) (rn (refs x) x)) : Gst P [] x h (rn (refs x) x) ((refs x).map fun i => h.getD i .dead) := by
  intro ρ₀ w₀ ρ w v s hh hv
  obtain ⟨ks, hks⟩ : ∃ ks, ks = refs x := ⟨_, rfl⟩
  obtain ⟨l, hl⟩ : ∃ l : AHeap, l = ks.map fun i => h.getD i .dead := ⟨_, rfl⟩
  rw [← hks] at hnd hO hx ⊢
  rw [← hl] at hO hx ⊢
  obtain ⟨g, hg⟩ : ∃ g : Rho, g = ⟨fun j => ρ (ks.getD j 0), ρ.X⟩ := ⟨_, rfl⟩
  have lget : ∀ (j : Nat) (o : AObj), l[j]? = some o → o.live = true → ∃ k, ks[j]? = some k ∧ h[k]? = some o ∧ g j = ρ k := by
    intro j o hj hlv
    rw [hl, List.getElem?_map] at hj
    cases hk : ks[j]? with
    | none => rw [hk] at hj; cases hj
    | some k =>
      rw [hk] at hj
      simp only [Option.map_some, Option.some.injEq] at hj
      refine ⟨k, rfl, ?_, by rw [hg]; simp [List.getD, hk]⟩
      rw [List.getD] at hj
      cases hh' : h[k]? with
      | none => rw [hh'] at hj; simp at hj; subst hj; cases hlv
      | some o' => rw [hh'] at hj; simp at hj; rw [hj]
  have st : Step ρ₀ [] w₀ g l w := by
    refine ⟨Nat.zero_le _, fun i o' _ _ hi => by simp at hi, fun b hb => ?_, s.size, s.os, s.tape, s.output, by rw [hg]; exact s.x, s.kx⟩
    obtain ⟨h1, h2⟩ := s.free b hb
    refine ⟨h1, h2.lt, ?_⟩
    rintro (⟨j, o, hj, hlv, e⟩ | hx)
    · obtain ⟨k, k1, k2, k3⟩ := lget j o hj hlv
      exact h2.free (.inl ⟨k, o, k2, hlv, by rw [← k3]; exact e⟩)
    · exact h2.free (.inr (by rw [hg] at hx; exact hx))
  have one : ∀ y u, Own1 l (rn1 ks y) → (∀ i ∈ refs1 y, i ∈ ks) → VR ρ h w y u → VR g l w (rn1 ks y) u := by
    intro y u ho hr hv
    cases y with
    | rf id ver idx len =>
      have hid := hr id (by simp [refs1])
      have hix := idxOf_get hid
      have hlt : ks.idxOf id < l.length := by rw [hl, List.length_map]; exact getElem?_lt hix
      cases hv with
      | rf _ _ _ _ A c hid' hlc hc =>
        refine .rf _ _ _ _ A c hlt hlc fun k sz es he => ?_
        obtain ⟨k', k1, k2, k3⟩ := lget _ _ he rfl
        rw [hix] at k1; cases k1
        rw [k3]
        exact hc k sz es k2
    | rp id ver idx off =>
      have hid := hr id (by simp [refs1])
      have hix := idxOf_get hid
      have hlt : ks.idxOf id < l.length := by rw [hl, List.length_map]; exact getElem?_lt hix
      cases hv with
      | rp _ _ _ _ ad hid' hc =>
        refine .rp _ _ _ _ ad hlt fun k sz es he => ?_
        obtain ⟨k', k1, k2, k3⟩ := lget _ _ he rfl
        rw [hix] at k1; cases k1
        rw [k3]
        exact hc k sz es k2
    | _ =>
      cases ho with
      | solid _ hs => exact hv.solid hs
  refine ⟨g, ⟨fun j o hj => ?_, fun i j o p hi hj li lj e => ?_, fun i o hi li hX => ?_, fun b hb => hh.xl b (by rw [hg] at hb; exact hb)⟩, ?_, st⟩
  rotate_left 2
  · obtain ⟨k, k1, k2, k3⟩ := lget i o hi li
    rw [k3, hg] at hX
    exact hh.xo k o k2 li hX
  rotate_left
  · rcases hO j o hj with rfl | ⟨ver, sz, es, rfl, hes⟩
    · trivial
    · obtain ⟨k, k1, k2, k3⟩ := lget j _ hj rfl
      obtain ⟨cs, e, h0, h1, h2, h3, h4⟩ := hh.obj k _ k2
      rw [k3]
      refine ⟨cs, e, h0, h1, h2, h3, fun j u hj => ?_⟩
      obtain ⟨v, e1, e2⟩ := h4 j u hj
      have hu : Solid u := by
        have := List.mem_of_getElem? hj
        rw [flat, List.mem_flatMap] at this
        obtain ⟨x, x1, x2⟩ := this
        exact hes x x1 u x2
      exact ⟨v, e1, e2.solid hu⟩
  · obtain ⟨k, k1, k2, k3⟩ := lget i o hi li
    obtain ⟨k', k1', k2', k3'⟩ := lget j p hj lj
    rw [k3, k3'] at e
    have := hh.inj k k' o p k2 k2' li lj e
    subst this
    have hil := getElem?_lt k1
    have hjl := getElem?_lt k1'
    rw [List.getElem?_eq_getElem hil, Option.some.injEq] at k1
    rw [List.getElem?_eq_getElem hjl, Option.some.injEq] at k1'
    exact nodup_inj hnd hil hjl (k1.trans k1'.symm)
  · cases x with
    | tup xs =>
      simp only [rn] at hx ⊢
      cases hv with
      | tup _ vals hlen hc =>
        refine .tup _ vals (by simpa using hlen) fun j u hj => ?_
        rw [List.getElem?_map] at hj
        cases hxj : xs[j]? with
        | none => rw [hxj] at hj; cases hj
        | some y =>
          rw [hxj] at hj
          cases hj
          have hy := List.mem_of_getElem? hxj
          refine one y _ ?_ (fun i hi => by rw [hks]; simp only [refs, List.mem_flatMap]; exact ⟨y, hy, hi⟩) (hc j y hxj)
          cases hx with
          | one _ h1 => cases h1 with | solid _ hs => cases hs with | tup _ hs => exact .solid _ (hs _ (List.mem_map.2 ⟨y, hy, rfl⟩))
          | tup _ h1 => exact h1 _ (List.mem_map.2 ⟨y, hy, rfl⟩)
    | _ =>
      refine one _ v ?_ (fun i hi => by rw [hks]; exact hi) hv
      cases hx with
      | one _ h1 => exact h1
def EndQ (rs : List RV) (r : AV) (l : AHeap) (j : Jump) (τ : AFr) (h : AHeap) : Prop := End rs r l j τ h ∧ (refs (resv ((aresl τ.s (kills τ.dfr h) rs).getD []))).Nodup
theorem ACall.ofT (hS : TabOK P S) (hm : P.follows .mixedOrders = true) {f : FuncId} {ac : AC} {rs : List RV} {n : Nat} (hk : chk P f = some (ac, rs, n)) (hd : okD S.loud ac = true) {args : List AV} {r : AV} {l : AHeap} (hn : args.length ≤ n)
    (hl : OwnH l) (hr : Own l r) (H : aS P S none ac (EndQ rs r l) { n := n, s := argS 0 args, dfr := [] } []) : ACall P f args [] r l := by
  refine ACall.of hm hk hn (fun d hd => by simp at hd) fun _ => aS_aw hS none ac hd _ _ (fun j τ h k => ?_) _ _ H
  obtain ⟨⟨k1, k2, k3⟩, k4⟩ := k
  split at k3
  · rename_i xs hxs
    obtain ⟨e1, e2⟩ := k3
    rw [hxs] at k4
    subst e1
    subst e2
    refine ⟨k1, ?_, ?_, xs, hxs, gst_out k4 hl hr⟩
    · rcases k2 with k2 | k2
      · rw [k2]; exact List.nodup_nil
      · exact k2.2
    · rcases k2 with k2 | k2
      · rw [k2]; intro i L hi hm; simp at hm
      · exact noLoop_ok k2.1 _
  · exact k3.elim
theorem ACall.ofS {S : Spec} (hS : SpecOK P S) (hm : P.follows .mixedOrders = true) {f : FuncId} {ac : AC} {rs : List RV} {n : Nat} (hk : chk P f = some (ac, rs, n)) (hd : okD S.tab.loud ac = true) {args : List AV} {r : AV} {l : AHeap} (hn : args.length ≤ n)
    (hl : OwnH l) (hr : Own l r) (H : aS P S none ac (EndQ rs r l) { n := n, s := argS 0 args, dfr := [] } []) : ACall P f args [] r l := ACall.ofT hS.tab hm hk hd hn hl hr H
end Go.Av

/- Small facts for the table's proofs. -/
set_option linter.unusedVariables false
set_option linter.unusedSimpArgs false
namespace Go.Av
open Go
section
variable {n : Nat}
theorem bel_int (k : IntKind) (i : Int) : Bel n (.int k i) ↔ True := ⟨fun _ => trivial, fun _ => .int _ _⟩
theorem bel_bool (b : Bool) : Bel n (.bool b) ↔ True := ⟨fun _ => trivial, fun _ => .bool _⟩
theorem bel_str (s : ByteArray) : Bel n (.str s) ↔ True := ⟨fun _ => trivial, fun _ => .str _⟩
theorem bel_nilp : Bel n .nilp ↔ True := ⟨fun _ => trivial, fun _ => .nilp⟩
theorem bel_nilfn : Bel n .nilfn ↔ True := ⟨fun _ => trivial, fun _ => .nilfn⟩
theorem bel_agg (cs : List AV) : Bel n (.agg cs) ↔ ∀ u ∈ cs, Bel n u := ⟨fun h => by cases h with | agg _ h => exact h, .agg _⟩
theorem bel_tup (cs : List AV) : Bel n (.tup cs) ↔ ∀ u ∈ cs, Bel n u := ⟨fun h => by cases h with | tup _ h => exact h, .tup _⟩
theorem bel_sl (t : Bool) (xs : List AV) : Bel n (.sl t xs) ↔ ∀ x ∈ xs, ∀ u ∈ x.cells, Bel n u := by
  constructor
  · intro h; cases h with | sl _ _ h => exact fun x hx u hu => h u (List.mem_flatMap.2 ⟨x, hx, hu⟩)
  · intro h; refine .sl _ _ fun u hu => ?_
    obtain ⟨x, x1, x2⟩ := List.mem_flatMap.1 hu
    exact h x x1 u x2
theorem bel_cp (e : AV) (off : Nat) : Bel n (.cp e off) ↔ ∀ u ∈ e.cells, Bel n u := ⟨fun h => by cases h with | cp _ _ h => exact h, .cp _ _⟩
theorem solid_int (k : IntKind) (i : Int) : Solid (.int k i) ↔ True := ⟨fun _ => trivial, fun _ => .int _ _⟩
theorem solid_bool (b : Bool) : Solid (.bool b) ↔ True := ⟨fun _ => trivial, fun _ => .bool _⟩
theorem solid_str (s : ByteArray) : Solid (.str s) ↔ True := ⟨fun _ => trivial, fun _ => .str _⟩
theorem solid_nilp : Solid .nilp ↔ True := ⟨fun _ => trivial, fun _ => .nilp⟩
theorem solid_nilsl (t : Bool) : Solid (.sl t []) ↔ True := ⟨fun _ => trivial, fun _ => .nilsl t⟩
theorem solid_agg (cs : List AV) : Solid (.agg cs) ↔ ∀ u ∈ cs, Solid u := ⟨fun h => by cases h with | agg _ h => exact h, .agg _⟩
theorem solid_tup (cs : List AV) : Solid (.tup cs) ↔ ∀ u ∈ cs, Solid u := ⟨fun h => by cases h with | tup _ h => exact h, .tup _⟩
theorem own_solid {l : AHeap} {x : AV} (h : Solid x) : Own l x := .one _ (.solid _ h)
theorem ownH_nil : OwnH [] := fun i o h => by simp at h
theorem ownH_row (k sz : Nat) (es : List AV) (h : ∀ x ∈ es, ∀ u ∈ x.cells, Solid u) : OwnH [.row k sz es] := fun i o hi => by
  cases i with
  | zero => simp at hi; subst hi; exact .inr ⟨_, _, _, rfl, h⟩
  | succ i => simp at hi
theorem own_rf (o : AObj) (k i n : Nat) : Own [o] (.rf 0 k i n) := .one _ (.rf _ _ _ _ (by simp))
theorem own_rp (o : AObj) (k i n : Nat) : Own [o] (.rp 0 k i n) := .one _ (.rp _ _ _ _ (by simp))
end
end Go.Av

/- The walk by rewriting, what follows kept as data. -/
set_option linter.unusedVariables false
set_option linter.unusedSimpArgs false
namespace Go.Av
open Go
inductive It where
  | code (c : AC)
  | blk (id : Nat)
  | lp (J : AFr → AHeap → Prop)
section
variable (P : Program) (S : Tab) (rd : Option Nat)
def den : List It → (Jump → AFr → AHeap → Prop) → Jump → AFr → AHeap → Prop
  | [], Q, j, τ, h => Q j τ h
  | .code c :: k, Q, j, τ, h => match j with
    | .none => aS P S rd c (den k Q) τ h
    | j => den k Q j τ h
  | .blk id :: k, Q, j, τ, h => den k Q (if j = .exit id then .none else j) τ h
  | .lp J :: k, Q, j, τ, h => match j with
    | .none => J τ h
    | j => den k Q j τ h
def callR (h : AHeap) : ARes → ARes
  | .call f args => match S.s f (args.map (snap h)) with
    | some (r, l) => .v (shift h.length r) (h ++ l)
    | none => match S.g f args h with
      | some (r, h') => .v r h'
      | none => .call f args
  | .skip h' => .v (.tup []) h'
  | x => x
def stepR (s : List (Nat × AV)) (h : AHeap) (g : Option (Nat × Bool)) (o : AOpr) : ARes :=
  match g with
  | none => callR S h (astep s h o)
  | some (d, b) => match alook s d with
    | .bool t => if t = b then callR S h (astep s h o) else .v (.tup []) h
    | .tup [] => .v (.tup []) h
    | _ => .fail
def stp (x : ARes) (d : Option Nat) (r : List AOpD) (k : List It) (Q : Jump → AFr → AHeap → Prop) (τ : AFr) (h : AHeap) : Prop :=
  match x with
  | .v x h' => τ.inb d = true ∧ aS P S rd (.ops r) (den P S rd k Q) (τ.put d x) h'
  | .skip h' => False
  | .call f args => τ.inb d = true ∧ ∃ x h', ACall P f args h x h' ∧ aS P S rd (.ops r) (den P S rd k Q) (τ.put d x) h'
  | .yield id args => τ.inb d = true ∧ ∃ x h', AYield P id args h x h' ∧ aS P S rd (.ops r) (den P S rd k Q) (τ.put d x) h'
  | .fail => False
def stpQ (x : ARes) (d : Option Nat) (r : List AOpD) (k : List It) (Q : Jump → AFr → AHeap → Prop) (τ : AFr) (h : AHeap) : Prop :=
  match x with
  | .v x h' => τ.inb d = true ∧ h' = h ∧ aSQ P S h r (fun τ => den P S rd k Q .none τ h) (τ.put d x)
  | .skip h' => False
  | .call f args => τ.inb d = true ∧ ∃ x h', ACall P f args h x h' ∧ h' = h ∧ aSQ P S h r (fun τ => den P S rd k Q .none τ h) (τ.put d x)
  | .yield id args => τ.inb d = true ∧ ∃ x h', AYield P id args h x h' ∧ h' = h ∧ aSQ P S h r (fun τ => den P S rd k Q .none τ h) (τ.put d x)
  | .fail => False
def drw (r : List AOpD) (k : List It) (Q : Jump → AFr → AHeap → Prop) (τ : AFr) (h : AHeap) : Prop := aSQ P S h r (fun τ => den P S rd k Q .none τ h) τ
def cnd (v : AV) (a b : AC) (k : List It) (Q : Jump → AFr → AHeap → Prop) (τ : AFr) (h : AHeap) : Prop :=
  match v with
  | .bool t => if t = true then aS P S rd a (den P S rd k Q) τ h else aS P S rd b (den P S rd k Q) τ h
  | .anyb => aS P S rd a (den P S rd k Q) τ h ∧ aS P S rd b (den P S rd k Q) τ h
  | _ => False
end
theorem cells_agg (cs : List AV) : AV.cells (AV.agg cs) = cs := rfl
theorem cells_int (k : IntKind) (n : Int) : AV.cells (AV.int k n) = [AV.int k n] := rfl
theorem cells_bool (b : Bool) : AV.cells (AV.bool b) = [AV.bool b] := rfl
theorem cells_str (s : ByteArray) : AV.cells (AV.str s) = [AV.str s] := rfl
theorem cells_nilp  : AV.cells AV.nilp = [AV.nilp] := rfl
theorem cells_rp (a b c d : Nat) : AV.cells (AV.rp a b c d) = [AV.rp a b c d] := rfl
theorem cells_cp (e : AV) (n : Nat) : AV.cells (AV.cp e n) = [AV.cp e n] := rfl
theorem cells_sl (t : Bool) (l : List AV) : AV.cells (AV.sl t l) = [AV.sl t l] := rfl
theorem cells_rf (a b c d : Nat) : AV.cells (AV.rf a b c d) = [AV.rf a b c d] := rfl
theorem cells_mp (a : Nat) : AV.cells (AV.mp a) = [AV.mp a] := rfl
theorem cells_nilmap  : AV.cells AV.nilmap = [AV.nilmap] := rfl
theorem cells_fn (f : Fn) (a b : List AV) : AV.cells (AV.fn f a b) = [AV.fn f a b] := rfl
theorem cells_yld (a : Nat) : AV.cells (AV.yld a) = [AV.yld a] := rfl
theorem cells_nilfn  : AV.cells AV.nilfn = [AV.nilfn] := rfl
section
variable {P : Program} {S : Tab} {rd : Option Nat} {k : List It} {Q : Jump → AFr → AHeap → Prop} {τ : AFr} {h : AHeap}
theorem aS_den {c : AC} (H : aS P S rd c (den P S rd [] Q) τ h) : aS P S rd c Q τ h := H
theorem den_nil (j : Jump) : den P S rd [] Q j τ h = Q j τ h := rfl
theorem den_code (c : AC) : den P S rd (.code c :: k) Q .none τ h = aS P S rd c (den P S rd k Q) τ h := rfl
theorem den_codeR (c : AC) : den P S rd (.code c :: k) Q .ret τ h = den P S rd k Q .ret τ h := rfl
theorem den_codeE (c : AC) (i : Nat) : den P S rd (.code c :: k) Q (.exit i) τ h = den P S rd k Q (.exit i) τ h := rfl
theorem den_blk (id : Nat) : den P S rd (.blk id :: k) Q .none τ h = den P S rd k Q .none τ h := rfl
theorem den_blkR (id : Nat) : den P S rd (.blk id :: k) Q .ret τ h = den P S rd k Q .ret τ h := rfl
theorem den_blkE (id i : Nat) : den P S rd (.blk id :: k) Q (.exit i) τ h = if i = id then den P S rd k Q .none τ h else den P S rd k Q (.exit i) τ h := by
  simp only [den]
  by_cases e : i = id <;> simp [e]
theorem den_lp (J : AFr → AHeap → Prop) : den P S rd (.lp J :: k) Q .none τ h = J τ h := rfl
theorem den_lpR (J : AFr → AHeap → Prop) : den P S rd (.lp J :: k) Q .ret τ h = den P S rd k Q .ret τ h := rfl
theorem den_lpE (J : AFr → AHeap → Prop) (i : Nat) : den P S rd (.lp J :: k) Q (.exit i) τ h = den P S rd k Q (.exit i) τ h := rfl
def Again (I : Nat → AFr → AHeap → Prop) (n : Nat) (τ' : AFr) (h' : AHeap) : Prop := ∃ m τ'', m < n ∧ I m τ'' h' ∧ Le τ' τ''
theorem x_loop {a : AC} (I : Nat → AFr → AHeap → Prop) (h0 : ∃ n τ', I n τ' h ∧ Le τ τ') (hr : ∀ n τ h, I n τ h → aS P S rd a (den P S rd (.lp (Again I n) :: k) Q) τ h) : aS P S rd (.loop a) (den P S rd k Q) τ h := ⟨I, h0, fun n τ h i => hr n τ h i⟩
theorem rowAt_push (h : AHeap) (k sz : Nat) (es : List AV) : rowAt (h ++ [.row k sz es]) h.length k = some (sz, es) := by simp [rowAt]
theorem set_push (h : AHeap) (o o' : AObj) : (h ++ [o]).set h.length o' = h ++ [o'] := by simp
theorem x_skip : aS P S rd .skip (den P S rd k Q) τ h = den P S rd k Q .none τ h := rfl
theorem x_exit (i : Nat) : aS P S rd (.exit i) (den P S rd k Q) τ h = den P S rd k Q (.exit i) τ h := rfl
theorem x_ret : aS P S rd .ret (den P S rd k Q) τ h = den P S rd k Q .ret τ h := rfl
theorem x_seq (a b : AC) : aS P S rd (.seq a b) (den P S rd k Q) τ h = aS P S rd a (den P S rd (.code b :: k) Q) τ h := rfl
theorem x_block (id : Nat) (a : AC) : aS P S rd (.block id a) (den P S rd k Q) τ h = aS P S rd a (den P S rd (.blk id :: k) Q) τ h := rfl
theorem x_cond (c : Opd) (a b : AC) : aS P S rd (.cond c a b) (den P S rd k Q) τ h = cnd P S rd (ev τ.s c) a b k Q τ h := rfl
theorem x_nil : aS P S rd (.ops []) (den P S rd k Q) τ h = den P S rd k Q .none τ h := rfl
theorem step_key (d : Option Nat) (g : Option (Nat × Bool)) (o : AOpr) (K : AV → AHeap → Prop) : (τ.inb d = true ∧ aSG P S g o K τ.s h) = (match stepR S τ.s h g o with
      | .v x h' => τ.inb d = true ∧ K x h'
      | .skip h' => False
      | .call f args => τ.inb d = true ∧ ∃ x h', ACall P f args h x h' ∧ K x h'
      | .yield id args => τ.inb d = true ∧ ∃ x h', AYield P id args h x h' ∧ K x h'
      | .fail => False) := by
  have key : (τ.inb d = true ∧ aSop P S o τ.s h K) = (match callR S h (astep τ.s h o) with
      | .v x h' => τ.inb d = true ∧ K x h'
      | .skip h' => False
      | .call f args => τ.inb d = true ∧ ∃ x h', ACall P f args h x h' ∧ K x h'
      | .yield id args => τ.inb d = true ∧ ∃ x h', AYield P id args h x h' ∧ K x h'
      | .fail => False) := by
    unfold aSop callR
    cases hs : astep τ.s h o with
    | v x h' => rfl
    | skip h' => rfl
    | call f args =>
      dsimp only
      cases hS : S.s f (args.map (snap h)) with
      | none =>
        dsimp only
        cases hG : S.g f args h with
        | none => rfl
        | some p => rfl
      | some p => rfl
    | yield id args => rfl
    | fail => simp
  unfold aSG stepR
  cases g with
  | none => exact key
  | some p =>
    obtain ⟨gd, b⟩ := p
    dsimp only
    generalize alook τ.s gd = V
    cases V with
    | bool t =>
      dsimp only
      by_cases e : t = b
      · rw [if_pos e, if_pos e]; exact key
      · rw [if_neg e, if_neg e]
    | tup l => cases l with
      | nil => rfl
      | cons x l => simp
    | _ => simp
theorem x_cons (d : Option Nat) (g : Option (Nat × Bool)) (o : AOpr) (af : List Nat) (r : List AOpD) : aS P S rd (.ops (⟨d, g, o, af⟩ :: r)) (den P S rd k Q) τ h = stp P S rd (stepR S τ.s h g o) d r k Q τ h := step_key d g o _
def drwL (l : List AOpD) (k : List It) (Q : Jump → AFr → AHeap → Prop) (τ : AFr) (h : AHeap) : Prop := awDraw P l (den P S rd k Q .none) τ h
theorem x_draw (l : List AOpD) : aS P S rd (.draw l) (den P S rd k Q) τ h = if loudD S.loud l = true then drwL (P := P) (S := S) (rd := rd) l k Q τ h else drw P S rd l k Q τ h := rfl
theorem q_nil : drw P S rd [] k Q τ h = den P S rd k Q .none τ h := rfl
theorem q_cons (d : Option Nat) (g : Option (Nat × Bool)) (o : AOpr) (af : List Nat) (r : List AOpD) : drw P S rd (⟨d, g, o, af⟩ :: r) k Q τ h = stpQ P S rd (stepR S τ.s h g o) d r k Q τ h := step_key d g o _
theorem stp_v (x : AV) (h' : AHeap) (d : Option Nat) (r : List AOpD) : stp P S rd (.v x h') d r k Q τ h = (τ.inb d = true ∧ aS P S rd (.ops r) (den P S rd k Q) (τ.put d x) h') := rfl
theorem stp_call (f : FuncId) (args : List AV) (d : Option Nat) (r : List AOpD) : stp P S rd (.call f args) d r k Q τ h = (τ.inb d = true ∧ ∃ x h', ACall P f args h x h' ∧ aS P S rd (.ops r) (den P S rd k Q) (τ.put d x) h') := rfl
theorem stp_yield (f : Nat) (args : List AV) (d : Option Nat) (r : List AOpD) : stp P S rd (.yield f args) d r k Q τ h = (τ.inb d = true ∧ ∃ x h', AYield P f args h x h' ∧ aS P S rd (.ops r) (den P S rd k Q) (τ.put d x) h') := rfl
theorem stp_ite (c : Prop) [Decidable c] (x y : ARes) (d : Option Nat) (r : List AOpD) : stp P S rd (if c then x else y) d r k Q τ h = if c then stp P S rd x d r k Q τ h else stp P S rd y d r k Q τ h := by split <;> rfl
theorem cnd_bool (t : Bool) (a b : AC) : cnd P S rd (.bool t) a b k Q τ h = if t = true then aS P S rd a (den P S rd k Q) τ h else aS P S rd b (den P S rd k Q) τ h := rfl
theorem cnd_any (a b : AC) : cnd P S rd .anyb a b k Q τ h = (aS P S rd a (den P S rd k Q) τ h ∧ aS P S rd b (den P S rd k Q) τ h) := rfl
theorem stpQ_v (x : AV) (h' : AHeap) (d : Option Nat) (r : List AOpD) : stpQ P S rd (.v x h') d r k Q τ h = (τ.inb d = true ∧ h' = h ∧ drw P S rd r k Q (τ.put d x) h) := rfl
theorem stpQ_call (f : FuncId) (args : List AV) (d : Option Nat) (r : List AOpD) : stpQ P S rd (.call f args) d r k Q τ h = (τ.inb d = true ∧ ∃ x h', ACall P f args h x h' ∧ h' = h ∧ drw P S rd r k Q (τ.put d x) h) := rfl
theorem stpQ_ite (c : Prop) [Decidable c] (x y : ARes) (d : Option Nat) (r : List AOpD) : stpQ P S rd (if c then x else y) d r k Q τ h = if c then stpQ P S rd x d r k Q τ h else stpQ P S rd y d r k Q τ h := by split <;> rfl
end
end Go.Av
