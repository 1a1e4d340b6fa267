/- The one theorem on operations. -/
import Derived.Test.YtgpaipedklilkaaGreatMa
import Derived.OrdersIn
import Derived.KernelRfl
set_option linter.unusedVariables false
set_option linter.unusedSimpArgs false
namespace Go.Av
open Go
variable {P : Program} {ρ : Rho} {h : AHeap} {w : World} {s : List (Nat × AV)} {a : Act}

theorem gd_mkfn (hh : HR P ρ h w) (hs : Slots ρ h w s a) (f : FuncId) (x y : Array Operand) :
    Good P ρ h w (do pure (.value (← Instr.makeFunc (.func f) (x.map a.eval) (y.map a.eval)))) (astep s h (.mkfn (.func f) (x.toList.map cx) (y.toList.map cx))) := by
  simp only [astep]
  have h1 := VRs_evs (ρ := ρ) (h := h) (w := w) hs x.toList
  have h2 := VRs_evs (ρ := ρ) (h := h) (w := w) hs y.toList
  refine Good.v1 hh (val := .func (.func f) (x.map a.eval) (y.map a.eval)) (by simp [Instr.makeFunc]) (.fn _ _ _ _ _ (by simp) (by simp) (fun j u hj => ?_) (fun j u hj => ?_))
  · have := h1.2 j u hj
    simpa [List.getD, Array.getD_eq_getD_getElem?] using this
  · have := h2.2 j u hj
    simpa [List.getD, Array.getD_eq_getD_getElem?] using this
theorem eqNilS (d : Nat) {t e : TypeId} (hu : P.underlying t = some (.slice e)) (A : Option Addr) (b c : Nat) : (Op.equalIn (d + 1) t (.slice A b c) (.slice none 0 0)).run P w = .ok A.isNone w := by cases A <;> simp [Op.equalIn, run_underlying hu]
theorem eqNilF (d : Nat) {t : TypeId} {x y z} (hu : P.underlying t = some (.func x y z)) (f : Fn) (b c : Array Value) : (Op.equalIn (d + 1) t (.func f b c) .nilFunc).run P w = .ok false w := by simp [Op.equalIn, run_underlying hu]
theorem eqNilF' (d : Nat) {t : TypeId} {x y z} (hu : P.underlying t = some (.func x y z)) : (Op.equalIn (d + 1) t .nilFunc .nilFunc).run P w = .ok true w := by simp [Op.equalIn, run_underlying hu]
theorem eqNilM (d : Nat) {t : TypeId} {x y} (hu : P.underlying t = some (.map x y)) (A : Option Nat) : (Op.equalIn (d + 1) t (.map A) (.map none)).run P w = .ok A.isNone w := by cases A <;> simp [Op.equalIn, run_underlying hu]
theorem gd_eqn (hh : HR P ρ h w) (hs : Slots ρ h w s a) (op : BinOp) {t : TypeId} {x : Operand} {n : Value} (hop : op = .eql ∨ op = .neq)
    (k : Nat) (ht : (k = 0 ∧ ∃ e, P.underlying t = some (.slice e) ∧ n = .slice none 0 0) ∨ (k = 1 ∧ ∃ b c d, P.underlying t = some (.func b c d) ∧ n = .nilFunc) ∨ (k = 2 ∧ ∃ b c, P.underlying t = some (.map b c) ∧ n = .map none)) :
    Good P ρ h w (do pure (.value (← (do eqGuard op t x (.const n) (a.eval x) (a.eval (.const n)); binOp op t (a.eval x) (a.eval (.const n)))))) (astep s h (.eqn k (op == .neq) (cx x))) := by
  have hx := VR_ev hs x
  have he : a.eval (.const n) = n := rfl
  rw [he]
  have go : ∀ (vx : Value) (b : Bool), a.eval x = vx → (∀ k m, vx ≠ .int k m) → (∀ q, vx ≠ .string q) → (∀ k m, vx ≠ .float k m) → (∀ k m o, vx ≠ .complex k m o) → vx ≠ .nilIface → (∀ cs, vx ≠ .agg cs) → (Op.equal t vx n).run P w = .ok b w →
      (do eqGuard op t x (.const n) (a.eval x) n; binOp op t (a.eval x) n : Sem Value).run P w = .ok (.bool (b != (op == .neq))) w := by
    intro vx b e h1 h2 h3 h4 h5 h6 hb
    have q1 : (BinOp.eql == BinOp.neq) = false := rfl
    have q2 : (BinOp.neq == BinOp.neq) = true := rfl
    rw [e]
    simp only [Sem.run_bind, eqGuard_scalar op t x (.const n) vx n h6 h5, Result.andThen_ok]
    rcases hop with rfl | rfl
    · cases vx <;> first | (exact absurd rfl (h1 _ _)) | (exact absurd rfl (h2 _)) | (exact absurd rfl (h3 _ _)) | (exact absurd rfl (h4 _ _ _)) | (simp [binOp, hb, q1, q2]; done) | (cases n <;> simp [binOp, hb, q1, q2])
    · cases vx <;> first | (exact absurd rfl (h1 _ _)) | (exact absurd rfl (h2 _)) | (exact absurd rfl (h3 _ _)) | (exact absurd rfl (h4 _ _ _)) | (simp [binOp, hb, q1, q2]; done) | (cases n <;> simp [binOp, hb, q1, q2])
  have neg1 : ∀ c : Bool, (false != c) = c := fun c => by cases c <;> rfl
  have neg2 : ∀ c : Bool, (true != c) = !c := fun c => by cases c <;> rfl
  simp only [astep]
  generalize ev s (cx x) = X at hx
  generalize hV : a.eval x = V at hx
  have fin : ∀ (b : Bool) (y : AV), VR ρ h w y (.bool (b != (op == .neq))) → (∀ k m, V ≠ .int k m) → (∀ q, V ≠ .string q) → (∀ k m, V ≠ .float k m) → (∀ k m o, V ≠ .complex k m o) → V ≠ .nilIface → (∀ cs, V ≠ .agg cs) → (Op.equal t V n).run P w = .ok b w →
      Good P ρ h w (do pure (.value (← (do eqGuard op t x (.const n) V n; binOp op t V n)))) (.v y h) := by
    intro b y hy h1 h2 h3 h4 h5 h6 hb
    have := go V b hV h1 h2 h3 h4 h5 h6 hb
    rw [hV] at this
    exact Good.v1 hh this hy
  rcases ht with ⟨rfl, e, hu, rfl⟩ | ⟨rfl, _, _, _, hu, rfl⟩ | ⟨rfl, _, _, hu, rfl⟩
  · cases hx with
    | sl tt xs A c sz vals hsz ha hv hc htt =>
      cases xs with
      | nil => exact fin A.isNone _ (.anyb _) (by simp) (by simp) (by simp) (by simp) (by simp) (by simp) (eqNilS 9999 hu _ _ _)
      | cons y ys =>
        obtain ⟨b, o, rfl, _⟩ := ha (by simp)
        exact fin false _ (by rw [neg1]; exact .bool _) (by simp) (by simp) (by simp) (by simp) (by simp) (by simp) (eqNilS 9999 hu _ _ _)
    | rf id ver idx len A c hid hl hc =>
      cases hq : rowAt h id ver with
      | none => simp only [hq]; trivial
      | some q =>
        obtain ⟨sz, es⟩ := q
        simp only [hq]
        by_cases e0 : len = 0
        · simp only [if_pos e0]
          exact fin A.isNone _ (.anyb _) (by simp) (by simp) (by simp) (by simp) (by simp) (by simp) (eqNilS 9999 hu _ _ _)
        · simp only [if_neg e0]
          obtain ⟨_, h2⟩ := hc _ _ _ (rowAt_eq hq)
          obtain ⟨h3, _, _⟩ := h2 rfl
          obtain rfl := h3 (by omega)
          exact fin false _ (by rw [neg1]; exact .bool _) (by simp) (by simp) (by simp) (by simp) (by simp) (by simp) (eqNilS 9999 hu _ _ _)
    | _ => trivial
  · cases hx with
    | fn f first captured fv cv h1 h2 hf hc => exact fin false _ (by rw [neg1]; exact .bool _) (by simp) (by simp) (by simp) (by simp) (by simp) (by simp) (eqNilF 9999 hu _ _ _)
    | yld id l hid hc => exact fin false _ (by rw [neg1]; exact .bool _) (by simp) (by simp) (by simp) (by simp) (by simp) (by simp) (eqNilF 9999 hu _ _ _)
    | nilfn => exact fin true _ (by rw [neg2]; exact .bool _) (by simp) (by simp) (by simp) (by simp) (by simp) (by simp) (eqNilF' 9999 hu)
    | _ => trivial
  · cases hx with
    | mp id r hid hc => exact fin false _ (by rw [neg1]; exact .bool _) (by simp) (by simp) (by simp) (by simp) (by simp) (by simp) (eqNilM 9999 hu _)
    | nilmap => exact fin true _ (by rw [neg2]; exact .bool _) (by simp) (by simp) (by simp) (by simp) (by simp) (by simp) (eqNilM 9999 hu _)
    | _ => trivial
theorem astep_sound (hh : HR P ρ h w) (hs : Slots ρ h w s a) (o : Oper) : Good P ρ h w (execOp a.eval o) (astep s h (cOp P o)) := by
  cases ho : o.op with
  | move x => simp only [cOp, ho, execOp]; exact gd_move hh hs x
  | assign x => simp only [cOp, ho, execOp]; exact gd_move hh hs x
  | pick c x y => simp only [cOp, ho, execOp]; exact gd_pick hh hs c x y
  | alloc t =>
    simp only [cOp, ho, execOp]
    split
    · rename_i z hz; exact gd_alloc hh hz
    · trivial
  | box t x => simp only [cOp, ho, execOp]; exact gd_box hh hs t x
  | build t parts =>
    have := gd_build hh hs o t parts ho
    simp only [execOp, ho]; exact this
  | buildSlice t n parts =>
    simp only [cOp, ho, execOp]
    split
    · rename_i e hu
      split
      · rename_i i hi
        split
        · rename_i hc
          simp only [astep]
          split
          · rename_i hall
            obtain ⟨ρ', w', val, g1, g2, g3, g4⟩ := g_bsl hh hs hu hi parts n hc.1 hc.2.1 hc.2.2.1 hc.2.2.2 hall
            exact ⟨ρ', w', val, by simp [g1], g2, g3, g4⟩
          · trivial
        · trivial
      · trivial
    · trivial
  | load t x =>
    simp only [cOp, ho, execOp]
    split
    · rename_i n hk; exact gd_load hh hs hk x
    · trivial
  | store t x y =>
    simp only [cOp, ho, execOp]
    split
    · rename_i i hi; exact gd_store hh hs hi x y
    · trivial
  | nilCheck x =>
    have := gd_nil hh hs o x ho
    simp only [cOp, ho]; exact this
  | binOp op t x y _ =>
    simp only [cOp, ho, execOp]
    split
    · exact gd_eqn hh hs .eql (.inl rfl) 0 (.inl ⟨rfl, _, by assumption, rfl⟩)
    · exact gd_eqn hh hs .neq (.inr rfl) 0 (.inl ⟨rfl, _, by assumption, rfl⟩)
    · exact gd_eqn hh hs .eql (.inl rfl) 1 (.inr (.inl ⟨rfl, _, _, _, by assumption, rfl⟩))
    · exact gd_eqn hh hs .neq (.inr rfl) 1 (.inr (.inl ⟨rfl, _, _, _, by assumption, rfl⟩))
    · exact gd_eqn hh hs .eql (.inl rfl) 2 (.inr (.inr ⟨rfl, _, _, by assumption, rfl⟩))
    · exact gd_eqn hh hs .neq (.inr rfl) 2 (.inr (.inr ⟨rfl, _, _, by assumption, rfl⟩))
    · exact gd_binOp hh hs _ t x _
  | unOp op t x =>
    simp only [execOp, ho]
    cases op <;> simp only [cOp, ho] <;> first | exact (gd_unOp hh hs x).1 | exact (gd_unOp hh hs x).2 | trivial
  | convert t d x => simp only [cOp, ho, execOp]; exact gd_conv hh hs t d x
  | makeFunc f x y =>
    simp only [execOp, ho]
    cases f <;> simp only [cOp, ho] <;> first | exact gd_mkfn hh hs _ x y | trivial
  | makeMap t r =>
    simp only [execOp, ho]
    cases r <;> simp only [cOp, ho] <;> first | exact gd_mkmap hh t | trivial
  | makeSlice t n c =>
    simp only [cOp, ho, execOp]
    split
    · rename_i e hu
      split
      · rename_i i hi
        split
        · rename_i z hz
          split
          · rename_i hc; exact gd_mksl hh hs hu hi hz hc.2.1 hc.2.2.1 hc.2.2.2 n c hc.1
          · trivial
        · trivial
      · trivial
    · trivial
  | slice t x lo hi mx =>
    simp only [cOp, ho, execOp]
    split
    · rename_i hu
      cases mx with
      | none => exact gd_slcS hh hs hu x lo hi
      | some m => trivial
    · rename_i e hu
      split
      · rename_i i hi'; exact gd_slc hh hs hu hi' x lo hi mx
      · trivial
    · trivial
  | fieldAddr t x f =>
    simp only [cOp, ho, execOp]
    split
    · rename_i fs hu
      split
      · rename_i g hg
        split
        · rename_i i hi
          split
          · trivial
          · rename_i hz; exact gd_faddr hh hs hu hg hi hz x
        · trivial
      · trivial
    · trivial
  | field t x f =>
    simp only [cOp, ho, execOp]
    split
    · rename_i fs hu
      split
      · rename_i g hg
        split
        · rename_i n hk; exact gd_fld hh hs hu hg hk x
        · trivial
      · trivial
    · trivial
  | indexAddr t x i =>
    simp only [cOp, ho, execOp]
    split
    · rename_i e hu
      split
      · rename_i j hj; exact gd_iaddr hh hs hu hj x i
      · trivial
    · rename_i n e hu
      split
      · rename_i j hj; exact gd_iaddrA hh hs hu hj x i
      · trivial
    · trivial
  | index t x i =>
    simp only [cOp, ho, execOp]
    split
    · rename_i hu
      simp only [astep]
      split
      · rename_i k n hn
        have e2 := inv_int hs hn
        split
        · rename_i b hb
          have e1 := inv_str hs hb
          split
          · rename_i h0
            split
            · rename_i c hc
              exact Good.v1 hh (by rw [e1, e2]; simp [Instr.index, asIntOf, run_underlying hu, h0, hc]) (.int .u8 c.toNat)
            · trivial
          · trivial
        · trivial
      · trivial
    · rename_i n e hu
      split
      · rename_i j k hj hk; exact gd_idxA hh hs hu hj hk x i
      · trivial
    · trivial
  | lookup t m k ok =>
    simp only [cOp, ho, execOp]
    split
    · rename_i kt e hu
      split
      · rename_i k' z hk hz
        obtain ⟨i, hi, hz'⟩ : ∃ i, P.info? e = some i ∧ i.zero = some z := by
          cases hi : P.info? e with
          | none => simp [hi] at hz
          | some i => exact ⟨i, rfl, by simpa [hi] using hz⟩
        exact gd_look hh hs hu hk hi hz' m k ok
      · trivial
    · trivial
  | mapUpdate t m k v =>
    simp only [cOp, ho, execOp]
    split
    · rename_i kt e hu
      split
      · rename_i k' hk; exact gd_mupd hh hs hu hk m k v
      · trivial
    · trivial
  | mapEntry t m k =>
    simp only [cOp, ho, execOp]
    split
    · rename_i kt e hu
      split
      · rename_i k' z hk hz
        obtain ⟨i, hi, hz'⟩ : ∃ i, P.info? e = some i ∧ i.zero = some z := by
          cases hi : P.info? e with
          | none => simp [hi] at hz
          | some i => exact ⟨i, rfl, by simpa [hi] using hz⟩
        exact gd_ment hh hs hu hk hi hz' m k
      · trivial
    · trivial
  | entryStore t m st v =>
    simp only [cOp, ho, execOp]
    exact gd_mest hh hs t m st v
  | insert t m k v =>
    simp only [cOp, ho, execOp]
    split
    · rename_i kt e hu
      split
      · rename_i k' hk; exact gd_mupd hh hs hu hk m k v
      · trivial
    · trivial
  | extract x i => simp only [cOp, ho, execOp]; exact gd_ext hh hs x i
  | call c =>
    have := gd_call hh hs o c ho
    simp only [cOp, ho]; exact this
  | _ => simp only [cOp, ho]; trivial
end Go.Av

/- Walking a function's body in the short words. -/
set_option linter.unusedVariables false
set_option linter.unusedSimpArgs false
namespace Go.Av
open Go

def AFr.put (τ : AFr) (d : Option Nat) (x : AV) : AFr := match d with
  | none => τ
  | some d => { τ with s := (d, x) :: τ.s }
def AFr.inb (τ : AFr) (d : Option Nat) : Bool := match d with
  | none => true
  | some d => decide (d < τ.n)
/-- τ' knows no more than τ. -/
def Le (τ τ' : AFr) : Prop := τ'.n = τ.n ∧ τ'.dfr = τ.dfr ∧ ∀ p ∈ τ'.s, alook τ.s p.1 = p.2
theorem alook_mem : ∀ {s : List (Nat × AV)} {i : Nat}, alook s i ≠ .any → (i, alook s i) ∈ s
  | [], i, h => absurd rfl h
  | (j, v) :: r, i, h => by
    unfold alook at h ⊢
    by_cases e : i = j
    · rw [if_pos e] at h ⊢; subst e; exact List.mem_cons_self
    · rw [if_neg e] at h ⊢; exact List.mem_cons_of_mem _ (alook_mem h)
theorem isAny_dec (v : AV) : v = .any ∨ v ≠ .any := Classical.em _

/-- The fence of an activation (none), of a round (its record's block). -/
def fence : Option Nat → Fence
  | none => Fence.wide
  | some l => Fence.wide.inRound l
theorem fence_fn (L : Option Nat) (f : FuncId) : (fence L).fn f := by cases L <;> trivial
theorem fence_depth (L : Option Nat) : (fence L).depth = none := by cases L <;> rfl
theorem fence_calls {L : Option Nat} {n : Nat} {P : Program} {f : FuncId} {args : Array Value} {w : World} {R : Ending → World → Prop} : CallsIn Fence.wide n P f args w R → CallsIn (fence L) n P f args w R := by
  cases L <;> exact fun h => h
theorem fence_round {L : Option Nat} {n : Nat} {P : Program} {l : Nat} {f : FuncId} {t : Array Value} {x y : Code} {w : World} {R : Ending → World → Prop} : RoundIn Fence.wide n P l f t x y w R → RoundIn (fence L) n P l f t x y w R := by
  cases L <;> exact fun h => h

/-- The blocks for deferred calls stay. -/
def Hstay (h h' : AHeap) : Prop := ∀ d : Nat, h[d]? = some .dfr → h'[d]? = some .dfr
section
variable (P : Program)
/-- A call of f at these arguments hands back r and leaves h'. -/
structure ACall (f : FuncId) (args : List AV) (h : AHeap) (r : AV) (h' : AHeap) : Prop where
  enters : Enters P f
  dfr : Hstay h h'
  run : ∀ ρ w vals, HR P ρ h w → VRs ρ h w args vals → CallsIn Fence.wide 0 P f vals.toArray w fun e w' => ∃ v ρ', e = .returned v ∧ VR ρ' h' w' r v ∧ HR P ρ' h' w' ∧ Step ρ h w ρ' h' w'
/-- A call of yield. -/
structure AYield (id : Nat) (args : List AV) (h : AHeap) (r : AV) (h' : AHeap) : Prop where
  isLoop : ∃ L, h[id]? = some (.loop L)
  dfr : Hstay h h'
  run : ∀ ρ w vals, HR P ρ h w → VRs ρ h w args vals → ∃ fn tmps assign body, (Instr.yield (ρ id) vals.toArray).run P w = .ok (.round (ρ id) fn tmps assign body) w ∧
    RoundIn Fence.wide 0 P (ρ id) fn tmps assign body w fun e w' => ∃ v ρ', e = .returned v ∧ VR ρ' h' w' r v ∧ HR P ρ' h' w' ∧ Step ρ h w ρ' h' w'
def awOp (o : AOpr) (s : List (Nat × AV)) (h : AHeap) (K : AV → AHeap → Prop) : Prop :=
  match astep s h o with
  | .v x h' => K x h'
  | .skip h' => K (.tup []) h'
  | .call f args => ∃ r h', ACall P f args h r h' ∧ K r h'
  | .yield id args => ∃ r h', AYield P id args h r h' ∧ K r h'
  | .fail => False
def awO (o : AOpD) (K : AFr → AHeap → Prop) (τ : AFr) (h : AHeap) : Prop :=
  τ.inb o.dst = true ∧ match o.g with
    | none => awOp P o.op τ.s h fun x h' => K (τ.put o.dst x) h'
    | some (d, b) => match alook τ.s d with
      | .bool t => (t = b → awOp P o.op τ.s h fun x h' => K (τ.put o.dst x) h') ∧ (t ≠ b → K (τ.put o.dst (.tup [])) h)
      | .tup [] => K (τ.put o.dst (.tup [])) h
      | _ => False
def awOps : List AOpD → (AFr → AHeap → Prop) → AFr → AHeap → Prop
  | [], K, τ, h => K τ h
  | o :: r, K, τ, h => awO P o (awOps r K) τ h
end

variable {P : Program} {ρ : Rho} {h : AHeap} {w : World} {τ : AFr} {a : Act}
theorem Rel.mono (r : Rel P ρ τ h a w) {ρ' : Rho} {h' : AHeap} {w' : World} (hh : HR P ρ' h' w') (s : Step ρ h w ρ' h' w') (hd : ∀ d ∈ τ.dfr, ρ' d = ρ d ∧ h'[d]? = some .dfr) : Rel P ρ' τ h' a w' := by
  refine ⟨hh, r.n, fun i => (r.slot i).mono s, ?_, fun d hm => (hd d hm).2⟩
  rw [r.dfr]
  refine List.map_congr_left fun d hm => ?_
  rw [(hd d hm).1]
theorem Rel.put (r : Rel P ρ τ h a w) {d : Option Nat} (hb : τ.inb d = true) {x : AV} {v : Value} (hv : VR ρ h w x v) : Rel P ρ (τ.put d x) h (a.put d v) w := by
  cases d with
  | none => exact r
  | some d =>
    have hlt : d < a.tmps.size := by rw [r.n]; simpa [AFr.inb] using hb
    refine ⟨r.heap, by simp [AFr.put, Act.put, r.n], fun i => ?_, r.dfr, r.dfrs⟩
    simp only [AFr.put, Act.put, alook]
    rw [Array.getD_eq_getD_getElem?]
    by_cases e : i = d
    · subst e
      rw [if_pos rfl, Array.getElem?_setIfInBounds_self_of_lt hlt]
      exact hv
    · rw [if_neg e, Array.getElem?_setIfInBounds_ne (Ne.symm e), ← Array.getD_eq_getD_getElem?]
      exact r.slot i
theorem Rel.le (r : Rel P ρ τ h a w) {τ' : AFr} (l : Le τ τ') : Rel P ρ τ' h a w := by
  obtain ⟨l1, l2, l3⟩ := l
  refine ⟨r.heap, r.n.trans l1.symm, fun i => ?_, by rw [l2]; exact r.dfr, by rw [l2]; exact r.dfrs⟩
  rcases isAny_dec (alook τ'.s i) with e | e
  · rw [e]; exact .any _
  · have := l3 _ (alook_mem e)
    simp only at this
    rw [← this]
    exact r.slot i
theorem dfr_rho (r : Rel P ρ τ h a w) {ρ' : Rho} {h' : AHeap} {w' : World} (s : Step ρ h w ρ' h' w') (hd : Hstay h h') : ∀ d ∈ τ.dfr, ρ' d = ρ d ∧ h'[d]? = some .dfr := by
  intro d hm
  have h1 := hd d (r.dfrs d hm)
  obtain ⟨o, h0, t, _, st⟩ := s.keep d _ h1 rfl (getElem?_lt (r.dfrs d hm))
  rw [r.dfrs d hm] at h0
  cases h0
  exact ⟨(st trivial).1, h1⟩
theorem Rel.step (r : Rel P ρ τ h a w) {ρ' : Rho} {h' : AHeap} {w' : World} (hh : HR P ρ' h' w') (s : Step ρ h w ρ' h' w') (hd : Hstay h h') : Rel P ρ' τ h' a w' := r.mono hh s (dfr_rho r s hd)

theorem Hstay.refl (h : AHeap) : Hstay h h := fun _ e => e
theorem Hstay.trans {h h' h'' : AHeap} (a : Hstay h h') (b : Hstay h' h'') : Hstay h h'' := fun d e => b d (a d e)
theorem Hstay.app (h l : AHeap) : Hstay h (h ++ l) := fun d e => by
  rw [List.getElem?_append_left (getElem?_lt e)]; exact e
theorem Hstay.set (h : AHeap) (id : Nat) (o : AObj) (hn : h[id]? ≠ some .dfr) : Hstay h (h.set id o) := fun d e => by
  rw [List.getElem?_set_ne (fun c => hn (by rw [c]; exact e))]; exact e
theorem rowAt_ne {h : AHeap} {id ver sz : Nat} {es : List AV} (e : rowAt h id ver = some (sz, es)) : h[id]? ≠ some .dfr := by
  intro c; unfold rowAt at e; rw [c] at e; cases e
theorem stAt_dfr {h h' : AHeap} {x y : AV} {n : Nat} (e : stAt h x n y = some h') : Hstay h h' := by
  unfold stAt at e
  repeat' split at e
  all_goals first | cases e; done | skip
  all_goals (cases e; exact .set _ _ _ (rowAt_ne (by assumption)))
theorem appR_dfr {h h' : AHeap} {sz b : Nat} {x r : AV} {ys : List AV} (e : appR h sz b x ys = .v r h') : Hstay h h' := by
  unfold appR at e
  repeat' split at e
  all_goals first | cases e; done | skip
  all_goals cases e
  all_goals first | exact .refl _ | exact .app _ _ | exact .set _ _ _ (rowAt_ne (by assumption))
theorem appR_skip {h h' : AHeap} {sz b : Nat} {x : AV} {ys : List AV} (e : appR h sz b x ys = .skip h') : False := by
  unfold appR at e
  repeat' split at e
  all_goals cases e
theorem astep_dfr {s : List (Nat × AV)} {h h' : AHeap} {o : AOpr} {r : AV} (e : astep s h o = .v r h' ∨ astep s h o = .skip h') : Hstay h h' := by
  cases o <;> simp only [astep, aslc] at e
  all_goals
    repeat' split at e
  all_goals first
    | (rcases e with e | e <;> cases e <;> done)
    | (rcases e with e | e <;> cases e <;> first | exact .refl _ | exact .app _ _ | exact .set _ _ _ (by simp_all) | exact stAt_dfr (by assumption))
    | (rcases e with e | e <;> first | exact appR_dfr e | exact (appR_skip e).elim | (simp only [Av.rv] at e; split at e <;> cases e; exact .refl _) | (simp only [Av.rv] at e; split at e <;> cases e))
end Go.Av

/- Regions in the short words. -/
set_option linter.unusedVariables false
set_option linter.unusedSimpArgs false
namespace Go.Av
open Go
variable {P : Program} {ρ : Rho} {h : AHeap} {w : World} {τ : AFr} {a : Act}

theorem semAt_of {o : Oper} (hd : ∀ c, o.op ≠ .defer c) (L : Option Nat) : o.semAt (fence L).round a.eval = execOp a.eval o := Oper.semAt_eq _ _ _ hd
theorem awOp_bad {s : List (Nat × AV)} {K : AV → AHeap → Prop} (H : awOp P .bad s h K) : False := H
theorem awOp_sound (r : Rel P ρ τ h a w) (o : Oper) (L : Option Nat) {K : AV → AHeap → Prop} (H : awOp P (cOp P o) τ.s h K) {next : Act → World → Prop} {Q : Exit → Act → World → Prop}
    (hn : ∀ ρ' h' w' x v, K x h' → VR ρ' h' w' x v → HR P ρ' h' w' → Step ρ h w ρ' h' w' → Hstay h h' → next (a.put o.dst v) w') : o.wpIn (fence L) 0 P a w next Q := by
  have hd : ∀ c, o.op ≠ .defer c := by
    intro c e
    simp only [cOp, e] at H
    exact H
  have g := astep_sound (P := P) r.heap r.slot o
  refine ⟨fun f _ => fence_fn L f, ?_⟩
  rw [semAt_of hd]
  unfold awOp at H
  cases hs : astep τ.s h (cOp P o) with
  | v x h' =>
    rw [hs] at g H
    obtain ⟨ρ', w', val, g1, g2, g3, g4⟩ := g
    rw [g1, Oper.uponIn_value]
    exact hn ρ' h' w' x val H g2 g3 g4 (astep_dfr (.inl hs))
  | skip h' =>
    rw [hs] at g H
    obtain ⟨ρ', w', g1, g3, g4⟩ := g
    rw [g1, Oper.uponIn_skip]
    exact hn ρ' h' w' _ undef H (.tup [] #[] rfl (by simp)) g3 g4 (astep_dfr (r := .any) (.inr hs))
  | call f args =>
    rw [hs] at g H
    obtain ⟨x, h', c, k⟩ := H
    obtain ⟨vals, g1, g2⟩ := g
    rw [g2 c.enters, Oper.uponIn_enter]
    refine ⟨(fun hdp => by rw [fence_depth] at hdp; simp at hdp), fence_calls ?_⟩
    refine CallsIn.mono (c.run ρ w vals r.heap g1) fun e w' he => ?_
    obtain ⟨v, ρ', rfl, e1, e2, e3⟩ := he
    exact hn ρ' h' w' x v k e1 e2 e3 c.dfr
  | yield id args =>
    rw [hs] at g H
    obtain ⟨x, h', c, k⟩ := H
    obtain ⟨l, vals, g1, g2, g3, g4⟩ := g
    obtain ⟨L0, hL⟩ := c.isLoop
    obtain ⟨fn, tmps, as, bd, y1, y2⟩ := c.run ρ w vals r.heap g1
    rw [g4, g3 L0 hL, y1, Oper.uponIn_round]
    refine ⟨(fun hdp => by rw [fence_depth] at hdp; simp at hdp), fence_round ?_⟩
    refine RoundIn.mono y2 fun e w' he => ?_
    obtain ⟨v, ρ', rfl, e1, e2, e3⟩ := he
    exact hn ρ' h' w' x v k e1 e2 e3 c.dfr
  | fail => rw [hs] at H; exact H.elim
theorem awOp_mono {o : AOpr} {s : List (Nat × AV)} {K K' : AV → AHeap → Prop} (hk : ∀ x h', K x h' → K' x h') (H : awOp P o s h K) : awOp P o s h K' := by
  unfold awOp at H ⊢
  cases hs : astep s h o with
  | v x h' => rw [hs] at H; exact hk _ _ H
  | skip h' => rw [hs] at H; exact hk _ _ H
  | call f args => rw [hs] at H; obtain ⟨x, h', c, k⟩ := H; exact ⟨x, h', c, hk _ _ k⟩
  | yield id args => rw [hs] at H; obtain ⟨x, h', c, k⟩ := H; exact ⟨x, h', c, hk _ _ k⟩
  | fail => rw [hs] at H; exact H.elim

/-- Is the operation wanted? -/
def gWants (a : Act) : Option (Nat × Bool) → Bool
  | none => true
  | some (d, b) => match a.tmps[d]? with
    | some (.bool t) => t == b
    | _ => false
theorem wanted_of (ops : Array Oper) (o : Oper) {g : Option (Nat × Bool)} (hg : cGuard ops o.guard = some g) :
    Region.wanted o (yielded ops a.tmps) = gWants a g := by
  unfold Region.wanted cGuard at *
  cases ho : o.guard with
  | none => simp only [ho] at hg; cases hg; rfl
  | some p =>
    obtain ⟨j, b⟩ := p
    simp only [ho] at hg
    simp only
    split at hg
    · rename_i d hd
      cases hg
      simp only [yielded, hd, Option.bind_some, gWants]
      cases hv : a.tmps[d]? with
      | none => simp [hv]
      | some v => cases v <;> simp [hv]
    · cases hg
theorem awO_sound₁ (r : Rel P ρ τ h a w) {ops : Array Oper} {o : Oper} {ao : AOpD} (hc : cOD P ops o = some ao) (L : Option Nat) {K : AFr → AHeap → Prop} (H : awO P { ao with after := [] } K τ h) {next : Act → World → Prop} {Q : Exit → Act → World → Prop}
    (hn : ∀ ρ' τ' h' a' w', (∃ v, a' = a.put o.dst v) → K τ' h' → Rel P ρ' τ' h' a' w' → Step ρ h w ρ' h' w' → Hstay h h' → next a' w') :
    if Region.wanted o (yielded ops a.tmps) = true then o.wpIn (fence L) 0 P a w next Q else (∀ f, o.about P w a.eval = some f → (fence L).fn f) ∧ next (a.put o.dst undef) w := by
  unfold cOD at hc
  split at hc
  · rename_i g hg
    cases hc
    obtain ⟨hb, H⟩ := H
    have put : ∀ ρ' h' w' x v, K (τ.put o.dst x) h' → VR ρ' h' w' x v → HR P ρ' h' w' → Step ρ h w ρ' h' w' → Hstay h h' → next (a.put o.dst v) w' :=
      fun ρ' h' w' x v k e1 e2 e3 e4 => hn ρ' _ h' _ w' ⟨v, rfl⟩ k ((r.step e2 e3 e4).put hb e1) e3 e4
    have no : K (τ.put o.dst (.tup [])) h → (∀ f, o.about P w a.eval = some f → (fence L).fn f) ∧ next (a.put o.dst undef) w :=
      fun k => ⟨fun f _ => fence_fn L f, put ρ h w _ undef k (.tup [] #[] rfl (by simp)) r.heap (Step.refl _ _ _) (Hstay.refl h)⟩
    rw [wanted_of ops o hg]
    cases g with
    | none => simp only [gWants, if_true]; exact awOp_sound r o L H put
    | some p =>
      obtain ⟨d, b⟩ := p
      dsimp only at H
      have hv := r.slot d
      rw [Array.getD_eq_getD_getElem?] at hv
      split at H
      · rename_i t ht
        rw [ht] at hv
        have hw : gWants a (some (d, b)) = (t == b) := by
          unfold gWants
          cases hd : a.tmps[d]? with
          | none => rw [hd] at hv; cases hv
          | some v => rw [hd] at hv; cases v <;> simp only [Option.getD_some] at hv <;> cases hv; simp [hd]
        rw [hw]
        by_cases e : t = b
        · rw [if_pos (by simp [e])]
          exact awOp_sound r o L (H.1 e) put
        · rw [if_neg (by simp [e])]
          exact no (H.2 e)
      · rename_i ht
        rw [ht] at hv
        have hw : gWants a (some (d, b)) = false := by
          unfold gWants
          cases hd : a.tmps[d]? with
          | none => simp [hd]
          | some v => rw [hd] at hv; cases v <;> simp only [Option.getD_some] at hv <;> first | (cases hv; done) | simp [hd]
        rw [hw, if_neg (by simp)]
        exact no H
      · exact H.elim
  · cases hc
theorem awO_sound (r : Rel P ρ τ h a w) {ops : Array Oper} {o : Oper} {ao : AOpD} (hc : cOD P ops o = some ao) (L : Option Nat) {K : AFr → AHeap → Prop} (H : awO P { ao with after := [] } K τ h) {next : Act → World → Prop} {Q : Exit → Act → World → Prop}
    (hn : ∀ ρ' τ' h' a' w', K τ' h' → Rel P ρ' τ' h' a' w' → Step ρ h w ρ' h' w' → Hstay h h' → next a' w') :
    if Region.wanted o (yielded ops a.tmps) = true then o.wpIn (fence L) 0 P a w next Q else (∀ f, o.about P w a.eval = some f → (fence L).fn f) ∧ next (a.put o.dst undef) w :=
  awO_sound₁ r hc L H fun ρ' τ' h' a' w' _ => hn ρ' τ' h' a' w'
theorem cOps_get {ops : Array Oper} : ∀ {l : List Oper} {al : List AOpD}, cOps P ops l = some al → al.length = l.length ∧ ∀ (j : Nat) (o : Oper), l[j]? = some o → ∃ ao, al[j]? = some ao ∧ cOD P ops o = some ao
  | [], al, e => by simp [cOps] at e; subst e; simp
  | o :: l, al, e => by
    unfold cOps at e
    split at e
    · rename_i x y hx hy
      cases e
      obtain ⟨h1, h2⟩ := cOps_get hy
      refine ⟨by simp [h1], fun j o' hj => ?_⟩
      cases j with
      | zero => simp at hj; subst hj; exact ⟨x, rfl, hx⟩
      | succ j => simpa using h2 j o' (by simpa using hj)
    · cases e
theorem awOps_sound (L : Option Nat) {ops : Array Oper} {al : List AOpD} (hc : cOps P ops ops.toList = some al) {K : AFr → AHeap → Prop} {Q : Exit → Act → World → Prop} {ρ₀ : Rho} {h₀ : AHeap} {w₀ : World} (hq : ∀ ρ' τ' h' a' w', K τ' h' → Rel P ρ' τ' h' a' w' → Step ρ₀ h₀ w₀ ρ' h' w' → Hstay h₀ h' → Q .normal a' w') :
    ∀ (n k : Nat), n + k = ops.size → ∀ (ρ : Rho) (τ : AFr) (h : AHeap) (a : Act) (w : World), Rel P ρ τ h a w → Step ρ₀ h₀ w₀ ρ h w → Hstay h₀ h → awOps P ((al.drop k).map fun (o : AOpD) => { o with after := [] }) K τ h → wpOpsIn (fence L) 0 P ops Q (List.range' k n) a w := by
  obtain ⟨hlen, hget⟩ := cOps_get hc
  have hlen : al.length = ops.size := by simpa using hlen
  intro n
  induction n with
  | zero =>
    intro k hk ρ τ h a w r st sd H
    rw [List.drop_eq_nil_of_le (by omega)] at H
    exact hq ρ τ h a w H r st sd
  | succ n ih =>
    intro k hk ρ τ h a w r st sd H
    have hkl : k < ops.size := by omega
    obtain ⟨ao, e1, e2⟩ := hget k ops[k] (by simp [hkl])
    have : al.drop k = ao :: al.drop (k + 1) := by
      rw [List.drop_eq_getElem_cons (by omega)]
      congr 1
      rw [List.getElem?_eq_getElem (by omega)] at e1
      cases e1; rfl
    rw [this] at H
    simp only [List.range', wpOpsIn, Array.getElem?_eq_getElem hkl]
    simp only [List.map_cons] at H
    exact awO_sound r e2 L (K := awOps P ((al.drop (k + 1)).map fun (o : AOpD) => { o with after := [] }) K) H fun ρ' τ' h' a' w' k' r' s' d' => ih (k + 1) (by omega) ρ' τ' h' a' w' r' (st.trans s') (sd.trans d') k'
end Go.Av

/- Words that name no object from a place on; blocks held back. -/
set_option linter.unusedVariables false
set_option linter.unusedSimpArgs false
namespace Go.Av
open Go

/-- Words that name no object from n on. -/
inductive Bel (n : Nat) : AV → Prop
  | any : Bel n .any
  | int (k : IntKind) (i : Int) : Bel n (.int k i)
  | bool (b : Bool) : Bel n (.bool b)
  | str (s : ByteArray) : Bel n (.str s)
  | nilp : Bel n .nilp
  | rp (id ver idx off : Nat) (h : id < n) : Bel n (.rp id ver idx off)
  | cp (e : AV) (off : Nat) (h : ∀ u ∈ e.cells, Bel n u) : Bel n (.cp e off)
  | sl (t : Bool) (xs : List AV) (h : ∀ u ∈ flat xs, Bel n u) : Bel n (.sl t xs)
  | rf (id ver idx len : Nat) (h : id < n) : Bel n (.rf id ver idx len)
  | mp (id : Nat) (h : id < n) : Bel n (.mp id)
  | nilmap : Bel n .nilmap
  | fn (f : Fn) (a b : List AV) (h1 : ∀ u ∈ a, Bel n u) (h2 : ∀ u ∈ b, Bel n u) : Bel n (.fn f a b)
  | yld (id : Nat) (h : id < n) : Bel n (.yld id)
  | nilfn : Bel n .nilfn
  | anyb : Bel n .anyb
  | agg (cs : List AV) (h : ∀ u ∈ cs, Bel n u) : Bel n (.agg cs)
  | tup (cs : List AV) (h : ∀ u ∈ cs, Bel n u) : Bel n (.tup cs)
def OBel (n : Nat) : AObj → Prop
  | .row _ _ es => ∀ u ∈ flat es, Bel n u
  | .map es => ∀ p ∈ es, Bel n p.1 ∧ Bel n p.2
  | .loop L => (∀ i, Bel n (alook L.slots i)) ∧ L.dfr < n
  | _ => True
/-- The objects of h name objects of h alone. -/
def HB (h : AHeap) : Prop := ∀ (i : Nat) (o : AObj), h[i]? = some o → OBel h.length o
variable {P : Program} {ρ : Rho} {h : AHeap} {w : World} {τ : AFr} {a : Act}
theorem VR.bel {x : AV} {v : Value} (hv : VR ρ h w x v) : Bel h.length x := by
  have mem : ∀ {l : List AV} {p : AV → Prop}, (∀ (j : Nat) (u : AV), l[j]? = some u → p u) → ∀ u ∈ l, p u := fun hl u hu => by
    obtain ⟨j, hj⟩ := List.mem_iff_getElem?.1 hu
    exact hl j u hj
  induction hv with
  | any v => exact .any
  | int k n => exact .int k n
  | bool b => exact .bool b
  | str s => exact .str s
  | nilp => exact .nilp
  | rp id ver idx off a hid hc => exact .rp id ver idx off hid
  | cp e off b o vals hs hc hv ih => exact .cp e off (mem ih)
  | sl tight xs A c sz vals hsz ha hv hc ht ih => exact .sl tight xs (mem ih)
  | rf id ver idx len A c hid hl hc => exact .rf id ver idx len hid
  | mp id r hid hc => exact .mp id hid
  | nilmap => exact .nilmap
  | fn f first captured fv cv h1 h2 hf hc ih1 ih2 => exact .fn f _ _ (mem ih1) (mem ih2)
  | yld id l hid hc => exact .yld id hid
  | nilfn => exact .nilfn
  | anyb b => exact .anyb
  | agg cs vals hl hv ih => exact .agg _ (mem ih)
  | tup vs vals hl hv ih => exact .tup _ (mem ih)
theorem HR.bel (hh : HR P ρ h w) : HB h := by
  intro i o ho
  have := hh.obj i o ho
  cases o with
  | row ver sz es =>
    obtain ⟨cs, e, _, _, _, _, h4⟩ := this
    intro u hu
    obtain ⟨j, hj⟩ := List.mem_iff_getElem?.1 hu
    obtain ⟨v, _, hv⟩ := h4 j u hj
    exact hv.bel
  | map es =>
    obtain ⟨cs, e, _, _, h4⟩ := this
    rintro ⟨k, u⟩ hu
    obtain ⟨j, hj⟩ := List.mem_iff_getElem?.1 hu
    obtain ⟨_, h1, h2⟩ := h4 j k u hj
    exact ⟨h1.bel, h2.bel⟩
  | loop L =>
    obtain ⟨fn, tmps, x, y, _, _, _, _, h4, h5⟩ := this
    exact ⟨fun i => (h4 i).bel, getElem?_lt h5⟩
  | dfr => trivial
  | dead => trivial
theorem Still.drop {l : AHeap} {b : Nat} (s : Still ρ (h ++ l) w b) : Still ρ h w b :=
  ⟨s.lt, fun hx => s.free (hx.imp (fun ⟨i, o, hi, hl, e⟩ => ⟨i, o, by rw [List.getElem?_append_left (getElem?_lt hi)]; exact hi, hl, e⟩) id)⟩
theorem VR.drop {l : AHeap} {x : AV} {v : Value} (hv : VR ρ (h ++ l) w x v) (hb : Bel h.length x) : VR ρ h w x v := by
  have at' : ∀ {i : Nat} {o : AObj}, h[i]? = some o → (h ++ l)[i]? = some o := fun {i o} hi => by rw [List.getElem?_append_left (getElem?_lt hi)]; exact hi
  have mem : ∀ {l : List AV} {j : Nat} {u : AV}, l[j]? = some u → u ∈ l := fun hj => List.mem_of_getElem? hj
  induction hv with
  | any v => exact .any v
  | int k n => exact .int k n
  | bool b => exact .bool b
  | str s => exact .str s
  | nilp => exact .nilp
  | rp id ver idx off a hid hc => cases hb with | rp _ _ _ _ hb => exact .rp id ver idx off a hb fun k sz es he => hc k sz es (at' he)
  | cp e off b o vals hs hc hv ih => cases hb with | cp _ _ hb => exact .cp e off b o vals hs.drop hc fun j u hj => ih j u hj (hb u (mem hj))
  | sl tight xs A c sz vals hsz ha hv hc ht ih =>
    cases hb with
    | sl _ _ hb =>
      refine .sl tight xs A c sz vals hsz (fun hx => ?_) (fun j u hj => ih j u hj (hb u (mem hj))) hc ht
      obtain ⟨b, o, e1, e2, e3⟩ := ha hx
      exact ⟨b, o, e1, e2.drop, e3⟩
  | rf id ver idx len A c hid hl hc => cases hb with | rf _ _ _ _ hb => exact .rf id ver idx len A c hb hl fun k sz es he => hc k sz es (at' he)
  | mp id r hid hc => cases hb with | mp _ hb => exact .mp id r hb fun es he => hc es (at' he)
  | nilmap => exact .nilmap
  | fn f first captured fv cv h1 h2 hf hc ih1 ih2 => cases hb with | fn _ _ _ b1 b2 => exact .fn f _ _ fv cv h1 h2 (fun j u hj => ih1 j u hj (b1 u (mem hj))) (fun j u hj => ih2 j u hj (b2 u (mem hj)))
  | yld id l hid hc => cases hb with | yld _ hb => exact .yld id l hb fun L he => hc L (at' he)
  | nilfn => exact .nilfn
  | anyb b => exact .anyb b
  | agg cs vals hl hv ih => cases hb with | agg _ hb => exact .agg _ vals hl fun j u hj => ih j u hj (hb u (mem hj))
  | tup vs vals hl hv ih => cases hb with | tup _ hb => exact .tup _ vals hl fun j u hj => ih j u hj (hb u (mem hj))
theorem ObjR.drop {l : AHeap} {b : Nat} {o : AObj} (hr : ObjR P ρ (h ++ l) w b o) (hb : OBel h.length o) : ObjR P ρ h w b o := by
  cases o with
  | row ver sz es =>
    obtain ⟨cs, e, h0, h1, h2, h3, h4⟩ := hr
    exact ⟨cs, e, h0, h1, h2, h3, fun j u hj => by obtain ⟨v, e1, e2⟩ := h4 j u hj; exact ⟨v, e1, e2.drop (hb u (List.mem_of_getElem? hj))⟩⟩
  | map es =>
    obtain ⟨cs, e, h0, h1, h2⟩ := hr
    exact ⟨cs, e, h0, h1, fun j k u hj => by
      obtain ⟨e0, e1, e2⟩ := h2 j k u hj
      have := hb _ (List.mem_of_getElem? hj)
      exact ⟨e0, e1.drop this.1, e2.drop this.2⟩⟩
  | loop L =>
    obtain ⟨fn, tmps, x, y, h0, h1, h2, h3, h4, h5⟩ := hr
    refine ⟨fn, tmps, x, y, h0, h1, h2, h3, fun i => (h4 i).drop (hb.1 i), ?_⟩
    rw [List.getElem?_append_left hb.2] at h5; exact h5
  | dfr => exact hr
  | dead => trivial
/-- Words with no memory behind them. -/
inductive Solid : AV → Prop
  | any : Solid .any
  | int (k : IntKind) (i : Int) : Solid (.int k i)
  | bool (b : Bool) : Solid (.bool b)
  | str (s : ByteArray) : Solid (.str s)
  | nilp : Solid .nilp
  | nilmap : Solid .nilmap
  | nilfn : Solid .nilfn
  | anyb : Solid .anyb
  | nilsl (t : Bool) : Solid (.sl t [])
  | agg (cs : List AV) (h : ∀ u ∈ cs, Solid u) : Solid (.agg cs)
  | tup (cs : List AV) (h : ∀ u ∈ cs, Solid u) : Solid (.tup cs)
theorem VR.solid {x : AV} {v : Value} (hv : VR ρ h w x v) (hx : Solid x) {ρ' : Rho} {h' : AHeap} {w' : World} : VR ρ' h' w' x v := by
  induction hv with
  | any v => exact .any v
  | int k n => exact .int k n
  | bool b => exact .bool b
  | str s => exact .str s
  | nilp => exact .nilp
  | sl tight xs A c sz vals hsz ha hv hc ht ih => cases hx; exact .sl tight [] A c sz vals hsz (by simp) (by simp [flat]) hc ht
  | nilmap => exact .nilmap
  | nilfn => exact .nilfn
  | anyb b => exact .anyb b
  | agg cs vals hl hv ih => cases hx with | agg _ hb => exact .agg _ vals hl fun j u hj => ih j u hj (hb u (List.mem_of_getElem? hj))
  | tup vs vals hl hv ih => cases hx with | tup _ hb => exact .tup _ vals hl fun j u hj => ih j u hj (hb u (List.mem_of_getElem? hj))
  | _ => cases hx

/-! ### Blocks held back -/
theorem VR.dropR {ρ' : Rho} {l : AHeap} (hf : ∀ i, i < h.length → ρ' i = ρ i) (hS : ∀ b, Still ρ (h ++ l) w b → Still ρ' h w b) {x : AV} {v : Value} (hv : VR ρ (h ++ l) w x v) (hb : Bel h.length x) : VR ρ' h w x v := by
  have at' : ∀ {i : Nat} {o : AObj}, h[i]? = some o → (h ++ l)[i]? = some o := fun {i o} hi => by rw [List.getElem?_append_left (getElem?_lt hi)]; exact hi
  have mem : ∀ {l : List AV} {j : Nat} {u : AV}, l[j]? = some u → u ∈ l := fun hj => List.mem_of_getElem? hj
  induction hv with
  | any v => exact .any v
  | int k n => exact .int k n
  | bool b => exact .bool b
  | str s => exact .str s
  | nilp => exact .nilp
  | rp id ver idx off a hid hc => cases hb with | rp _ _ _ _ hb => exact .rp id ver idx off a hb fun k sz es he => by rw [hf id hb]; exact hc k sz es (at' he)
  | cp e off b o vals hs hc hv ih => cases hb with | cp _ _ hb => exact .cp e off b o vals (hS _ hs) hc fun j u hj => ih j u hj (hb u (mem hj))
  | sl tight xs A c sz vals hsz ha hv hc ht ih =>
    cases hb with
    | sl _ _ hb =>
      refine .sl tight xs A c sz vals hsz (fun hx => ?_) (fun j u hj => ih j u hj (hb u (mem hj))) hc ht
      obtain ⟨b, o, e1, e2, e3⟩ := ha hx
      exact ⟨b, o, e1, hS _ e2, e3⟩
  | rf id ver idx len A c hid hl hc => cases hb with | rf _ _ _ _ hb => exact .rf id ver idx len A c hb hl fun k sz es he => by rw [hf id hb]; exact hc k sz es (at' he)
  | mp id r hid hc => cases hb with | mp _ hb => exact .mp id r hb fun es he => by rw [hf id hb]; exact hc es (at' he)
  | nilmap => exact .nilmap
  | fn f first captured fv cv h1 h2 hf hc ih1 ih2 => cases hb with | fn _ _ _ b1 b2 => exact .fn f _ _ fv cv h1 h2 (fun j u hj => ih1 j u hj (b1 u (mem hj))) (fun j u hj => ih2 j u hj (b2 u (mem hj)))
  | yld id l hid hc => cases hb with | yld _ hb => exact .yld id l hb fun L he => by rw [hf id hb]; exact hc L (at' he)
  | nilfn => exact .nilfn
  | anyb b => exact .anyb b
  | agg cs vals hl hv ih => cases hb with | agg _ hb => exact .agg _ vals hl fun j u hj => ih j u hj (hb u (mem hj))
  | tup vs vals hl hv ih => cases hb with | tup _ hb => exact .tup _ vals hl fun j u hj => ih j u hj (hb u (mem hj))
theorem ObjR.dropR {ρ' : Rho} {l : AHeap} (hf : ∀ i, i < h.length → ρ' i = ρ i) (hS : ∀ b, Still ρ (h ++ l) w b → Still ρ' h w b) {b : Nat} {o : AObj} (hr : ObjR P ρ (h ++ l) w b o) (hb : OBel h.length o) : ObjR P ρ' h w b o := by
  cases o with
  | row ver sz es =>
    obtain ⟨cs, e, h0, h1, h2, h3, h4⟩ := hr
    exact ⟨cs, e, h0, h1, h2, h3, fun j u hj => by obtain ⟨v, e1, e2⟩ := h4 j u hj; exact ⟨v, e1, e2.dropR hf hS (hb u (List.mem_of_getElem? hj))⟩⟩
  | map es =>
    obtain ⟨cs, e, h0, h1, h2⟩ := hr
    exact ⟨cs, e, h0, h1, fun j k u hj => by
      obtain ⟨e0, e1, e2⟩ := h2 j k u hj
      have := hb _ (List.mem_of_getElem? hj)
      exact ⟨e0, e1.dropR hf hS this.1, e2.dropR hf hS this.2⟩⟩
  | loop L =>
    obtain ⟨fn, tmps, x, y, h0, h1, h2, h3, h4, h5⟩ := hr
    refine ⟨fn, tmps, x, y, ?_, h1, h2, h3, fun i => (h4 i).dropR hf hS (hb.1 i), ?_⟩
    · rw [hf _ hb.2]; exact h0
    · rw [List.getElem?_append_left hb.2] at h5; exact h5
  | dfr => exact hr
  | dead => trivial
theorem VR.addR {ρ' : Rho} {l : AHeap} (hf : ∀ i, i < h.length → ρ' i = ρ i) (hS : ∀ b, Still ρ h w b → Still ρ' (h ++ l) w b) {x : AV} {v : Value} (hv : VR ρ h w x v) : VR ρ' (h ++ l) w x v := by
  have lt' : ∀ {i : Nat}, i < h.length → i < (h ++ l).length := fun {i} hi => by rw [List.length_append]; omega
  have at' : ∀ {i : Nat} {o : AObj}, i < h.length → (h ++ l)[i]? = some o → h[i]? = some o := fun {i o} hi he => by rw [List.getElem?_append_left hi] at he; exact he
  induction hv with
  | any v => exact .any v
  | int k n => exact .int k n
  | bool b => exact .bool b
  | str s => exact .str s
  | nilp => exact .nilp
  | rp id ver idx off a hid hc => exact .rp id ver idx off a (lt' hid) fun k sz es he => by rw [hf id hid]; exact hc k sz es (at' hid he)
  | cp e off b o vals hs hc hv ih => exact .cp e off b o vals (hS _ hs) hc ih
  | sl tight xs A c sz vals hsz ha hv hc ht ih =>
    refine .sl tight xs A c sz vals hsz (fun hx => ?_) ih hc ht
    obtain ⟨b, o, e1, e2, e3⟩ := ha hx
    exact ⟨b, o, e1, hS _ e2, e3⟩
  | rf id ver idx len A c hid hl hc => exact .rf id ver idx len A c (lt' hid) hl fun k sz es he => by rw [hf id hid]; exact hc k sz es (at' hid he)
  | mp id r hid hc => exact .mp id r (lt' hid) fun es he => by rw [hf id hid]; exact hc es (at' hid he)
  | nilmap => exact .nilmap
  | fn f first captured fv cv h1 h2 hf hc ih1 ih2 => exact .fn f _ _ fv cv h1 h2 ih1 ih2
  | yld id l hid hc => exact .yld id l (lt' hid) fun L he => by rw [hf id hid]; exact hc L (at' hid he)
  | nilfn => exact .nilfn
  | anyb b => exact .anyb b
  | agg cs vals hl hv ih => exact .agg _ vals hl ih
  | tup vs vals hl hv ih => exact .tup _ vals hl ih
theorem ObjR.addR {ρ' : Rho} {l : AHeap} (hf : ∀ i, i < h.length → ρ' i = ρ i) (hS : ∀ b, Still ρ h w b → Still ρ' (h ++ l) w b) {b : Nat} {o : AObj} (hr : ObjR P ρ h w b o) : ObjR P ρ' (h ++ l) w b o := by
  cases o with
  | row ver sz es =>
    obtain ⟨cs, e, h0, h1, h2, h3, h4⟩ := hr
    exact ⟨cs, e, h0, h1, h2, h3, fun j u hj => by obtain ⟨v, e1, e2⟩ := h4 j u hj; exact ⟨v, e1, e2.addR hf hS⟩⟩
  | map es =>
    obtain ⟨cs, e, h0, h1, h2⟩ := hr
    exact ⟨cs, e, h0, h1, fun j k u hj => by
      obtain ⟨e0, e1, e2⟩ := h2 j k u hj
      exact ⟨e0, e1.addR hf hS, e2.addR hf hS⟩⟩
  | loop L =>
    obtain ⟨fn, tmps, x, y, h0, h1, h2, h3, h4, h5⟩ := hr
    have hlt := getElem?_lt h5
    refine ⟨fn, tmps, x, y, ?_, h1, h2, h3, fun i => (h4 i).addR hf hS, ?_⟩
    · rw [hf _ hlt]; exact h0
    · rw [List.getElem?_append_left hlt]; exact h5
  | dfr => exact hr
  | dead => trivial
/-- A block that lies as a fresh variable of that value would. -/
def Kept (w : World) (b : Nat) (z : AV) : Prop := ∃ (cs : Array Value) (elem : TypeId), w.heap[b]? = some (.cells cs elem (0, 0)) ∧ 1 * z.cells.length ≤ cs.size ∧ okC z.cells = true ∧ ∀ (j : Nat) (u : AV), z.cells[j]? = some u → ∃ v, cs[j]? = some v ∧ ∀ ρ h w', VR ρ h w' u v
theorem Kept.of {b : Nat} {z : AV} (hz : ∀ u ∈ z.cells, Solid u) (hr : ObjR P ρ h w b (.row 0 z.cells.length [z])) : Kept w b z := by
  obtain ⟨cs, e, h0, h1, h2, h3, h4⟩ := hr
  refine ⟨cs, e, h0, h2, h3 z (by simp), fun j u hj => ?_⟩
  obtain ⟨v, e1, e2⟩ := h4 j u (by simpa [flat] using hj)
  exact ⟨v, e1, fun ρ h w' => e2.solid (hz u (List.mem_of_getElem? hj))⟩
theorem Kept.row {b : Nat} {z : AV} (k : Kept w b z) : ObjR P ρ h w b (.row 0 z.cells.length [z]) := by
  obtain ⟨cs, e, h0, h2, h3, h4⟩ := k
  refine ⟨cs, e, h0, by simp, h2, by simpa using h3, fun j u hj => ?_⟩
  obtain ⟨v, e1, e2⟩ := h4 j u (by simpa [flat] using hj)
  exact ⟨v, e1, e2 _ _ _⟩
theorem Kept.step {b : Nat} {z : AV} (k : Kept w b z) {w' : World} (e : w'.heap[b]? = w.heap[b]?) : Kept w' b z := by
  obtain ⟨cs, t, h0, r⟩ := k
  exact ⟨cs, t, e.trans h0, r⟩
/-- What is held back besides X₀: nothing that there was at the start. -/
structure Held (ρ₀ : Rho) (w₀ : World) (ρ : Rho) : Prop where
  sub : ∀ b, ρ₀.X b → ρ.X b
  new : ∀ b, ρ.X b → ρ₀.X b ∨ w₀.heap.size ≤ b
def Rho.as (ρ ρ₀ : Rho) : Rho := ⟨ρ.f, ρ₀.X⟩
theorem Step.held {ρ₀ ρ' : Rho} {h₀ h' : AHeap} {w₀ w' : World} (st : Step ρ₀ h₀ w₀ (ρ.as ρ₀) h w) (hd : Held ρ₀ w₀ ρ) (s : Step ρ h w ρ' h' w') : Step ρ₀ h₀ w₀ (ρ'.as ρ₀) h' w' := by
  refine ⟨Nat.le_trans st.len s.len, fun i o'' h2 hl hi => ?_, fun b hb => ?_, Nat.le_trans st.size s.size, s.os.trans st.os, s.tape.trans st.tape, s.output.trans st.output, rfl, fun b hb => (s.kx b (hd.sub b hb)).trans (st.kx b hb)⟩
  · obtain ⟨o', h1, t1, s1, k1⟩ := s.keep i o'' h2 hl (Nat.lt_of_lt_of_le hi st.len)
    obtain ⟨o, h0, t0, s0, k0⟩ := st.keep i o' h1 (AObj.to_live t1) hi
    refine ⟨o, h0, AObj.to_trans t0 t1, AObj.same_trans t0 t1 s0 s1, ?_⟩
    intro hs
    have e := AObj.stay_mid t0 t1 hs
    obtain ⟨r0, z0⟩ := k0 e.1
    obtain ⟨r1, z1⟩ := k1 e.2
    have r0' : ρ i = ρ₀ i := r0
    refine ⟨r1.trans r0', ?_⟩
    rw [r0'] at z1
    exact z1.trans z0
  · obtain ⟨e1, s1⟩ := st.free b hb
    have hx : ¬ ρ.X b := fun hx => (hd.new b hx).elim (fun hx => hb.free (.inr hx)) fun hge => by have := hb.lt; omega
    obtain ⟨e2, s2⟩ := s.free b ⟨s1.lt, fun ho => ho.elim (fun ho => s1.free (.inl ho)) hx⟩
    exact ⟨e2.trans e1, s2.lt, fun ho => ho.elim (fun ho => s2.free (.inl ho)) fun hx0 => hb.free (.inr hx0)⟩
/-- An object at the end is held back. -/
theorem Rel.disown {ρ' : Rho} {a' : Act} {w' : World} {d : Nat} {z : AV} (r : Rel P ρ τ h a w) (r' : Rel P ρ' (τ.put (some d) (.rp h.length 0 0 0)) (h ++ [.row 0 z.cells.length [z]]) a' w') :
    Rel P ⟨ρ'.f, fun c => ρ'.X c ∨ c = ρ' h.length⟩ (τ.put (some d) .any) h a' w' := by
  have hlast : (h ++ [AObj.row 0 z.cells.length [z]])[h.length]? = some (.row 0 z.cells.length [z]) := push_last h _
  have at' : ∀ {i : Nat} {o : AObj}, h[i]? = some o → (h ++ [AObj.row 0 z.cells.length [z]])[i]? = some o := fun {i o} hi => by rw [List.getElem?_append_left (getElem?_lt hi)]; exact hi
  have hS : ∀ b, Still ρ' (h ++ [.row 0 z.cells.length [z]]) w' b → Still ⟨ρ'.f, fun c => ρ'.X c ∨ c = ρ' h.length⟩ h w' b := by
    intro b hb
    refine ⟨hb.lt, ?_⟩
    rintro (⟨i, o, hi, hl, e⟩ | hx | rfl)
    · exact hb.free (.inl ⟨i, o, at' hi, hl, e⟩)
    · exact hb.free (.inr hx)
    · exact hb.free (.inl ⟨_, _, hlast, rfl, rfl⟩)
  refine ⟨⟨fun i o hi => ObjR.dropR (ρ := ρ') (ρ' := ⟨ρ'.f, fun c => ρ'.X c ∨ c = ρ' h.length⟩) (fun _ _ => rfl) hS (r'.heap.obj i o (at' hi)) (r.heap.bel i o hi), fun i j o p hi hj => r'.heap.inj i j o p (at' hi) (at' hj), fun i o hi hl => ?_, fun b hb => ?_⟩, r'.n, fun u => ?_, r'.dfr, r.dfrs⟩
  · rintro (hx | hx)
    · exact r'.heap.xo i o (at' hi) hl hx
    · have := r'.heap.inj i h.length o _ (at' hi) hlast hl rfl hx
      have := getElem?_lt hi
      omega
  · rcases hb with hx | rfl
    · exact r'.heap.xl b hx
    · exact (r'.heap.obj _ _ hlast).lt rfl
  · have h1 := r'.slot u
    simp only [AFr.put, alook] at h1 ⊢
    by_cases e : u = d
    · rw [if_pos e]; exact .any _
    · rw [if_neg e] at h1 ⊢
      exact VR.dropR (ρ := ρ') (ρ' := ⟨ρ'.f, fun c => ρ'.X c ∨ c = ρ' h.length⟩) (fun _ _ => rfl) hS h1 (r.slot u).bel
/-- A block held back becomes the last object. -/
theorem Rel.adopt {d b : Nat} {z : AV} (r : Rel P ρ τ h a w) (hx : ρ.X b) (k : Kept w b z) (hd : τ.inb (some d) = true) (hv : a.tmps.getD d undef = .pointer (some ⟨b, 0, none⟩)) :
    Rel P ⟨fun j => if j = h.length then b else ρ j, fun c => ρ.X c ∧ c ≠ b⟩ (τ.put (some d) (.rp h.length 0 0 0)) (h ++ [.row 0 z.cells.length [z]]) a w := by
  have hf : ∀ i, i < h.length → (⟨fun j => if j = h.length then b else ρ j, fun c => ρ.X c ∧ c ≠ b⟩ : Rho) i = ρ i := fun i hi => by
    show (if i = h.length then b else ρ i) = ρ i
    rw [if_neg (by omega)]
  have hn : (⟨fun j => if j = h.length then b else ρ j, fun c => ρ.X c ∧ c ≠ b⟩ : Rho) h.length = b := by
    show (if h.length = h.length then b else ρ h.length) = b
    rw [if_pos rfl]
  have get : ∀ {i : Nat} {o : AObj}, (h ++ [AObj.row 0 z.cells.length [z]])[i]? = some o → (i < h.length ∧ h[i]? = some o) ∨ (i = h.length ∧ o = .row 0 z.cells.length [z]) := by
    intro i o hi
    rcases Nat.lt_or_ge i h.length with c | c
    · rw [List.getElem?_append_left c] at hi; exact .inl ⟨c, hi⟩
    · have : i = h.length := by have := getElem?_lt hi; simp at this; omega
      subst this
      rw [push_last] at hi
      cases hi
      exact .inr ⟨rfl, rfl⟩
  have hS : ∀ c, Still ρ h w c → Still ⟨fun j => if j = h.length then b else ρ j, fun c => ρ.X c ∧ c ≠ b⟩ (h ++ [.row 0 z.cells.length [z]]) w c := by
    intro c hc
    refine ⟨hc.lt, ?_⟩
    rintro (⟨i, o, hi, hl, e⟩ | hx')
    · rcases get hi with ⟨h1, h2⟩ | ⟨rfl, rfl⟩
      · rw [hf i h1] at e; exact hc.free (.inl ⟨i, o, h2, hl, e⟩)
      · rw [hn] at e; subst e; exact hc.free (.inr hx)
    · exact hc.free (.inr hx'.1)
  refine ⟨⟨fun i o hi => ?_, fun i j o p hi hj hl hp e => ?_, fun i o hi hl => ?_, fun c hc => r.heap.xl c hc.1⟩, by have := r.n; simpa [AFr.put] using this, fun u => ?_, ?_, fun e he => ?_⟩
  · rcases get hi with ⟨h1, h2⟩ | ⟨rfl, rfl⟩
    · rw [hf i h1]; exact (r.heap.obj i o h2).addR hf hS
    · rw [hn]; exact k.row
  · rcases get hi with ⟨h1, h2⟩ | ⟨rfl, rfl⟩ <;> rcases get hj with ⟨h3, h4⟩ | ⟨rfl, rfl⟩
    · rw [hf i h1, hf j h3] at e; exact r.heap.inj i j o p h2 h4 hl hp e
    · rw [hf i h1, hn] at e; exact absurd (e ▸ hx) (r.heap.xo i o h2 hl)
    · rw [hf j h3, hn] at e; exact absurd (e ▸ hx) (r.heap.xo j p h4 hp)
    · rfl
  · rcases get hi with ⟨h1, h2⟩ | ⟨rfl, rfl⟩
    · rw [hf i h1]; exact fun hx' => r.heap.xo i o h2 hl hx'.1
    · rw [hn]; exact fun hx' => hx'.2 rfl
  · simp only [AFr.put, alook]
    by_cases e : u = d
    · subst e
      rw [if_pos rfl, hv]
      refine .rp _ _ _ _ _ (by simp) fun kk sz es he => ?_
      rw [push_last] at he
      cases he
      exact ⟨Nat.le_refl _, fun _ => by rw [hn]; simp⟩
    · rw [if_neg e]; exact (r.slot u).addR hf hS
  · rw [r.dfr]
    show τ.dfr.map _ = τ.dfr.map _
    refine List.map_congr_left fun e he => ?_
    rw [hf e (getElem?_lt (r.dfrs e he))]
  · rw [List.getElem?_append_left (getElem?_lt (r.dfrs e he))]; exact r.dfrs e he
theorem Step.disown {ρ₀ ρ' : Rho} {h₀ : AHeap} {w₀ w' : World} {o : AObj} (X : Nat → Prop) (hl : h₀.length ≤ h.length) (s : Step ρ₀ h₀ w₀ (ρ'.as ρ₀) (h ++ [o]) w') : Step ρ₀ h₀ w₀ ((⟨ρ'.f, X⟩ : Rho).as ρ₀) h w' := by
  refine ⟨hl, fun i o' hi hlv hlt => s.keep i o' (by rw [List.getElem?_append_left (by omega)]; exact hi) hlv hlt, fun b hb => ?_, s.size, s.os, s.tape, s.output, rfl, s.kx⟩
  obtain ⟨e1, e2⟩ := s.free b hb
  exact ⟨e1, e2.lt, fun ho => e2.free (ho.imp (fun ⟨i, p, hi, hlv, e⟩ => ⟨i, p, by rw [List.getElem?_append_left (getElem?_lt hi)]; exact hi, hlv, e⟩) id)⟩
theorem Step.adopt {ρ₀ : Rho} {h₀ : AHeap} {w₀ : World} {o : AObj} {b : Nat} (X : Nat → Prop) (hb : w₀.heap.size ≤ b) (s : Step ρ₀ h₀ w₀ (ρ.as ρ₀) h w) : Step ρ₀ h₀ w₀ ((⟨fun j => if j = h.length then b else ρ j, X⟩ : Rho).as ρ₀) (h ++ [o]) w := by
  refine ⟨by rw [List.length_append]; exact Nat.le_trans s.len (Nat.le_add_right _ _), fun i o' hi hlv hlt => ?_, fun c hc => ?_, s.size, s.os, s.tape, s.output, rfl, s.kx⟩
  · have hlt' := Nat.lt_of_lt_of_le hlt s.len
    rw [List.getElem?_append_left hlt'] at hi
    obtain ⟨o1, h1, t1, s1, k1⟩ := s.keep i o' hi hlv hlt
    refine ⟨o1, h1, t1, s1, fun hs => ⟨?_, (k1 hs).2⟩⟩
    show (if i = h.length then b else ρ i) = ρ₀ i
    rw [if_neg (by omega)]
    exact (k1 hs).1
  · obtain ⟨e1, e2⟩ := s.free c hc
    refine ⟨e1, e2.lt, ?_⟩
    rintro (⟨i, p, hi, hlv, e⟩ | hx)
    · have e' : (if i = h.length then b else ρ i) = c := e
      rcases Nat.lt_or_ge i h.length with q | q
      · rw [List.getElem?_append_left q] at hi
        rw [if_neg (by omega)] at e'
        exact e2.free (.inl ⟨i, p, hi, hlv, e'⟩)
      · have : i = h.length := by have := getElem?_lt hi; simp at this; omega
        rw [if_pos this] at e'
        have := hc.lt
        omega
    · exact e2.free (.inr hx)
/-- A new object lies in a new block. -/
theorem Step.freshLast {ρ' : Rho} {w' : World} {o : AObj} (hh : HR P ρ h w) (hh' : HR P ρ' (h ++ [o]) w') (s : Step ρ h w ρ' (h ++ [o]) w') (ho : o.live = true) : w.heap.size ≤ ρ' h.length := by
  have hlast : (h ++ [o])[h.length]? = some o := push_last h _
  rcases Nat.lt_or_ge (ρ' h.length) w.heap.size with c | c
  · exfalso
    by_cases hx : ρ.X (ρ' h.length)
    · exact hh'.xo _ _ hlast ho (by rw [s.x]; exact hx)
    · by_cases hown : ∃ i p, h[i]? = some p ∧ p.live = true ∧ ρ i = ρ' h.length
      · obtain ⟨i, p, hi, hp, e⟩ := hown
        have hlt := getElem?_lt hi
        have hi' : (h ++ [o])[i]? = some p := by rw [List.getElem?_append_left hlt]; exact hi
        obtain ⟨q, q1, q2, q3, q4⟩ := s.keep i p hi' hp hlt
        rw [hi] at q1; cases q1
        have hst : p.stay p := by cases p <;> simp [AObj.stay]
        have := hh'.inj i h.length p o hi' hlast hp ho (by rw [(q4 hst).1, e])
        omega
      · exact (s.free _ ⟨c, fun h => h.elim hown hx⟩).2.free (.inl ⟨_, _, hlast, ho, rfl⟩)
  · exact c
end Go.Av

/- A region that draws its order, in the short words. -/
set_option linter.unusedVariables false
set_option linter.unusedSimpArgs false
namespace Go.Av
open Go

def Opd.slots : Opd → List Nat
  | .t i => [i]
  | .c _ => []
def oslots : Option Opd → List Nat
  | none => []
  | some x => x.slots
def AOpr.slots : AOpr → List Nat
  | .mov x | .box x | .ld _ x | .nilchk x | .not x | .neg x | .conv _ x | .cbs x | .mksl _ _ _ x | .faddr _ x | .fld _ _ x | .ext x _ | .lenS x | .len x | .lenM x | .cap x | .eqn _ _ x => x.slots
  | .pick a b c | .mupd a b c | .mest a b c => a.slots ++ b.slots ++ c.slots
  | .alloc _ | .mkmap | .bad => []
  | .bld _ ps => ps.flatMap fun p => p.2.2.slots
  | .bsl _ xs | .mn xs | .mx xs | .callS _ xs => xs.flatMap Opd.slots
  | .st _ x y | .bin _ x y | .eqs _ _ x y | .eqb _ x y | .eqp _ x y | .iaddr _ x y | .iaddrA _ _ x y | .idxS x y | .idxA _ _ _ x y | .look _ _ x y | .ment _ x y | .appZ _ _ _ x y | .app _ _ x y => x.slots ++ y.slots
  | .mkfn _ xs ys => xs.flatMap Opd.slots ++ ys.flatMap Opd.slots
  | .slcS x lo hi => x.slots ++ oslots lo ++ oslots hi
  | .slc _ x lo hi m => x.slots ++ oslots lo ++ oslots hi ++ oslots m
  | .callV f xs => f.slots ++ xs.flatMap Opd.slots
def AOpD.uses (o : AOpD) : List Nat := o.op.slots ++ (match o.g with
  | none => []
  | some (d, _) => [d])
theorem ev_congr {s s' : List (Nat × AV)} {x : Opd} (h : ∀ u ∈ x.slots, alook s u = alook s' u) : ev s x = ev s' x := by
  cases x with
  | t i => exact h i (by simp [Opd.slots])
  | c v => rfl
theorem evs_congr {s s' : List (Nat × AV)} : ∀ {xs : List Opd}, (∀ u ∈ xs.flatMap Opd.slots, alook s u = alook s' u) → xs.map (ev s) = xs.map (ev s')
  | [], h => rfl
  | x :: xs, h => by
    simp only [List.map_cons]
    rw [ev_congr (x := x) fun u hu => h u (by simp [hu]), evs_congr (xs := xs) fun u hu => h u (by rw [List.flatMap_cons]; exact List.mem_append_right _ hu)]
theorem optInt_congr {s s' : List (Nat × AV)} {d : Int} {x : Option Opd} (h : ∀ u ∈ oslots x, alook s u = alook s' u) : optInt s d x = optInt s' d x := by
  cases x with
  | none => rfl
  | some x => simp only [optInt]; rw [ev_congr (x := x) h]
theorem astep_congr {s s' : List (Nat × AV)} {h : AHeap} {o : AOpr} (H : ∀ u ∈ o.slots, alook s u = alook s' u) : astep s h o = astep s' h o := by
  cases o <;> simp only [AOpr.slots, List.mem_append] at H
  case bld z ps =>
    simp only [astep]
    have : (ps.map fun p => (p.1, p.2.1, ev s p.2.2)) = ps.map fun p => (p.1, p.2.1, ev s' p.2.2) := by
      refine List.map_congr_left fun p hp => ?_
      rw [ev_congr (x := p.2.2) fun u hu => H u (List.mem_flatMap.2 ⟨p, hp, hu⟩)]
    rw [this]
  case bsl n xs => simp only [astep]; rw [evs_congr H]
  case mn xs => simp only [astep]; rw [evs_congr H]
  case mx xs => simp only [astep]; rw [evs_congr H]
  case callS f xs => simp only [astep]; rw [evs_congr H]
  case callV f xs => simp only [astep]; rw [ev_congr (x := f) fun u hu => H u (.inl hu), evs_congr fun u hu => H u (.inr hu)]
  case mkfn f xs ys => simp only [astep]; rw [evs_congr fun u hu => H u (.inl hu), evs_congr fun u hu => H u (.inr hu)]
  case slcS x lo hi =>
    simp only [astep]
    rw [ev_congr (x := x) fun u hu => H u (.inl (.inl hu))]
    simp only [optInt_congr (x := lo) (s := s) (s' := s') fun u hu => H u (.inl (.inr hu)), optInt_congr (x := hi) (s := s) (s' := s') fun u hu => H u (.inr hu)]
  case slc n x lo hi m =>
    simp only [astep, aslc]
    rw [ev_congr (x := x) fun u hu => H u (.inl (.inl (.inl hu)))]
    simp only [optInt_congr (x := lo) (s := s) (s' := s') fun u hu => H u (.inl (.inl (.inr hu))), optInt_congr (x := hi) (s := s) (s' := s') fun u hu => H u (.inl (.inr hu))]
    cases m with
    | none => rfl
    | some m => simp only [ev_congr (x := m) (s := s) (s' := s') fun u hu => H u (.inr hu)]
  case pick a b c => simp only [astep]; rw [ev_congr (x := a) fun u hu => H u (.inl (.inl hu)), ev_congr (x := b) fun u hu => H u (.inl (.inr hu)), ev_congr (x := c) fun u hu => H u (.inr hu)]
  case mupd a b c => simp only [astep]; rw [ev_congr (x := a) fun u hu => H u (.inl (.inl hu)), ev_congr (x := b) fun u hu => H u (.inl (.inr hu)), ev_congr (x := c) fun u hu => H u (.inr hu)]
  case mest a b c => simp only [astep]; rw [ev_congr (x := a) fun u hu => H u (.inl (.inl hu)), ev_congr (x := b) fun u hu => H u (.inl (.inr hu)), ev_congr (x := c) fun u hu => H u (.inr hu)]
  all_goals first
    | rfl
    | (simp only [astep]; rw [ev_congr H])
    | (simp only [astep]; rw [ev_congr fun u hu => H u (.inl hu), ev_congr fun u hu => H u (.inr hu)])
section
variable (P : Program)
def awG (o : AOpD) (K : AV → AHeap → Prop) (s : List (Nat × AV)) (h : AHeap) : Prop :=
  match o.g with
  | none => awOp P o.op s h K
  | some (d, b) => match alook s d with
    | .bool t => (t = b → awOp P o.op s h K) ∧ (t ≠ b → K (.tup []) h)
    | .tup [] => K (.tup []) h
    | _ => False
theorem awO_iff (o : AOpD) (K : AFr → AHeap → Prop) (τ : AFr) (h : AHeap) : awO P o K τ h ↔ (τ.inb o.dst = true ∧ awG P o (fun x h' => K (τ.put o.dst x) h') τ.s h) := Iff.rfl
def awR (o : AOpD) (s : List (Nat × AV)) (h : AHeap) (x : AV) (h' : AHeap) : Prop := awG P o (fun y h'' => y = x ∧ h'' = h') s h
def awQ (h : AHeap) : List AOpD → (AFr → Prop) → AFr → Prop
  | [], K, τ => K τ
  | o :: r, K, τ => τ.inb o.dst = true ∧ awG P o (fun x h' => h' = h ∧ awQ h r K (τ.put o.dst x)) τ.s h
def awL (loud : List Nat) (iv : List (Nat × Nat)) (hs : Nat → AHeap) : Nat → List AOpD → (AFr → Prop) → AFr → Prop
  | _, [], K, τ => K τ
  | i, o :: r, K, τ => τ.inb o.dst = true ∧ ∃ x, (if loud.contains i = true then awR P o τ.s (hs (iv.getD i (0, 0)).1) x (hs ((iv.getD i (0, 0)).1 + 1)) else ∀ k, (iv.getD i (0, 0)).1 ≤ k → k ≤ (iv.getD i (0, 0)).2 → awR P o τ.s (hs k) x (hs k)) ∧ awL loud iv hs (i + 1) r K (τ.put o.dst x)
end
def masks : List AOpD → List Nat → List Nat
  | [], acc => acc
  | o :: r, acc => masks r (acc ++ [o.after.foldl (fun s e => s ||| 2 ^ e ||| acc.getD e 0) 0])
def drawOK (al : List AOpD) (M : List Nat) (loud : List Nat) (iv : List (Nat × Nat)) : Bool :=
  decide (masks al [] = M) &&
  (List.range al.length).all (fun i => (al.getD i default).after.all (fun e => decide (e < i)) &&
    (List.range al.length).all (fun j => (decide (i = j) || match (al.getD j default).dst with
      | none => true
      | some u => decide ((al.getD i default).dst ≠ some u)) &&
      (match (al.getD j default).dst with
      | none => true
      | some u => !((al.getD i default).uses.contains u) || (M.getD i 0).testBit j || (M.getD j 0).testBit i)) &&
    decide ((iv.getD i (0, 0)).1 ≤ loud.length) && (List.range loud.length).all (fun q => (!(decide (q < (iv.getD i (0, 0)).1)) || (M.getD i 0).testBit (loud.getD q 0)) &&
      (!(decide ((iv.getD i (0, 0)).2 ≤ q)) || decide (i = loud.getD q 0) || (M.getD (loud.getD q 0) 0).testBit i))) &&
  (List.range loud.length).all (fun q => decide (loud.getD q 0 < al.length) && decide (iv.getD (loud.getD q 0) (0, 0) = (q, q)))
def solC : AV → Bool
  | .int _ _ | .bool _ | .str _ | .nilp | .nilmap | .nilfn | .sl _ [] => true
  | _ => false
def floatB (o : AOpD) : Bool := match o with
  | ⟨some _, none, .alloc z, _⟩ => z.cells.all solC
  | _ => false
def drawOKF (al : List AOpD) (M : List Nat) (loud : List Nat) (iv : List (Nat × Nat)) (fl : List Nat) : Bool :=
  decide (masks al [] = M) &&
  (List.range al.length).all (fun i => (al.getD i default).after.all (fun e => decide (e < i)) &&
    (List.range al.length).all (fun j => (decide (i = j) || match (al.getD j default).dst with
      | none => true
      | some u => decide ((al.getD i default).dst ≠ some u)) &&
      (match (al.getD j default).dst with
      | none => true
      | some u => !((al.getD i default).uses.contains u) || (M.getD i 0).testBit j || (M.getD j 0).testBit i)) &&
    decide ((iv.getD i (0, 0)).1 ≤ loud.length) && (List.range loud.length).all (fun q => (!(decide (q < (iv.getD i (0, 0)).1)) || fl.contains i || (M.getD i 0).testBit (loud.getD q 0)) &&
      (!(decide ((iv.getD i (0, 0)).2 = q)) || decide (i = loud.getD q 0) || loud.contains i || (M.getD (loud.getD q 0) 0).testBit i) &&
      (!(fl.contains (loud.getD q 0)) || fl.contains i || !((M.getD i 0).testBit (loud.getD q 0)) || decide (q < (iv.getD i (0, 0)).1)))) &&
  (List.range loud.length).all (fun q => decide (loud.getD q 0 < al.length) && decide (iv.getD (loud.getD q 0) (0, 0) = (q, q))) &&
  fl.all (fun i => loud.contains i && floatB (al.getD i default))
def awDraw (P : Program) (al : List AOpD) (K : AFr → AHeap → Prop) (τ : AFr) (h : AHeap) : Prop :=
  (∃ M, drawOK al M [] [] = true ∧ awQ P h al (fun τ => K τ h) τ) ∨
  (∃ M loud iv hs, drawOK al M loud iv = true ∧ hs 0 = h ∧ awL P loud iv hs 0 al (fun τ => K τ (hs loud.length)) τ) ∨
  ∃ M loud iv hs fl, drawOKF al M loud iv fl = true ∧ hs 0 = h ∧ awL P loud iv hs 0 al (fun τ => K τ (hs loud.length)) τ

variable {P : Program} {ρ : Rho} {h : AHeap} {w : World} {τ : AFr} {a : Act}
theorem awOp_elim {o : AOpr} {s : List (Nat × AV)} {K : AV → AHeap → Prop} (H : awOp P o s h K) : ∃ x h', awOp P o s h (fun y h'' => y = x ∧ h'' = h') ∧ K x h' := by
  unfold awOp at H ⊢
  cases hs : astep s h o with
  | v x h' => rw [hs] at H; exact ⟨x, h', ⟨rfl, rfl⟩, H⟩
  | skip h' => rw [hs] at H; exact ⟨_, h', ⟨rfl, rfl⟩, H⟩
  | call f args => rw [hs] at H; obtain ⟨x, h', c, k⟩ := H; exact ⟨x, h', ⟨x, h', c, rfl, rfl⟩, k⟩
  | yield id args => rw [hs] at H; obtain ⟨x, h', c, k⟩ := H; exact ⟨x, h', ⟨x, h', c, rfl, rfl⟩, k⟩
  | fail => rw [hs] at H; exact H.elim
theorem awG_elim {o : AOpD} {s : List (Nat × AV)} {K : AV → AHeap → Prop} (H : awG P o K s h) : ∃ x h', awR P o s h x h' ∧ K x h' := by
  unfold awR awG at *
  cases hg : o.g with
  | none => rw [hg] at H; exact awOp_elim H
  | some p =>
    obtain ⟨d, b⟩ := p
    rw [hg] at H
    dsimp only at H ⊢
    split at H
    · rename_i t ht
      by_cases e : t = b
      · obtain ⟨x, h', h1, h2⟩ := awOp_elim (H.1 e)
        exact ⟨x, h', ⟨fun _ => h1, fun n => absurd e n⟩, h2⟩
      · exact ⟨_, h, ⟨fun n => absurd n e, fun _ => ⟨rfl, rfl⟩⟩, H.2 e⟩
    · exact ⟨_, h, ⟨rfl, rfl⟩, H⟩
    · exact H.elim
theorem awOp_mono' {o : AOpr} {s s' : List (Nat × AV)} {K : AV → AHeap → Prop} (hs : ∀ u ∈ o.slots, alook s u = alook s' u) (H : awOp P o s h K) : awOp P o s' h K := by
  unfold awOp at *
  rw [← astep_congr hs]
  exact H
theorem awR_congr {o : AOpD} {s s' : List (Nat × AV)} {x : AV} {h' : AHeap} (hs : ∀ u ∈ o.uses, alook s u = alook s' u) (H : awR P o s h x h') : awR P o s' h x h' := by
  have h1 : ∀ u ∈ o.op.slots, alook s u = alook s' u := fun u hu => hs u (List.mem_append_left _ hu)
  unfold awR awG at *
  cases hg : o.g with
  | none => rw [hg] at H; exact awOp_mono' h1 H
  | some p =>
    obtain ⟨d, b⟩ := p
    rw [hg] at H
    dsimp only at H ⊢
    rw [← hs d (by unfold AOpD.uses; rw [hg]; simp)]
    split at H
    · exact ⟨fun e => awOp_mono' h1 (H.1 e), H.2⟩
    · exact H
    · exact H.elim
theorem awQ_awL (l : List AOpD) : ∀ (i : Nat) (K : AFr → Prop) (τ : AFr), awQ P h l K τ → awL P [] [] (fun _ => h) i l K τ := by
  induction l with
  | nil => exact fun i K τ H => H
  | cons o r ih =>
    intro i K τ H
    obtain ⟨h1, h2⟩ := H
    obtain ⟨x, h', e1, rfl, e2⟩ := awG_elim h2
    refine ⟨h1, x, ?_, ih (i + 1) K _ e2⟩
    simp only [List.contains_nil, Bool.false_eq_true, if_false]
    exact fun _ _ _ => e1

/-! ### Soundness -/
/-- The frame ahead of operation i, the operations taken in the order of the text. -/
def frN (τ : AFr) (al : List AOpD) (xs : List AV) : Nat → AFr
  | 0 => τ
  | i + 1 => (frN τ al xs i).put (al.getD i default).dst (xs.getD i .any)
theorem frN_cons (τ : AFr) (o : AOpD) (r : List AOpD) (x : AV) (xs : List AV) : ∀ i, frN τ (o :: r) (x :: xs) (i + 1) = frN (τ.put o.dst x) r xs i
  | 0 => rfl
  | i + 1 => by rw [frN, frN_cons τ o r x xs i, frN]; simp
structure DrawFacts (P : Program) (τ : AFr) (al : List AOpD) (loud : List Nat) (iv : List (Nat × Nat)) (hs : Nat → AHeap) (b : Nat) (xs : List AV) : Prop where
  inb : ∀ i o, al[i]? = some o → (frN τ al xs i).inb o.dst = true
  run : ∀ i o, al[i]? = some o → if loud.contains (b + i) = true then awR P o (frN τ al xs i).s (hs (iv.getD (b + i) (0, 0)).1) (xs.getD i .any) (hs ((iv.getD (b + i) (0, 0)).1 + 1)) else ∀ k, (iv.getD (b + i) (0, 0)).1 ≤ k → k ≤ (iv.getD (b + i) (0, 0)).2 → awR P o (frN τ al xs i).s (hs k) (xs.getD i .any) (hs k)
theorem awL_facts {loud : List Nat} {iv : List (Nat × Nat)} {hs : Nat → AHeap} {K : AFr → Prop} (al : List AOpD) : ∀ (b : Nat) (τ : AFr), awL P loud iv hs b al K τ → ∃ xs, xs.length = al.length ∧ DrawFacts P τ al loud iv hs b xs ∧ K (frN τ al xs al.length) := by
  induction al with
  | nil => exact fun b τ H => ⟨[], rfl, ⟨by simp, by simp⟩, H⟩
  | cons o r ih =>
    intro b τ H
    obtain ⟨h1, x, h2, h3⟩ := H
    obtain ⟨xs, e1, e2, e3⟩ := ih (b + 1) _ h3
    refine ⟨x :: xs, by simp [e1], ⟨fun i o' hi => ?_, fun i o' hi => ?_⟩, by rw [List.length_cons, frN_cons]; exact e3⟩
    · cases i with
      | zero => simp at hi; subst hi; exact h1
      | succ i => rw [frN_cons]; exact e2.inb i o' (by simpa using hi)
    · cases i with
      | zero => simp at hi; subst hi; exact h2
      | succ i =>
        rw [frN_cons]
        have := e2.run i o' (by simpa using hi)
        simpa only [Nat.add_assoc, Nat.add_comm 1 i, List.getD_cons_succ] using this
theorem frN_n (τ : AFr) (al : List AOpD) (xs : List AV) : ∀ i, (frN τ al xs i).n = τ.n ∧ (frN τ al xs i).dfr = τ.dfr
  | 0 => ⟨rfl, rfl⟩
  | i + 1 => by
    obtain ⟨h1, h2⟩ := frN_n τ al xs i
    simp only [frN, AFr.put]
    split <;> exact ⟨h1, h2⟩
/-- No two write one slot. -/
def Uniq (al : List AOpD) : Prop := ∀ (i j : Nat) (o p : AOpD) (u : Nat), al[i]? = some o → al[j]? = some p → o.dst = some u → p.dst = some u → i = j
theorem frN_look (τ : AFr) (al : List AOpD) (xs : List AV) (hu : Uniq al) : ∀ i, i ≤ al.length → ∀ u,
    (∀ j o, j < i → al[j]? = some o → o.dst = some u → alook (frN τ al xs i).s u = xs.getD j .any) ∧ ((∀ j o, j < i → al[j]? = some o → o.dst ≠ some u) → alook (frN τ al xs i).s u = alook τ.s u) := by
  intro i
  induction i with
  | zero => exact fun _ u => ⟨fun j o hj => absurd hj (Nat.not_lt_zero _), fun _ => rfl⟩
  | succ i ih =>
    intro hi u
    have hlt : i < al.length := by omega
    have hd : al.getD i default = al[i] := by simp [List.getD, hlt]
    have hg : al[i]? = some al[i] := List.getElem?_eq_getElem hlt
    obtain ⟨a1, a2⟩ := ih (by omega) u
    have key : alook (frN τ al xs (i + 1)).s u = if al[i].dst = some u then xs.getD i .any else alook (frN τ al xs i).s u := by
      simp only [frN, hd, AFr.put]
      cases hdst : al[i].dst with
      | none => simp
      | some d =>
        simp only [alook]
        by_cases e : u = d
        · subst e; simp
        · rw [if_neg e, if_neg (by simp; exact fun c => e c.symm)]
    rw [key]
    constructor
    · intro j o hj ho hdst
      by_cases e : j = i
      · subst e
        rw [hg] at ho; cases ho
        rw [if_pos hdst]
      · rw [if_neg (fun c => e (hu j i o _ u ho hg hdst c))]
        exact a1 j o (by omega) ho hdst
    · intro hn
      rw [if_neg (hn i _ (by omega) hg)]
      exact a2 fun j o hj => hn j o (by omega)
end Go.Av

/- A region that draws its order: the order does not matter. -/
set_option linter.unusedVariables false
set_option linter.unusedSimpArgs false
namespace Go.Av
open Go

theorem bits_fold (f : Nat → Nat) : ∀ (l : List Nat) (s j : Nat), (l.foldl (fun s e => s ||| 2 ^ e ||| f e) s).testBit j = true → s.testBit j = true ∨ ∃ e ∈ l, j = e ∨ (f e).testBit j = true
  | [], s, j, h => .inl h
  | e :: l, s, j, h => by
    rcases bits_fold f l _ j h with h1 | ⟨e', h1, h2⟩
    · simp only [Nat.testBit_or, Nat.testBit_two_pow, Bool.or_eq_true, decide_eq_true_eq] at h1
      rcases h1 with (h1 | h1) | h1
      · exact .inl h1
      · exact .inr ⟨e, by simp, .inl h1.symm⟩
      · exact .inr ⟨e, by simp, .inr h1⟩
    · exact .inr ⟨e', by simp [h1], h2⟩
theorem masks_spec : ∀ (al : List AOpD) (acc : List Nat), (∀ i, i < acc.length → (masks al acc).getD i 0 = acc.getD i 0) ∧
    ∀ i o, al[i]? = some o → (∀ e ∈ o.after, e < acc.length + i) → ∀ j, ((masks al acc).getD (acc.length + i) 0).testBit j = true → ∃ e ∈ o.after, j = e ∨ ((masks al acc).getD e 0).testBit j = true := by
  intro al
  induction al with
  | nil => exact fun acc => ⟨fun _ _ => rfl, by simp⟩
  | cons o r ih =>
    intro acc
    obtain ⟨x, hx⟩ : ∃ x, x = o.after.foldl (fun s e => s ||| 2 ^ e ||| acc.getD e 0) 0 := ⟨_, rfl⟩
    have hm : masks (o :: r) acc = masks r (acc ++ [x]) := by rw [masks, ← hx]
    obtain ⟨h1, h2⟩ := ih (acc ++ [x])
    rw [hm]
    have old : ∀ i, i < acc.length → (masks r (acc ++ [x])).getD i 0 = acc.getD i 0 := fun i hi => by
      rw [h1 i (by simp; omega)]; simp [List.getD, List.getElem?_append_left hi]
    refine ⟨old, fun i p hi hlt j hj => ?_⟩
    cases i with
    | zero =>
      simp at hi; subst hi
      rw [Nat.add_zero, h1 acc.length (by simp)] at hj
      have : (acc ++ [x]).getD acc.length 0 = x := by simp [List.getD]
      rw [this, hx] at hj
      rcases bits_fold _ _ _ _ hj with h | ⟨e, he, h⟩
      · simp at h
      · refine ⟨e, he, ?_⟩
        rw [old e (by have := hlt e he; omega)]
        exact h
    | succ i =>
      have e1 : acc.length + (i + 1) = (acc ++ [x]).length + i := by simp; omega
      rw [e1] at hj hlt
      exact h2 i p (by simpa using hi) hlt j hj

structure Sane (al : List AOpD) (M loud : List Nat) (iv : List (Nat × Nat)) : Prop where
  mask : masks al [] = M
  early : ∀ (i : Nat) (o : AOpD), al[i]? = some o → ∀ e ∈ o.after, e < i
  uniq : Uniq al
  rd : ∀ (i j : Nat) (o p : AOpD) (u : Nat), al[i]? = some o → al[j]? = some p → p.dst = some u → u ∈ o.uses → (M.getD i 0).testBit j = true ∨ (M.getD j 0).testBit i = true
  lon : ∀ i, i < al.length → (iv.getD i (0, 0)).1 ≤ loud.length
  lo : ∀ (i q l : Nat), i < al.length → loud[q]? = some l → q < (iv.getD i (0, 0)).1 → (M.getD i 0).testBit l = true
  hi : ∀ (i q l : Nat), i < al.length → loud[q]? = some l → (iv.getD i (0, 0)).2 ≤ q → i = l ∨ (M.getD l 0).testBit i = true
  loud : ∀ (q l : Nat), loud[q]? = some l → l < al.length ∧ iv.getD l (0, 0) = (q, q)
theorem Sane.of {al : List AOpD} {M loud : List Nat} {iv : List (Nat × Nat)} (h : drawOK al M loud iv = true) : Sane al M loud iv := by
  unfold drawOK at h
  simp only [Bool.and_eq_true, decide_eq_true_eq, List.all_eq_true, List.mem_range] at h
  obtain ⟨⟨h1, h2⟩, h3⟩ := h
  have lt : ∀ {i : Nat} {o : AOpD}, al[i]? = some o → i < al.length ∧ al.getD i default = o := fun {i o} hi => ⟨getElem?_lt hi, by simp [List.getD, hi]⟩
  have ll : ∀ {q l : Nat}, loud[q]? = some l → q < loud.length ∧ loud.getD q 0 = l := fun {q l} hq => ⟨getElem?_lt hq, by simp [List.getD, hq]⟩
  refine ⟨h1, ?_, ?_, ?_, fun i hi => (h2 i hi).1.2, ?_, ?_, ?_⟩
  · intro i o hi e he
    obtain ⟨a, b⟩ := lt hi
    have := (h2 i a).1.1.1
    rw [b] at this
    exact this e he
  · intro i j o p u hi hj ho hp
    obtain ⟨a, b⟩ := lt hi
    obtain ⟨c, d⟩ := lt hj
    have := ((h2 i a).1.1.2 j c).1
    rw [b, d, hp, ho] at this
    simpa using this
  · intro i j o p u hi hj hp hu
    obtain ⟨a, b⟩ := lt hi
    obtain ⟨c, d⟩ := lt hj
    have := ((h2 i a).1.1.2 j c).2
    rw [b, d, hp] at this
    simp only [Bool.or_eq_true, Bool.not_eq_true', List.contains_eq_mem, decide_eq_false_iff_not] at this
    rcases this with (h | h) | h
    · exact absurd hu h
    · exact .inl h
    · exact .inr h
  · intro i q l hi hq hlt
    obtain ⟨a, b⟩ := ll hq
    have := ((h2 i hi).2 q a).1
    rw [b, decide_eq_true hlt] at this
    simpa using this
  · intro i q l hi hq hle
    obtain ⟨a, b⟩ := ll hq
    have := ((h2 i hi).2 q a).2
    rw [b, decide_eq_true hle] at this
    simpa using this
  · intro q l hq
    obtain ⟨a, b⟩ := ll hq
    have := h3 q a
    rw [b] at this
    exact this
/-- A set of operations that holds what its operations come after. -/
def Down (al : List AOpD) (S : Nat → Prop) : Prop := ∀ (i : Nat) (o : AOpD), al[i]? = some o → S i → ∀ e ∈ o.after, S e
section
variable {al : List AOpD} {M loud : List Nat} {iv : List (Nat × Nat)}
theorem Sane.bit (s : Sane al M loud iv) {i : Nat} {o : AOpD} (hi : al[i]? = some o) {j : Nat} (hj : (M.getD i 0).testBit j = true) : ∃ e ∈ o.after, j = e ∨ (M.getD e 0).testBit j = true := by
  have := (masks_spec al []).2 i o hi (by simpa using s.early i o hi) j
  rw [s.mask] at this
  exact this (by simpa using hj)
theorem Sane.pred (s : Sane al M loud iv) {S : Nat → Prop} (hd : Down al S) : ∀ (i : Nat) (o : AOpD), al[i]? = some o → (∀ e ∈ o.after, S e) → ∀ j, (M.getD i 0).testBit j = true → S j ∧ j < i := by
  intro i
  induction i using Nat.strongRecOn with
  | _ i ih =>
    intro o hi hall j hj
    obtain ⟨e, he, h⟩ := s.bit hi hj
    have hlt := s.early i o hi e he
    rcases h with rfl | h
    · exact ⟨hall _ he, hlt⟩
    · have hel : e < al.length := by have := getElem?_lt hi; omega
      obtain ⟨h1, h2⟩ := ih e hlt _ (List.getElem?_eq_getElem hel) (hd e _ (List.getElem?_eq_getElem hel) (hall e he)) j h
      exact ⟨h1, by omega⟩
theorem Sane.succ (s : Sane al M loud iv) {i j : Nat} (hj : (M.getD j 0).testBit i = true) (hjl : j < al.length) : i < j := by
  have := s.pred (S := fun _ => True) (fun _ _ _ _ _ _ => trivial) j _ (List.getElem?_eq_getElem hjl) (fun _ _ => trivial) i hj
  exact this.2
end
def unlisted : List Bool → Nat
  | [] => 0
  | b :: r => (if b = true then 0 else 1) + unlisted r
theorem unlisted_set : ∀ (l : List Bool) (i : Nat), l[i]? = some false → unlisted (l.set i true) + 1 = unlisted l
  | [], i, h => by simp at h
  | b :: r, 0, h => by simp at h; subst h; simp [unlisted, Nat.add_comm]
  | b :: r, i + 1, h => by
    have := unlisted_set r i (by simpa using h)
    simp only [List.set_cons_succ, unlisted]
    omega
theorem unlisted_zero : ∀ (l : List Bool), unlisted l = 0 → ∀ i, l.getD i true = true
  | [], _, i => by simp
  | b :: r, h, i => by
    simp only [unlisted] at h
    cases b with
    | false => simp at h
    | true => cases i with
      | zero => rfl
      | succ i =>
        have := unlisted_zero r (by simpa using h) i
        simpa using this

variable {P : Program} {al : List AOpD} {M loud : List Nat} {iv : List (Nat × Nat)}
theorem awDraw_main (s : Sane al M loud iv) (L : Option Nat) {ops : Array Oper} (hc : cOps P ops ops.toList = some al) {hs : Nat → AHeap} {xs : List AV} {τ₀ : AFr} (f : DrawFacts P τ₀ al loud iv hs 0 xs)
    {Q : Exit → Act → World → Prop} {ρ₀ : Rho} {w₀ : World} (hq : ∀ ρ' a' w', Rel P ρ' (frN τ₀ al xs al.length) (hs loud.length) a' w' → Step ρ₀ (hs 0) w₀ ρ' (hs loud.length) w' → Hstay (hs 0) (hs loud.length) → Q .normal a' w') :
    ∀ (fuel : Nat) (listed : Array Bool) (ρ : Rho) (τ : AFr) (a : Act) (w : World) (k : Nat), listed.size = al.length → unlisted listed.toList ≤ fuel →
      Down al (fun i => listed.getD i false = true) → k ≤ loud.length → (∀ (q l : Nat), loud[q]? = some l → (listed.getD l false = true ↔ q < k)) →
      τ.n = τ₀.n → τ.dfr = τ₀.dfr → (∀ (j : Nat) (o : AOpD) (u : Nat), al[j]? = some o → o.dst = some u → listed.getD j false = true → alook τ.s u = xs.getD j .any) →
      (∀ (u : Nat), (∀ (j : Nat) (o : AOpD), al[j]? = some o → o.dst = some u → listed.getD j false = false) → alook τ.s u = alook τ₀.s u) →
      Rel P ρ τ (hs k) a w → Step ρ₀ (hs 0) w₀ ρ (hs k) w → Hstay (hs 0) (hs k) → wpAnyIn (fence L) 0 P .any ops Q fuel listed a w := by
  obtain ⟨hlen, hget⟩ := cOps_get hc
  have hlen : al.length = ops.size := by simpa using hlen
  have gd : ∀ (listed : Array Bool) (i : Nat), listed.size = al.length → i < al.length → listed.getD i true = listed.getD i false := fun listed i h1 h2 => by
    rw [Array.getD_eq_getD_getElem?, Array.getD_eq_getD_getElem?, Array.getElem?_eq_getElem (by omega)]; rfl
  have get : ∀ i, i < al.length → ∃ o ao, ops[i]? = some o ∧ al[i]? = some ao ∧ cOD P ops o = some ao := fun i hi => by
    obtain ⟨ao, e1, e2⟩ := hget i (ops[i]'(by omega)) (by rw [Array.getElem?_toList, Array.getElem?_eq_getElem (by omega)])
    exact ⟨_, ao, Array.getElem?_eq_getElem (by omega), e1, e2⟩
  have aft : ∀ {o : Oper} {ao : AOpD}, cOD P ops o = some ao → ∀ e, e ∈ ao.after ↔ ∃ x ∈ o.after, Region.binds .any x = true ∧ x.on = e := fun {o ao} hc e => by
    unfold cOD at hc
    split at hc
    · cases hc
      simp only [List.mem_map, List.mem_filter]
      constructor
      · rintro ⟨x, ⟨h1, h2⟩, h3⟩; exact ⟨x, by simpa using h1, h2, h3⟩
      · rintro ⟨x, h1, h2, h3⟩; exact ⟨x, ⟨by simpa using h1, h2⟩, h3⟩
    · cases hc
  -- all listed: the end
  have fin : ∀ (listed : Array Bool) (ρ : Rho) (τ : AFr) (a : Act) (w : World) (k : Nat), listed.size = al.length → (∀ i, i < al.length → listed.getD i false = true) → k ≤ loud.length → (∀ (q l : Nat), loud[q]? = some l → (listed.getD l false = true ↔ q < k)) →
      τ.n = τ₀.n → τ.dfr = τ₀.dfr → (∀ (j : Nat) (o : AOpD) (u : Nat), al[j]? = some o → o.dst = some u → listed.getD j false = true → alook τ.s u = xs.getD j .any) →
      (∀ (u : Nat), (∀ (j : Nat) (o : AOpD), al[j]? = some o → o.dst = some u → listed.getD j false = false) → alook τ.s u = alook τ₀.s u) →
      Rel P ρ τ (hs k) a w → Step ρ₀ (hs 0) w₀ ρ (hs k) w → Hstay (hs 0) (hs k) → Q .normal a w := by
    intro listed ρ τ a w k hsz hall hk hl hn hd h1 h2 r st sd
    have hkk : k = loud.length := by
      rcases Nat.lt_or_ge k loud.length with c | c
      · have := (hl k _ (List.getElem?_eq_getElem c)).1 (hall _ (s.loud k _ (List.getElem?_eq_getElem c)).1)
        omega
      · omega
    subst hkk
    obtain ⟨f1, f2⟩ := frN_n τ₀ al xs al.length
    refine hq ρ a w ⟨r.heap, by rw [r.n, hn, f1], fun u => ?_, by rw [f2, ← hd]; exact r.dfr, by rw [f2, ← hd]; exact r.dfrs⟩ st sd
    have e : alook (frN τ₀ al xs al.length).s u = alook τ.s u := by
      obtain ⟨g1, g2⟩ := frN_look τ₀ al xs s.uniq al.length (Nat.le_refl _) u
      by_cases c : ∃ (j : Nat) (o : AOpD), al[j]? = some o ∧ o.dst = some u
      · obtain ⟨j, o, c1, c2⟩ := c
        rw [g1 j o (getElem?_lt c1) c1 c2, h1 j o u c1 c2 (hall j (getElem?_lt c1))]
      · rw [g2 fun j o _ c1 c2 => c ⟨j, o, c1, c2⟩, h2 u fun j o c1 c2 => absurd ⟨j, o, c1, c2⟩ c]
    rw [e]
    exact r.slot u
  intro fuel
  induction fuel with
  | zero =>
    intro listed ρ τ a w k hsz hun hdn hk hl hn hd h1 h2 r st sd
    have hall : ∀ i, listed.getD i true = true := fun i => by
      have := unlisted_zero listed.toList (by omega) i
      simpa [List.getD, Array.getD_eq_getD_getElem?] using this
    refine ⟨?_, fin listed ρ τ a w k hsz (fun i hi => by rw [← gd listed i hsz hi]; exact hall i) hk hl hn hd h1 h2 r st sd⟩
    refine List.eq_nil_iff_forall_not_mem.2 fun i hi => ?_
    have := (mem_ready.1 hi).1
    rw [hall i] at this
    cases this
  | succ fuel ih =>
    intro listed ρ τ a w k hsz hun hdn hk hl hn hd h1 h2 r st sd
    refine ⟨fun hr => fin listed ρ τ a w k hsz ?_ hk hl hn hd h1 h2 r st sd, fun i hi => ?_⟩
    · -- nothing ready: all listed
      intro i
      induction i using Nat.strongRecOn with
      | _ i ihi =>
        intro hil
        obtain ⟨o, ao, e1, e2, e3⟩ := get i hil
        cases hb : listed.getD i false with
        | true => rfl
        | false =>
          have : i ∈ Region.ready .any ops listed := mem_ready.2 ⟨by rw [gd listed i hsz hil]; exact hb, o, e1, fun e he hbd => by
            have he' : e.on ∈ ao.after := (aft e3 _).2 ⟨e, he, hbd, rfl⟩
            have := s.early i ao e2 _ he'
            exact ihi _ this (by omega)⟩
          rw [hr] at this
          cases this
    · obtain ⟨hi0, o, ho, hbef⟩ := mem_ready.1 hi
      have hil : i < al.length := by rw [hlen]; exact (Array.getElem?_eq_some_iff.1 ho).1
      obtain ⟨o', ao, e1, e2, e3⟩ := get i hil
      rw [ho] at e1; cases e1
      have hi0' : listed.getD i false = false := by rw [← gd listed i hsz hil]; exact hi0
      have hbef' : ∀ e ∈ ao.after, listed.getD e false = true := fun e he => by
        obtain ⟨x, x1, x2, rfl⟩ := (aft e3 e).1 he
        exact hbef x x1 x2
      have hpred := s.pred hdn i ao e2 hbef'
      -- its operands stand as in the order of the text
      have huse : ∀ u ∈ ao.uses, alook (frN τ₀ al xs i).s u = alook τ.s u := by
        intro u hu
        obtain ⟨g1, g2⟩ := frN_look τ₀ al xs s.uniq i (by omega) u
        by_cases c : ∃ (j : Nat) (p : AOpD), al[j]? = some p ∧ p.dst = some u
        · obtain ⟨j, p, c1, c2⟩ := c
          rcases s.rd i j ao p u e2 c1 c2 hu with hb | hb
          · obtain ⟨p1, p2⟩ := hpred j hb
            rw [g1 j p p2 c1 c2, h1 j p u c1 c2 p1]
          · have hij := s.succ hb (getElem?_lt c1)
            have hjn : listed.getD j false = false := by
              cases hx : listed.getD j false with
              | false => rfl
              | true =>
                have := (s.pred hdn j p c1 (hdn j p c1 hx) i hb).1
                rw [hi0'] at this; cases this
            rw [g2 fun j' o' hlt c3 c4 => by have := s.uniq j' j o' p u c3 c1 c4 c2; omega, h2 u fun j' o' c3 c4 => by have := s.uniq j' j o' p u c3 c1 c4 c2; subst this; exact hjn]
        · rw [g2 fun j o _ c1 c2 => c ⟨j, o, c1, c2⟩, h2 u fun j o c1 c2 => absurd ⟨j, o, c1, c2⟩ c]
      obtain ⟨k', hk', hrun, hk'l⟩ : ∃ k', k' ≤ loud.length ∧ awR P ao τ.s (hs k) (xs.getD i .any) (hs k') ∧ ∀ (q l : Nat), loud[q]? = some l → ((listed.setIfInBounds i true).getD l false = true ↔ q < k') := by
        have hfr := f.run i ao e2
        rw [Nat.zero_add] at hfr
        by_cases hloud : loud.contains i = true
        · rw [if_pos hloud] at hfr
          have hmem : i ∈ loud := by simpa using hloud
          obtain ⟨q, hq⟩ := List.mem_iff_getElem?.1 hmem
          obtain ⟨_, hiv⟩ := s.loud q i hq
          rw [hiv] at hfr
          have hkq : k = q := by
            have a1 : ¬ q < k := fun c => by have := (hl q i hq).2 c; rw [hi0'] at this; cases this
            rcases Nat.lt_or_ge k q with c | c
            · have hkl : k < loud.length := by have := getElem?_lt hq; omega
              have := s.lo i k _ hil (List.getElem?_eq_getElem hkl) (by rw [hiv]; exact c)
              have := (hl k _ (List.getElem?_eq_getElem hkl)).1 (hpred _ this).1
              omega
            · omega
          subst hkq
          refine ⟨k + 1, by have := getElem?_lt hq; omega, awR_congr huse hfr, fun q l hq' => ?_⟩
          by_cases e : l = i
          · subst e
            have : q = k := by have := (s.loud q l hq').2; rw [hiv] at this; simp at this; omega
            subst this
            have hlt : l < listed.size := by omega
            simp [Array.getD_eq_getD_getElem?, Array.getElem?_setIfInBounds_self_of_lt hlt]
          · rw [Array.getD_eq_getD_getElem?, Array.getElem?_setIfInBounds_ne (Ne.symm e), ← Array.getD_eq_getD_getElem?, hl q l hq']
            have : q ≠ k := fun c => e (by subst c; rw [hq] at hq'; cases hq'; rfl)
            omega
        · rw [if_neg hloud] at hfr
          have hnm : i ∉ loud := by simpa using hloud
          refine ⟨k, hk, awR_congr huse (hfr k ?_ ?_), fun q l hq' => ?_⟩
          · rcases Nat.lt_or_ge k (iv.getD i (0, 0)).1 with c | c
            · rcases Nat.lt_or_ge k loud.length with c' | c'
              · have := s.lo i k _ hil (List.getElem?_eq_getElem c') c
                have := (hl k _ (List.getElem?_eq_getElem c')).1 (hpred _ this).1
                omega
              · have := s.lon i hil
                omega
            · exact c
          · rcases Nat.lt_or_ge (iv.getD i (0, 0)).2 k with c | c
            · have hq : k - 1 < loud.length := by omega
              have hin := (hl (k - 1) _ (List.getElem?_eq_getElem hq)).2 (by omega)
              have hll := (s.loud _ _ (List.getElem?_eq_getElem hq)).1
              rcases s.hi i (k - 1) _ hil (List.getElem?_eq_getElem hq) (by omega) with h | h
              · exact absurd (h ▸ List.getElem_mem hq) hnm
              · obtain ⟨o2, ao2, f1, f2, f3⟩ := get _ hll
                have := (s.pred hdn _ ao2 f2 (hdn _ ao2 f2 hin) i h).1
                rw [hi0'] at this; cases this
            · exact c
          · have e : l ≠ i := fun c => hnm (c ▸ List.mem_of_getElem? hq')
            rw [Array.getD_eq_getD_getElem?, Array.getElem?_setIfInBounds_ne (Ne.symm e), ← Array.getD_eq_getD_getElem?, hl q l hq']
      have hinb : τ.inb ao.dst = true := by
        have := f.inb i ao e2
        obtain ⟨f1, f2⟩ := frN_n τ₀ al xs i
        unfold AFr.inb at this ⊢
        rw [f1] at this
        rw [hn]
        exact this
      have hO : awO P { ao with after := [] } (fun τ' h' => τ' = τ.put ao.dst (xs.getD i .any) ∧ h' = hs k') τ (hs k) := by
        rw [awO_iff]
        refine ⟨hinb, ?_⟩
        have : awG P ao (fun y h'' => y = xs.getD i .any ∧ h'' = hs k') τ.s (hs k) := hrun
        unfold awG at this ⊢
        dsimp only
        cases hg : ao.g with
        | none => rw [hg] at this; exact awOp_mono (fun x h' ⟨c1, c2⟩ => ⟨by rw [c1], c2⟩) this
        | some p =>
          obtain ⟨d, b⟩ := p
          rw [hg] at this
          dsimp only at this ⊢
          split at this
          · exact ⟨fun c => awOp_mono (fun x h' ⟨c1, c2⟩ => ⟨by rw [c1], c2⟩) (this.1 c), fun c => by obtain ⟨c1, c2⟩ := this.2 c; exact ⟨by rw [c1], c2⟩⟩
          · obtain ⟨c1, c2⟩ := this; exact ⟨by rw [c1], c2⟩
          · exact this.elim
      have hset : ∀ j, (listed.setIfInBounds i true).getD j false = if j = i then true else listed.getD j false := fun j => by
        by_cases e : j = i
        · subst e
          have hlt : j < listed.size := by omega
          rw [if_pos rfl, Array.getD_eq_getD_getElem?, Array.getElem?_setIfInBounds_self_of_lt hlt]; rfl
        · rw [if_neg e, Array.getD_eq_getD_getElem?, Array.getElem?_setIfInBounds_ne (Ne.symm e), ← Array.getD_eq_getD_getElem?]
      unfold wpOpIn
      rw [ho]
      refine awO_sound r e3 L hO fun ρ' τ' h' a' w' hK r' s' d' => ?_
      obtain ⟨rfl, rfl⟩ := hK
      refine ih (listed.setIfInBounds i true) ρ' _ a' w' k' (by simp [hsz]) ?_ ?_ hk' hk'l ?_ ?_ ?_ ?_ r' (st.trans s') (sd.trans d')
      · have := unlisted_set listed.toList i (by rw [Array.getElem?_toList, Array.getElem?_eq_getElem (by omega)]; rw [Array.getD_eq_getD_getElem?, Array.getElem?_eq_getElem (by omega)] at hi0'; simpa using hi0')
        rw [Array.toList_setIfInBounds]
        omega
      · intro j p hj hS e he
        rw [hset] at hS ⊢
        by_cases c : e = i
        · rw [if_pos c]
        · rw [if_neg c]
          by_cases c' : j = i
          · subst c'; rw [e2] at hj; cases hj; exact hbef' e he
          · rw [if_neg c'] at hS; exact hdn j p hj hS e he
      · unfold AFr.put; split <;> exact hn
      · unfold AFr.put; split <;> exact hd
      · intro j p u hj hp hS
        rw [hset] at hS
        unfold AFr.put
        by_cases c' : j = i
        · subst c'
          rw [e2] at hj; cases hj
          rw [hp]
          simp [alook]
        · rw [if_neg c'] at hS
          cases hdd : ao.dst with
          | none => exact h1 j p u hj hp hS
          | some d =>
            have : u ≠ d := fun c => c' (s.uniq j i p ao u hj e2 hp (by rw [hdd, c]))
            simp only [alook, if_neg this]
            exact h1 j p u hj hp hS
      · intro u hu
        have hiu : ao.dst ≠ some u := fun c => by
          have := hu i ao e2 c
          rw [hset, if_pos rfl] at this; cases this
        have : alook (τ.put ao.dst (xs.getD i .any)).s u = alook τ.s u := by
          unfold AFr.put
          cases hdd : ao.dst with
          | none => rfl
          | some d =>
            have : u ≠ d := fun c => hiu (by rw [hdd, c])
            simp only [alook, if_neg this]
        rw [this]
        refine h2 u fun j p hj hp => ?_
        have := hu j p hj hp
        rw [hset] at this
        split at this
        · cases this
        · exact this
end Go.Av

/- A region that draws its order and makes variables: they may be made early. -/
set_option linter.unusedVariables false
set_option linter.unusedSimpArgs false
namespace Go.Av
open Go
theorem solC_ok {x : AV} (h : solC x = true) : Solid x := by
  unfold solC at h
  split at h
  · exact .int _ _
  · exact .bool _
  · exact .str _
  · exact .nilp
  · exact .nilmap
  · exact .nilfn
  · exact .nilsl _
  · cases h
theorem floatB_ok {o : AOpD} (h : floatB o = true) : ∃ d z af, o = ⟨some d, none, .alloc z, af⟩ ∧ ∀ u ∈ z.cells, Solid u := by
  unfold floatB at h
  split at h
  · rename_i d z af
    exact ⟨d, z, af, rfl, fun u hu => solC_ok (List.all_eq_true.1 h u hu)⟩
  · cases h
structure SaneF (al : List AOpD) (M loud : List Nat) (iv : List (Nat × Nat)) (fl : List Nat) : Prop where
  mask : masks al [] = M
  early : ∀ (i : Nat) (o : AOpD), al[i]? = some o → ∀ e ∈ o.after, e < i
  uniq : Uniq al
  rd : ∀ (i j : Nat) (o p : AOpD) (u : Nat), al[i]? = some o → al[j]? = some p → p.dst = some u → u ∈ o.uses → (M.getD i 0).testBit j = true ∨ (M.getD j 0).testBit i = true
  lon : ∀ i, i < al.length → (iv.getD i (0, 0)).1 ≤ loud.length
  lo : ∀ (i q l : Nat), i < al.length → loud[q]? = some l → q < (iv.getD i (0, 0)).1 → i ∉ fl → (M.getD i 0).testBit l = true
  hi : ∀ (i q l : Nat), i < al.length → loud[q]? = some l → (iv.getD i (0, 0)).2 = q → i ∉ loud → i = l ∨ (M.getD l 0).testBit i = true
  dep : ∀ (i q l : Nat), i < al.length → loud[q]? = some l → l ∈ fl → i ∉ fl → (M.getD i 0).testBit l = true → q < (iv.getD i (0, 0)).1
  lpos : ∀ (q l : Nat), loud[q]? = some l → l < al.length ∧ iv.getD l (0, 0) = (q, q)
  flo : ∀ i ∈ fl, i ∈ loud ∧ ∃ d z af, al[i]? = some ⟨some d, none, .alloc z, af⟩ ∧ ∀ u ∈ z.cells, Solid u
theorem SaneF.of {al : List AOpD} {M loud : List Nat} {iv : List (Nat × Nat)} {fl : List Nat} (h : drawOKF al M loud iv fl = true) : SaneF al M loud iv fl := by
  unfold drawOKF at h
  simp only [Bool.and_eq_true, decide_eq_true_eq, List.all_eq_true, List.mem_range] at h
  obtain ⟨⟨⟨h1, h2⟩, h3⟩, h4⟩ := h
  have lt : ∀ {i : Nat} {o : AOpD}, al[i]? = some o → i < al.length ∧ al.getD i default = o := fun {i o} hi => ⟨getElem?_lt hi, by simp [List.getD, hi]⟩
  have ll : ∀ {q l : Nat}, loud[q]? = some l → q < loud.length ∧ loud.getD q 0 = l := fun {q l} hq => ⟨getElem?_lt hq, by simp [List.getD, hq]⟩
  have lo3 : ∀ (q l : Nat), loud[q]? = some l → l < al.length ∧ iv.getD l (0, 0) = (q, q) := by
    intro q l hq
    obtain ⟨a, b⟩ := ll hq
    have := h3 q a
    rw [b] at this
    exact this
  refine ⟨h1, ?_, ?_, ?_, fun i hi => (h2 i hi).1.2, ?_, ?_, ?_, lo3, ?_⟩
  · intro i o hi e he
    obtain ⟨a, b⟩ := lt hi
    have := (h2 i a).1.1.1
    rw [b] at this
    exact this e he
  · intro i j o p u hi hj ho hp
    obtain ⟨a, b⟩ := lt hi
    obtain ⟨c, d⟩ := lt hj
    have := ((h2 i a).1.1.2 j c).1
    rw [b, d, hp, ho] at this
    simpa using this
  · intro i j o p u hi hj hp hu
    obtain ⟨a, b⟩ := lt hi
    obtain ⟨c, d⟩ := lt hj
    have := ((h2 i a).1.1.2 j c).2
    rw [b, d, hp] at this
    simp only [Bool.or_eq_true, Bool.not_eq_true', List.contains_eq_mem, decide_eq_false_iff_not] at this
    rcases this with (h | h) | h
    · exact absurd hu h
    · exact .inl h
    · exact .inr h
  · intro i q l hi hq hlt hn
    obtain ⟨a, b⟩ := ll hq
    have := ((h2 i hi).2 q a).1.1
    rw [b, decide_eq_true hlt] at this
    simpa [hn] using this
  · intro i q l hi hq hle hn
    obtain ⟨a, b⟩ := ll hq
    have := ((h2 i hi).2 q a).1.2
    rw [b, decide_eq_true hle] at this
    simpa [hn] using this
  · intro i q l hi hq hl hn hb
    obtain ⟨a, b⟩ := ll hq
    have := ((h2 i hi).2 q a).2
    rw [b, hb] at this
    simpa [hl, hn] using this
  · intro i hi
    obtain ⟨a, b⟩ := h4 i hi
    have hm : i ∈ loud := by simpa using a
    refine ⟨hm, ?_⟩
    obtain ⟨q, hq⟩ := List.mem_iff_getElem?.1 hm
    have hil := (lo3 q i hq).1
    obtain ⟨d, z, af, e, hz⟩ := floatB_ok b
    refine ⟨d, z, af, ?_, hz⟩
    rw [List.getD, List.getElem?_eq_getElem hil] at e
    rw [List.getElem?_eq_getElem hil]
    simpa using e
section
variable {al : List AOpD} {M loud : List Nat} {iv : List (Nat × Nat)} {fl : List Nat}
theorem SaneF.bit (s : SaneF al M loud iv fl) {i : Nat} {o : AOpD} (hi : al[i]? = some o) {j : Nat} (hj : (M.getD i 0).testBit j = true) : ∃ e ∈ o.after, j = e ∨ (M.getD e 0).testBit j = true := by
  have := (masks_spec al []).2 i o hi (by simpa using s.early i o hi) j
  rw [s.mask] at this
  exact this (by simpa using hj)
theorem SaneF.pred (s : SaneF al M loud iv fl) {S : Nat → Prop} (hd : Down al S) : ∀ (i : Nat) (o : AOpD), al[i]? = some o → (∀ e ∈ o.after, S e) → ∀ j, (M.getD i 0).testBit j = true → S j ∧ j < i := by
  intro i
  induction i using Nat.strongRecOn with
  | _ i ih =>
    intro o hi hall j hj
    obtain ⟨e, he, h⟩ := s.bit hi hj
    have hlt := s.early i o hi e he
    rcases h with rfl | h
    · exact ⟨hall _ he, hlt⟩
    · have hel : e < al.length := by have := getElem?_lt hi; omega
      obtain ⟨h1, h2⟩ := ih e hlt _ (List.getElem?_eq_getElem hel) (hd e _ (List.getElem?_eq_getElem hel) (hall e he)) j h
      exact ⟨h1, by omega⟩
theorem SaneF.succ (s : SaneF al M loud iv fl) {i j : Nat} (hj : (M.getD j 0).testBit i = true) (hjl : j < al.length) : i < j := by
  have := s.pred (S := fun _ => True) (fun _ _ _ _ _ _ => trivial) j _ (List.getElem?_eq_getElem hjl) (fun _ _ => trivial) i hj
  exact this.2
theorem SaneF.pos (s : SaneF al M loud iv fl) {q q' l : Nat} (h : loud[q]? = some l) (h' : loud[q']? = some l) : q = q' := by
  have a := (s.lpos q l h).2
  rw [(s.lpos q' l h').2] at a
  simp at a
  exact a.symm
end
variable {P : Program} {al : List AOpD} {M loud : List Nat} {iv : List (Nat × Nat)} {fl : List Nat}
/-- How a region stands on its way. -/
structure DInv (P : Program) (al : List AOpD) (loud fl : List Nat) (hs : Nat → AHeap) (xs : List AV) (τ₀ : AFr) (ρ₀ : Rho) (w₀ : World) (listed : Nat → Bool) (ρ : Rho) (τ : AFr) (a : Act) (w : World) (k : Nat) (PB : Nat → Nat) : Prop where
  le : k ≤ loud.length
  done : ∀ q l : Nat, loud[q]? = some l → q < k → listed l = true
  only : ∀ q l : Nat, loud[q]? = some l → listed l = true → k ≤ q → l ∈ fl
  n : τ.n = τ₀.n
  dfr : τ.dfr = τ₀.dfr
  now : ∀ (j : Nat) (o : AOpD) (u : Nat), al[j]? = some o → o.dst = some u → listed j = true → (∀ q : Nat, loud[q]? = some j → q < k) → alook τ.s u = xs.getD j .any
  pend : ∀ (q j : Nat) (o : AOpD) (u : Nat), loud[q]? = some j → k ≤ q → listed j = true → al[j]? = some o → o.dst = some u → alook τ.s u = .any ∧ a.tmps.getD u undef = .pointer (some ⟨PB j, 0, none⟩) ∧ ρ.X (PB j) ∧ w₀.heap.size ≤ PB j ∧ ∀ z, o.op = .alloc z → Kept w (PB j) z
  inj : ∀ q q' j j' : Nat, loud[q]? = some j → loud[q']? = some j' → k ≤ q → k ≤ q' → listed j = true → listed j' = true → PB j = PB j' → j = j'
  old : ∀ u : Nat, (∀ (j : Nat) (o : AOpD), al[j]? = some o → o.dst = some u → listed j = false) → alook τ.s u = alook τ₀.s u
  rel : Rel P ρ τ (hs k) a w
  step : Step ρ₀ (hs 0) w₀ (ρ.as ρ₀) (hs k) w
  held : Held ρ₀ w₀ ρ
  hx : ∀ b, ρ.X b → ρ₀.X b ∨ ∃ q j : Nat, loud[q]? = some j ∧ k ≤ q ∧ listed j = true ∧ PB j = b
  stay : Hstay (hs 0) (hs k)
theorem alook_put (τ : AFr) (d : Nat) (x : AV) (u : Nat) : alook (τ.put (some d) x).s u = if u = d then x else alook τ.s u := rfl
theorem alook_putN {τ : AFr} {d : Option Nat} {x : AV} {u : Nat} (h : d ≠ some u) : alook (τ.put d x).s u = alook τ.s u := by
  cases d with
  | none => rfl
  | some d => rw [alook_put, if_neg fun c => h (by rw [c])]
theorem tmps_putN {a : Act} {d : Option Nat} {v : Value} {u : Nat} (h : d ≠ some u) : (a.put d v).tmps.getD u undef = a.tmps.getD u undef := by
  cases d with
  | none => rfl
  | some d =>
    have : d ≠ u := fun c => h (by rw [c])
    simp only [Act.put]
    rw [Array.getD_eq_getD_getElem?, Array.getElem?_setIfInBounds_ne this, ← Array.getD_eq_getD_getElem?]
theorem put_n (τ : AFr) (d : Option Nat) (x : AV) : (τ.put d x).n = τ.n ∧ (τ.put d x).dfr = τ.dfr := by cases d <;> exact ⟨rfl, rfl⟩
/-- What a variable made at its place is. -/
theorem float_run {o : AOpD} {d : Nat} {z : AV} {af : List Nat} {s : List (Nat × AV)} {h h' : AHeap} {x : AV} (e : o = ⟨some d, none, .alloc z, af⟩) (H : awR P o s h x h') : okC z.cells = true ∧ x = .rp h.length 0 0 0 ∧ h' = h ++ [.row 0 z.cells.length [z]] := by
  subst e
  simp only [awR, awG, awOp, astep] at H
  by_cases c : okC z.cells = true
  · rw [if_pos c] at H; exact ⟨c, H.1.symm, H.2.symm⟩
  · rw [if_neg c] at H; exact H.elim
section
variable {hs : Nat → AHeap} {xs : List AV} {τ₀ : AFr} {ρ₀ : Rho} {w₀ : World} {listed : Nat → Bool} {a : Act} {w : World} {PB : Nat → Nat}
theorem DInv.adopt1 (s : SaneF al M loud iv fl) (f : DrawFacts P τ₀ al loud iv hs 0 xs) (lx : ∀ b, ρ₀.X b → b < w₀.heap.size) {ρ : Rho} {τ : AFr} {k l : Nat} (I : DInv P al loud fl hs xs τ₀ ρ₀ w₀ listed ρ τ a w k PB) (hk : loud[k]? = some l) (hl : listed l = true) :
    ∃ ρ' τ', DInv P al loud fl hs xs τ₀ ρ₀ w₀ listed ρ' τ' a w (k + 1) PB := by
  have hfl := I.only k l hk hl (Nat.le_refl _)
  obtain ⟨hml, d, z, af, hal, hz⟩ := s.flo l hfl
  obtain ⟨p1, p2, p3, p4, p5⟩ := I.pend k l _ d hk (Nat.le_refl _) hl hal rfl
  have hrun := f.run l _ hal
  rw [Nat.zero_add, if_pos (by simpa using hml), (s.lpos k l hk).2] at hrun
  obtain ⟨hok, hxl, hhk⟩ := float_run rfl hrun
  dsimp only at hxl hhk
  have hinb : τ.inb (some d) = true := by
    have := f.inb l _ hal
    obtain ⟨f1, f2⟩ := frN_n τ₀ al xs l
    unfold AFr.inb at this ⊢
    rw [f1] at this
    rw [I.n]
    exact this
  have hr := I.rel.adopt p3 (p5 z rfl) hinb p2
  rw [← hhk, ← hxl] at hr
  have hne : ∀ {j : Nat} {o : AOpD} {u : Nat}, al[j]? = some o → o.dst = some u → j ≠ l → u ≠ d := fun {j o u} hj hd hjl c => hjl (s.uniq j l o _ u hj hal hd (by rw [c]))
  refine ⟨⟨fun j => if j = (hs k).length then PB l else ρ j, fun c => ρ.X c ∧ c ≠ PB l⟩, τ.put (some d) (xs.getD l .any), ⟨by have := getElem?_lt hk; omega, fun q l' hq hlt => ?_, fun q l' hq hl' hle => I.only q l' hq hl' (by omega), I.n, I.dfr, fun j o u hj ho hlj hp => ?_, fun q j o u hq hle hlj hj ho => ?_, fun q q' j j' h1 h2 h3 h4 => I.inj q q' j j' h1 h2 (by omega) (by omega), fun u hu => ?_, hr, ?_, ⟨fun b hb => ⟨I.held.sub b hb, fun c => ?_⟩, fun b hb => I.held.new b hb.1⟩, fun b hb => ?_, ?_⟩⟩
  · rcases Nat.lt_or_ge q k with c | c
    · exact I.done q l' hq c
    · have : q = k := by omega
      subst this
      rw [hk] at hq; cases hq; exact hl
  · rw [alook_put]
    by_cases e : j = l
    · subst e
      rw [hal] at hj; cases hj; cases ho
      rw [if_pos rfl]
    · rw [if_neg (hne hj ho e)]
      refine I.now j o u hj ho hlj fun q hq => ?_
      have := hp q hq
      have : q ≠ k := fun c => e (by subst c; rw [hk] at hq; cases hq; rfl)
      omega
  · have hjl : j ≠ l := fun c => by subst c; have := s.pos hq hk; omega
    obtain ⟨q1, q2, q3, q4, q5⟩ := I.pend q j o u hq (by omega) hlj hj ho
    refine ⟨by rw [alook_put, if_neg (hne hj ho hjl)]; exact q1, q2, ⟨q3, fun c => hjl (I.inj q k j l hq hk (by omega) (Nat.le_refl _) hlj hl c)⟩, q4, q5⟩
  · rw [alook_put]
    by_cases e : u = d
    · subst e
      have := hu l _ hal rfl
      rw [hl] at this; cases this
    · rw [if_neg e]; exact I.old u hu
  · have := Step.adopt (o := .row 0 z.cells.length [z]) (X := fun c => ρ.X c ∧ c ≠ PB l) p4 I.step
    rw [← hhk] at this
    exact this
  · have := lx b hb
    omega
  · rcases I.hx b hb.1 with h | ⟨q, j, h1, h2, h3, h4⟩
    · exact .inl h
    · refine .inr ⟨q, j, h1, ?_, h3, h4⟩
      have : q ≠ k := fun c => by subst c; rw [hk] at h1; cases h1; exact hb.2 h4.symm
      omega
  · rw [hhk]
    exact I.stay.trans (Hstay.app _ _)
theorem DInv.adopt (s : SaneF al M loud iv fl) (f : DrawFacts P τ₀ al loud iv hs 0 xs) (lx : ∀ b, ρ₀.X b → b < w₀.heap.size) : ∀ (m : Nat) {ρ : Rho} {τ : AFr} {k : Nat}, loud.length - k ≤ m → DInv P al loud fl hs xs τ₀ ρ₀ w₀ listed ρ τ a w k PB →
    ∃ ρ' τ' k', DInv P al loud fl hs xs τ₀ ρ₀ w₀ listed ρ' τ' a w k' PB ∧ ∀ l : Nat, loud[k']? = some l → listed l = false := by
  intro m
  induction m with
  | zero =>
    intro ρ τ k hm I
    refine ⟨ρ, τ, k, I, fun l hl => ?_⟩
    have := getElem?_lt hl
    omega
  | succ m ih =>
    intro ρ τ k hm I
    cases hk : loud[k]? with
    | none => exact ⟨ρ, τ, k, I, fun l hl => by rw [hk] at hl; cases hl⟩
    | some l =>
      cases hl : listed l with
      | false => exact ⟨ρ, τ, k, I, fun l' hl' => by rw [hk] at hl'; cases hl'; exact hl⟩
      | true =>
        obtain ⟨ρ', τ', I'⟩ := I.adopt1 s f lx hk hl
        exact ih (by omega) I'
end
theorem awDraw_main2 (s : SaneF al M loud iv fl) (L : Option Nat) {ops : Array Oper} (hc : cOps P ops ops.toList = some al) {hs : Nat → AHeap} {xs : List AV} {τ₀ : AFr} (f : DrawFacts P τ₀ al loud iv hs 0 xs)
    {Q : Exit → Act → World → Prop} {ρ₀ : Rho} {w₀ : World} (lx : ∀ b, ρ₀.X b → b < w₀.heap.size) (hq : ∀ ρ' a' w', Rel P ρ' (frN τ₀ al xs al.length) (hs loud.length) a' w' → Step ρ₀ (hs 0) w₀ ρ' (hs loud.length) w' → Hstay (hs 0) (hs loud.length) → Q .normal a' w') :
    ∀ (fuel : Nat) (listed : Array Bool) (ρ : Rho) (τ : AFr) (a : Act) (w : World) (k : Nat) (PB : Nat → Nat), listed.size = al.length → unlisted listed.toList ≤ fuel →
      Down al (fun i => listed.getD i false = true) → DInv P al loud fl hs xs τ₀ ρ₀ w₀ (fun i => listed.getD i false) ρ τ a w k PB → (∀ l : Nat, loud[k]? = some l → listed.getD l false = false) → wpAnyIn (fence L) 0 P .any ops Q fuel listed a w := by
  obtain ⟨hlen, hget⟩ := cOps_get hc
  have hlen : al.length = ops.size := by simpa using hlen
  have gd : ∀ (listed : Array Bool) (i : Nat), listed.size = al.length → i < al.length → listed.getD i true = listed.getD i false := fun listed i h1 h2 => by
    rw [Array.getD_eq_getD_getElem?, Array.getD_eq_getD_getElem?, Array.getElem?_eq_getElem (by omega)]; rfl
  have get : ∀ i, i < al.length → ∃ o ao, ops[i]? = some o ∧ al[i]? = some ao ∧ cOD P ops o = some ao := fun i hi => by
    obtain ⟨ao, e1, e2⟩ := hget i (ops[i]'(by omega)) (by rw [Array.getElem?_toList, Array.getElem?_eq_getElem (by omega)])
    exact ⟨_, ao, Array.getElem?_eq_getElem (by omega), e1, e2⟩
  have aft : ∀ {o : Oper} {ao : AOpD}, cOD P ops o = some ao → ∀ e, e ∈ ao.after ↔ ∃ x ∈ o.after, Region.binds .any x = true ∧ x.on = e := fun {o ao} hc e => by
    unfold cOD at hc
    split at hc
    · cases hc
      simp only [List.mem_map, List.mem_filter]
      constructor
      · rintro ⟨x, ⟨h1, h2⟩, h3⟩; exact ⟨x, by simpa using h1, h2, h3⟩
      · rintro ⟨x, h1, h2, h3⟩; exact ⟨x, ⟨by simpa using h1, h2⟩, h3⟩
    · cases hc
  have dstOf : ∀ {o : Oper} {ao : AOpD}, cOD P ops o = some ao → o.dst = ao.dst := fun {o ao} hc => by
    unfold cOD at hc
    split at hc
    · cases hc; rfl
    · cases hc
  -- all listed: the end
  have fin : ∀ (listed : Array Bool) (ρ : Rho) (τ : AFr) (a : Act) (w : World) (k : Nat) (PB : Nat → Nat), listed.size = al.length → (∀ i, i < al.length → listed.getD i false = true) → DInv P al loud fl hs xs τ₀ ρ₀ w₀ (fun i => listed.getD i false) ρ τ a w k PB → (∀ l : Nat, loud[k]? = some l → listed.getD l false = false) → Q .normal a w := by
    intro listed ρ τ a w k PB hsz hall I hC
    have hkk : k = loud.length := by
      rcases Nat.lt_or_ge k loud.length with c | c
      · have h1 := hC _ (List.getElem?_eq_getElem c)
        rw [hall _ (s.lpos k _ (List.getElem?_eq_getElem c)).1] at h1
        cases h1
      · have := I.le; omega
    subst hkk
    have hX : ρ.X = ρ₀.X := by
      funext b
      refine propext ⟨fun hb => ?_, I.held.sub b⟩
      rcases I.hx b hb with h | ⟨q, j, h1, h2, _⟩
      · exact h
      · have := getElem?_lt h1; omega
    have has : ρ.as ρ₀ = ρ := by
      obtain ⟨g, X⟩ := ρ
      simp only [Rho.as] at hX ⊢
      rw [hX]
    have hst := I.step
    rw [has] at hst
    obtain ⟨f1, f2⟩ := frN_n τ₀ al xs al.length
    refine hq ρ a w ⟨I.rel.heap, by rw [I.rel.n, I.n, f1], fun u => ?_, by rw [f2, ← I.dfr]; exact I.rel.dfr, by rw [f2, ← I.dfr]; exact I.rel.dfrs⟩ hst I.stay
    have e : alook (frN τ₀ al xs al.length).s u = alook τ.s u := by
      obtain ⟨g1, g2⟩ := frN_look τ₀ al xs s.uniq al.length (Nat.le_refl _) u
      by_cases c : ∃ (j : Nat) (o : AOpD), al[j]? = some o ∧ o.dst = some u
      · obtain ⟨j, o, c1, c2⟩ := c
        rw [g1 j o (getElem?_lt c1) c1 c2, I.now j o u c1 c2 (hall j (getElem?_lt c1)) fun q hq => getElem?_lt hq]
      · rw [g2 fun j o _ c1 c2 => c ⟨j, o, c1, c2⟩, I.old u fun j o c1 c2 => absurd ⟨j, o, c1, c2⟩ c]
    rw [e]
    exact I.rel.slot u
  intro fuel
  induction fuel with
  | zero =>
    intro listed ρ τ a w k PB hsz hun hdn I hC
    have hall : ∀ i, listed.getD i true = true := fun i => by
      have := unlisted_zero listed.toList (by omega) i
      simpa [List.getD, Array.getD_eq_getD_getElem?] using this
    refine ⟨?_, fin listed ρ τ a w k PB hsz (fun i hi => by rw [← gd listed i hsz hi]; exact hall i) I hC⟩
    refine List.eq_nil_iff_forall_not_mem.2 fun i hi => ?_
    have := (mem_ready.1 hi).1
    rw [hall i] at this
    cases this
  | succ fuel ih =>
    intro listed ρ τ a w k PB hsz hun hdn I hC
    refine ⟨fun hr => fin listed ρ τ a w k PB hsz ?_ I hC, fun i hi => ?_⟩
    · -- nothing ready: all listed
      intro i
      induction i using Nat.strongRecOn with
      | _ i ihi =>
        intro hil
        obtain ⟨o, ao, e1, e2, e3⟩ := get i hil
        cases hb : listed.getD i false with
        | true => rfl
        | false =>
          have : i ∈ Region.ready .any ops listed := mem_ready.2 ⟨by rw [gd listed i hsz hil]; exact hb, o, e1, fun e he hbd => by
            have he' : e.on ∈ ao.after := (aft e3 _).2 ⟨e, he, hbd, rfl⟩
            have := s.early i ao e2 _ he'
            exact ihi _ this (by omega)⟩
          rw [hr] at this
          cases this
    · obtain ⟨hi0, o, ho, hbef⟩ := mem_ready.1 hi
      have hil : i < al.length := by rw [hlen]; exact (Array.getElem?_eq_some_iff.1 ho).1
      obtain ⟨o', ao, e1, e2, e3⟩ := get i hil
      rw [ho] at e1; cases e1
      have hi0' : listed.getD i false = false := by rw [← gd listed i hsz hil]; exact hi0
      have hbef' : ∀ e ∈ ao.after, listed.getD e false = true := fun e he => by
        obtain ⟨x, x1, x2, rfl⟩ := (aft e3 e).1 he
        exact hbef x x1 x2
      have hpred := s.pred hdn i ao e2 hbef'
      have hset : ∀ j, (listed.setIfInBounds i true).getD j false = if j = i then true else listed.getD j false := fun j => by
        by_cases e : j = i
        · subst e
          have hlt : j < listed.size := by omega
          rw [if_pos rfl, Array.getD_eq_getD_getElem?, Array.getElem?_setIfInBounds_self_of_lt hlt]; rfl
        · rw [if_neg e, Array.getD_eq_getD_getElem?, Array.getElem?_setIfInBounds_ne (Ne.symm e), ← Array.getD_eq_getD_getElem?]
      have hdn' : Down al (fun j => (listed.setIfInBounds i true).getD j false = true) := by
        intro j p hj hS e he
        rw [hset] at hS ⊢
        by_cases c : e = i
        · rw [if_pos c]
        · rw [if_neg c]
          by_cases c' : j = i
          · subst c'; rw [e2] at hj; cases hj; exact hbef' e he
          · rw [if_neg c'] at hS; exact hdn j p hj hS e he
      have hun' : unlisted (listed.setIfInBounds i true).toList ≤ fuel := by
        have := unlisted_set listed.toList i (by rw [Array.getElem?_toList, Array.getElem?_eq_getElem (by omega)]; rw [Array.getD_eq_getD_getElem?, Array.getElem?_eq_getElem (by omega)] at hi0'; simpa using hi0')
        rw [Array.toList_setIfInBounds]
        omega
      have up : ∀ {j : Nat}, listed.getD j false = true → (listed.setIfInBounds i true).getD j false = true := fun {j} hj => by
        rw [hset]
        split
        · rfl
        · exact hj
      have dn : ∀ {j : Nat}, (listed.setIfInBounds i true).getD j false = true → j ≠ i → listed.getD j false = true := fun {j} hj hne => by rw [hset, if_neg hne] at hj; exact hj
      have hinb : τ.inb ao.dst = true := by
        have := f.inb i ao e2
        obtain ⟨f1, f2⟩ := frN_n τ₀ al xs i
        unfold AFr.inb at this ⊢
        rw [f1] at this
        rw [I.n]
        exact this
      -- no place before k is open, none at k is filled
      have low : i ∉ fl → ∀ q, q < (iv.getD i (0, 0)).1 → q < k := by
        intro hnf q hlt
        rcases Nat.lt_or_ge q k with c | c
        · exact c
        · exfalso
          have hkl : k < loud.length := by have := s.lon i hil; omega
          have := s.lo i k _ hil (List.getElem?_eq_getElem hkl) (by omega) hnf
          have h1 := (hpred _ this).1
          rw [hC _ (List.getElem?_eq_getElem hkl)] at h1
          cases h1
      unfold wpOpIn
      rw [ho]
      by_cases hearly : ∃ q : Nat, loud[q]? = some i ∧ k < q
      · -- made early
        obtain ⟨q, hq, hkq⟩ := hearly
        have hif : i ∈ fl := by
          apply Classical.byContradiction
          intro hnf
          have := low hnf k (by rw [(s.lpos q i hq).2]; exact hkq)
          omega
        obtain ⟨hml, d, z, af, hal, hz⟩ := s.flo i hif
        rw [e2] at hal
        cases hal
        have hrun := f.run i _ e2
        rw [Nat.zero_add, if_pos (by simpa using hml)] at hrun
        obtain ⟨hok, _, _⟩ := float_run rfl hrun
        have hO : awO P { (⟨some d, none, .alloc z, af⟩ : AOpD) with after := [] } (fun τ' h' => τ' = τ.put (some d) (.rp (hs k).length 0 0 0) ∧ h' = hs k ++ [.row 0 z.cells.length [z]]) τ (hs k) := by
          rw [awO_iff]
          refine ⟨hinb, ?_⟩
          simp only [awG, awOp, astep]
          rw [if_pos hok]
          exact ⟨rfl, rfl⟩
        refine awO_sound₁ I.rel e3 L hO fun ρ' τ' h' a' w' ha hK r' s' d' => ?_
        obtain ⟨rfl, rfl⟩ := hK
        obtain ⟨v, rfl⟩ := ha
        have hdst : o.dst = some d := dstOf e3
        have hb := Step.freshLast I.rel.heap r'.heap s' rfl
        have hlast : (hs k ++ [AObj.row 0 z.cells.length [z]])[(hs k).length]? = some (.row 0 z.cells.length [z]) := push_last _ _
        have hkept : Kept w' (ρ' (hs k).length) z := Kept.of hz (r'.heap.obj _ _ hlast)
        have hptr : (a.put o.dst v).tmps.getD d undef = .pointer (some ⟨ρ' (hs k).length, 0, none⟩) := by
          have h1 := r'.slot d
          rw [alook_put, if_pos rfl] at h1
          generalize (a.put o.dst v).tmps.getD d undef = V at h1
          cases h1 with
          | rp _ _ _ _ A hid hcc =>
            have := (hcc _ _ _ hlast).2 rfl
            rw [this]
            simp
        have hx' := s'.x
        have hne : ∀ {j : Nat} {p : AOpD} {u : Nat}, al[j]? = some p → p.dst = some u → j ≠ i → u ≠ d := fun {j p u} hj hd hji c => hji (s.uniq j i p _ u hj e2 hd (by rw [c]))
        refine ih (listed.setIfInBounds i true) ⟨ρ'.f, fun c => ρ'.X c ∨ c = ρ' (hs k).length⟩ (τ.put (some d) .any) _ w' k (fun j => if j = i then ρ' (hs k).length else PB j) (by simp [hsz]) hun' hdn' ?_ ?_
        · have hpb : ∀ {j : Nat}, j ≠ i → (fun j => if j = i then ρ' (hs k).length else PB j) j = PB j := fun {j} h => if_neg h
          refine ⟨I.le, fun q' l hq' hlt => up (I.done q' l hq' hlt), fun q' l hq' hl hle => ?_, I.n, I.dfr, fun j p u hj hp hlj hpl => ?_, fun q' j p u hq' hle hlj hj hp => ?_, fun q1 q2 j j' h1 h2 h3 h4 h5 h6 h7 => ?_, fun u hu => ?_, I.rel.disown r', ?_, ⟨fun b hb' => .inl (by rw [hx']; exact I.held.sub b hb'), fun b hb' => ?_⟩, fun b hb' => ?_, I.stay⟩
          · by_cases e : l = i
            · rw [e]; exact hif
            · exact I.only q' l hq' (dn hl e) hle
          · have hji : j ≠ i := fun c => by subst c; have := hpl q hq; omega
            rw [alook_put, if_neg (hne hj hp hji)]
            exact I.now j p u hj hp (dn hlj hji) hpl
          · by_cases e : j = i
            · subst e
              rw [e2] at hj; cases hj; cases hp
              dsimp only
              rw [if_pos rfl]
              refine ⟨by rw [alook_put, if_pos rfl], hptr, .inr rfl, Nat.le_trans I.step.size hb, fun z' hz' => ?_⟩
              cases hz'
              exact hkept
            · dsimp only
              rw [if_neg e]
              obtain ⟨p1, p2, p3, p4, p5⟩ := I.pend q' j p u hq' hle (dn hlj e) hj hp
              refine ⟨by rw [alook_put, if_neg (hne hj hp e)]; exact p1, ?_, .inl (by rw [hx']; exact p3), p4, fun z' hz' => (p5 z' hz').step (s'.kx _ p3)⟩
              rw [tmps_putN (by rw [hdst]; intro c; cases c; exact hne hj hp e rfl)]
              exact p2
          · by_cases c1 : j = i <;> by_cases c2 : j' = i
            · rw [c1, c2]
            · exfalso
              skip
              rw [if_neg c2, if_pos c1] at h7
              have e7 : ρ' (hs k).length = PB j' := h7
              obtain ⟨p, hp⟩ : ∃ p, al[j']? = some p := ⟨_, List.getElem?_eq_getElem (s.lpos q2 j' h2).1⟩
              obtain ⟨_, d2, z2, af2, hp2, _⟩ := s.flo j' (I.only q2 j' h2 (dn h6 c2) h4)
              have p3 := (I.pend q2 j' _ d2 h2 h4 (dn h6 c2) hp2 rfl).2.2.1
              have := I.rel.heap.xl _ p3
              omega
            · exfalso
              skip
              rw [if_neg c1, if_pos c2] at h7
              have e7 : PB j = ρ' (hs k).length := h7
              obtain ⟨_, d2, z2, af2, hp2, _⟩ := s.flo j (I.only q1 j h1 (dn h5 c1) h3)
              have p3 := (I.pend q1 j _ d2 h1 h3 (dn h5 c1) hp2 rfl).2.2.1
              have := I.rel.heap.xl _ p3
              omega
            · skip
              rw [if_neg c1, if_neg c2] at h7
              exact I.inj q1 q2 j j' h1 h2 h3 h4 (dn h5 c1) (dn h6 c2) h7
          · have hud : u ≠ d := fun c => by
              have := hu i _ e2 (by rw [c])
              rw [hset, if_pos rfl] at this; cases this
            rw [alook_put, if_neg hud]
            refine I.old u fun j p hj hp => ?_
            have := hu j p hj hp
            rw [hset] at this
            split at this
            · cases this
            · exact this
          · exact Step.disown _ I.step.len (I.step.held I.held s')
          · rcases hb' with h | rfl
            · rw [hx'] at h; exact I.held.new b h
            · exact .inr (Nat.le_trans I.step.size hb)
          · rcases hb' with h | h
            · rw [hx'] at h
              rcases I.hx b h with h | ⟨q', j, h1, h2, h3, h4⟩
              · exact .inl h
              · have hji : j ≠ i := fun c => by rw [c, hi0'] at h3; cases h3
                exact .inr ⟨q', j, h1, h2, up h3, by rw [if_neg hji]; exact h4⟩
            · exact .inr ⟨q, i, hq, by omega, by rw [hset, if_pos rfl], by rw [if_pos rfl, h]⟩
        · intro l hl
          have hli : l ≠ i := fun c => by subst c; have := s.pos hl hq; omega
          rw [hset, if_neg hli]
          exact hC l hl
      · -- at its place
        have hlate : ∀ q : Nat, loud[q]? = some i → q ≤ k := fun q hq => Nat.le_of_not_lt fun c => hearly ⟨q, hq, c⟩
        have huse : ∀ u ∈ ao.uses, alook (frN τ₀ al xs i).s u = alook τ.s u := by
          intro u hu
          have hnf : i ∉ fl := fun c => by
            obtain ⟨_, d, z, af, hal, _⟩ := s.flo i c
            rw [e2] at hal; cases hal
            simp [AOpD.uses, AOpr.slots] at hu
          obtain ⟨g1, g2⟩ := frN_look τ₀ al xs s.uniq i (by omega) u
          by_cases c : ∃ (j : Nat) (p : AOpD), al[j]? = some p ∧ p.dst = some u
          · obtain ⟨j, p, c1, c2⟩ := c
            rcases s.rd i j ao p u e2 c1 c2 hu with hb | hb
            · obtain ⟨p1, p2⟩ := hpred j hb
              rw [g1 j p p2 c1 c2, I.now j p u c1 c2 p1 fun q hq => ?_]
              rcases Nat.lt_or_ge q k with c | c
              · exact c
              · have hjf := I.only q j hq p1 c
                exact low hnf q (s.dep i q j hil hq hjf hnf hb)
            · have hij := s.succ hb (getElem?_lt c1)
              have hjn : listed.getD j false = false := by
                cases hx : listed.getD j false with
                | false => rfl
                | true =>
                  have := (s.pred hdn j p c1 (hdn j p c1 hx) i hb).1
                  rw [hi0'] at this; cases this
              rw [g2 fun j' o' hlt c3 c4 => by have := s.uniq j' j o' p u c3 c1 c4 c2; omega, I.old u fun j' o' c3 c4 => by have := s.uniq j' j o' p u c3 c1 c4 c2; subst this; exact hjn]
          · rw [g2 fun j o _ c1 c2 => c ⟨j, o, c1, c2⟩, I.old u fun j o c1 c2 => absurd ⟨j, o, c1, c2⟩ c]
        obtain ⟨k', hkk, hrun⟩ : ∃ k', ((k' = k ∧ i ∉ loud) ∨ (k' = k + 1 ∧ loud[k]? = some i)) ∧ awR P ao τ.s (hs k) (xs.getD i .any) (hs k') := by
          have hfr := f.run i ao e2
          rw [Nat.zero_add] at hfr
          by_cases hloud : loud.contains i = true
          · rw [if_pos hloud] at hfr
            have hmem : i ∈ loud := by simpa using hloud
            obtain ⟨q, hq⟩ := List.mem_iff_getElem?.1 hmem
            obtain ⟨_, hiv⟩ := s.lpos q i hq
            rw [hiv] at hfr
            have hkq : k = q := by
              have a1 : ¬ q < k := fun c => by have := I.done q i hq c; rw [hi0'] at this; cases this
              have := hlate q hq
              omega
            subst hkq
            exact ⟨k + 1, .inr ⟨rfl, hq⟩, awR_congr huse hfr⟩
          · rw [if_neg hloud] at hfr
            have hnm : i ∉ loud := by simpa using hloud
            have hnf : i ∉ fl := fun c => hnm (s.flo i c).1
            refine ⟨k, .inl ⟨rfl, hnm⟩, awR_congr huse (hfr k ?_ ?_)⟩
            · rcases Nat.lt_or_ge k (iv.getD i (0, 0)).1 with c | c
              · have := low hnf k c; omega
              · exact c
            · rcases Nat.lt_or_ge (iv.getD i (0, 0)).2 k with c | c
              · have hq : (iv.getD i (0, 0)).2 < loud.length := by have := I.le; omega
                have hin := I.done (iv.getD i (0, 0)).2 _ (List.getElem?_eq_getElem hq) c
                have hll := (s.lpos _ _ (List.getElem?_eq_getElem hq)).1
                rcases s.hi i (iv.getD i (0, 0)).2 _ hil (List.getElem?_eq_getElem hq) rfl hnm with h | h
                · exact absurd (h ▸ List.getElem_mem hq) hnm
                · obtain ⟨o2, ao2, f1, f2, f3⟩ := get _ hll
                  have := (s.pred hdn _ ao2 f2 (hdn _ ao2 f2 hin) i h).1
                  rw [hi0'] at this; cases this
              · exact c
        have hO : awO P { ao with after := [] } (fun τ' h' => τ' = τ.put ao.dst (xs.getD i .any) ∧ h' = hs k') τ (hs k) := by
          rw [awO_iff]
          refine ⟨hinb, ?_⟩
          have : awG P ao (fun y h'' => y = xs.getD i .any ∧ h'' = hs k') τ.s (hs k) := hrun
          unfold awG at this ⊢
          dsimp only
          cases hg : ao.g with
          | none => rw [hg] at this; exact awOp_mono (fun x h' ⟨c1, c2⟩ => ⟨by rw [c1], c2⟩) this
          | some p =>
            obtain ⟨d, b⟩ := p
            rw [hg] at this
            dsimp only at this ⊢
            split at this
            · exact ⟨fun c => awOp_mono (fun x h' ⟨c1, c2⟩ => ⟨by rw [c1], c2⟩) (this.1 c), fun c => by obtain ⟨c1, c2⟩ := this.2 c; exact ⟨by rw [c1], c2⟩⟩
            · obtain ⟨c1, c2⟩ := this; exact ⟨by rw [c1], c2⟩
            · exact this.elim
        refine awO_sound₁ I.rel e3 L hO fun ρ' τ' h' a' w' ha hK r' s' d' => ?_
        obtain ⟨rfl, rfl⟩ := hK
        obtain ⟨v, rfl⟩ := ha
        have hdst : o.dst = ao.dst := dstOf e3
        have hx' := s'.x
        have hle' : k ≤ k' := by rcases hkk with ⟨h, _⟩ | ⟨h, _⟩ <;> omega
        have hpi : ∀ q : Nat, k' ≤ q → loud[q]? ≠ some i := by
          intro q hq c
          rcases hkk with ⟨h, hn⟩ | ⟨h, hk⟩
          · exact hn (List.mem_of_getElem? c)
          · have := s.pos c hk; omega
        have hkq : ∀ q j : Nat, loud[q]? = some j → k ≤ q → j ≠ i → k' ≤ q := by
          intro q j hq hle hji
          rcases hkk with ⟨h, _⟩ | ⟨h, hk⟩
          · omega
          · have : q ≠ k := fun c => hji (by subst c; rw [hk] at hq; cases hq; rfl)
            omega
        have hne : ∀ {j : Nat} {p : AOpD} {u : Nat}, al[j]? = some p → p.dst = some u → j ≠ i → ao.dst ≠ some u := fun {j p u} hj hd hji c => hji (s.uniq j i p _ u hj e2 hd c)
        have I' : DInv P al loud fl hs xs τ₀ ρ₀ w₀ (fun j => (listed.setIfInBounds i true).getD j false) ρ' (τ.put ao.dst (xs.getD i .any)) (a.put o.dst v) w' k' PB := by
          obtain ⟨n1, n2⟩ := put_n τ ao.dst (xs.getD i .any)
          refine ⟨?_, fun q l hq hlt => ?_, fun q l hq hl hle => ?_, n1.trans I.n, n2.trans I.dfr, fun j p u hj hp hlj hpl => ?_, fun q j p u hq hle hlj hj hp => ?_, fun q1 q2 j j' h1 h2 h3 h4 h5 h6 h7 => ?_, fun u hu => ?_, r', I.step.held I.held s', ⟨fun b hb => by rw [hx']; exact I.held.sub b hb, fun b hb => I.held.new b (by rw [hx'] at hb; exact hb)⟩, fun b hb => ?_, I.stay.trans d'⟩
          · rcases hkk with ⟨h, _⟩ | ⟨h, hk⟩
            · rw [h]; exact I.le
            · have := getElem?_lt hk; omega
          · by_cases e : l = i
            · rw [hset, if_pos e]
            · refine up (I.done q l hq ?_)
              rcases hkk with ⟨h, _⟩ | ⟨h, hk⟩
              · omega
              · have : q ≠ k := fun c => e (by subst c; rw [hk] at hq; cases hq; rfl)
                omega
          · have hli : l ≠ i := fun c => hpi q hle (c ▸ hq)
            exact I.only q l hq (dn hl hli) (by omega)
          · by_cases e : j = i
            · subst e
              rw [e2] at hj; cases hj
              rw [hp, alook_put, if_pos rfl]
            · rw [alook_putN (hne hj hp e)]
              refine I.now j p u hj hp (dn hlj e) fun q hq => ?_
              have := hpl q hq
              rcases Nat.lt_or_ge q k with c | c
              · exact c
              · have := hkq q j hq c e; omega
          · have hji : j ≠ i := fun c => hpi q hle (c ▸ hq)
            obtain ⟨p1, p2, p3, p4, p5⟩ := I.pend q j p u hq (by omega) (dn hlj hji) hj hp
            refine ⟨by rw [alook_putN (hne hj hp hji)]; exact p1, ?_, by rw [hx']; exact p3, p4, fun z hz => (p5 z hz).step (s'.kx _ p3)⟩
            rw [tmps_putN (by rw [hdst]; exact hne hj hp hji)]
            exact p2
          · have c1 : j ≠ i := fun c => hpi q1 h3 (c ▸ h1)
            have c2 : j' ≠ i := fun c => hpi q2 h4 (c ▸ h2)
            exact I.inj q1 q2 j j' h1 h2 (by omega) (by omega) (dn h5 c1) (dn h6 c2) h7
          · have hiu : ao.dst ≠ some u := fun c => by
              have := hu i ao e2 c
              rw [hset, if_pos rfl] at this; cases this
            rw [alook_putN hiu]
            refine I.old u fun j p hj hp => ?_
            have := hu j p hj hp
            rw [hset] at this
            split at this
            · cases this
            · exact this
          · rw [hx'] at hb
            rcases I.hx b hb with h | ⟨q, j, h1, h2, h3, h4⟩
            · exact .inl h
            · have hji : j ≠ i := fun c => by rw [c, hi0'] at h3; cases h3
              exact .inr ⟨q, j, h1, hkq q j h1 h2 hji, up h3, h4⟩
        obtain ⟨ρ2, τ2, k2, I2, C2⟩ := I'.adopt s f lx loud.length (Nat.sub_le _ _)
        exact ih (listed.setIfInBounds i true) ρ2 τ2 _ w' k2 PB (by simp [hsz]) hun' hdn' I2 C2
end Go.Av

/- Walking code in the short words: the rule for every kind of statement. -/
set_option linter.unusedVariables false
set_option linter.unusedSimpArgs false
namespace Go.Av
open Go

section
variable (P : Program)
def awRange (rd : Option Nat) (g : Opd) (ps : List Nat) (assign body : AC) (Q : Jump → AFr → AHeap → Prop) (τ : AFr) (h : AHeap) : Prop :=
  match ev τ.s g, rd with
  | .fn (.func f) first captured, none =>
    ∃ r h2 L2, ACall P f (first ++ [.yld (h.length + 1)] ++ captured) (h ++ [.dfr, .loop { st := .ready, pend := .none, slots := τ.s, n := τ.n, ps, assign, body, dfr := h.length }]) r h2 ∧
      h2[h.length + 1]? = some (.loop L2) ∧ L2.st ≠ .busy ∧ Q L2.pend { τ with dfr := h.length :: τ.dfr } (h2.set (h.length + 1) .dead)
  | .fn (.func f) first captured, some l => ∃ L0, h[l]? = some (.loop L0) ∧
    ∃ r h2 L2, ACall P f (first ++ [.yld h.length] ++ captured) (h ++ [.loop { st := .ready, pend := .none, slots := τ.s, n := τ.n, ps, assign, body, dfr := L0.dfr }]) r h2 ∧
      h2[h.length]? = some (.loop L2) ∧ L2.st ≠ .busy ∧ Q L2.pend τ (h2.set h.length .dead)
  | _, _ => False
def aw (rd : Option Nat) : AC → (Jump → AFr → AHeap → Prop) → AFr → AHeap → Prop
  | .skip, Q, τ, h => Q .none τ h
  | .ops l, Q, τ, h => awOps P l (Q .none) τ h
  | .draw l, Q, τ, h => awDraw P l (Q .none) τ h
  | .seq a b, Q, τ, h => aw rd a (fun j τ h => match j with
    | .none => aw rd b Q τ h
    | j => Q j τ h) τ h
  | .cond c a b, Q, τ, h => match ev τ.s c with
    | .bool t => (t = true → aw rd a Q τ h) ∧ (t = false → aw rd b Q τ h)
    | .anyb => aw rd a Q τ h ∧ aw rd b Q τ h
    | _ => False
  | .block id a, Q, τ, h => aw rd a (fun j τ h => Q (if j = .exit id then .none else j) τ h) τ h
  | .loop a, Q, τ, h => ∃ I : Nat → AFr → AHeap → Prop, (∃ n τ', I n τ' h ∧ Le τ τ') ∧ ∀ n τ h, I n τ h → aw rd a (fun j τ' h' => match j with
    | .none => ∃ m τ'', m < n ∧ I m τ'' h' ∧ Le τ' τ''
    | j => Q j τ' h') τ h
  | .rangeF g ps assign body, Q, τ, h => awRange P rd g ps assign body Q τ h
  | .exit id, Q, τ, h => Q (.exit id) τ h
  | .ret, Q, τ, h => Q .ret τ h
end

def jex : Jump → Exit
  | .none => .normal
  | .ret => .ret
  | .exit id => .exit id
def RdOK (rd L : Option Nat) (ρ : Rho) (h : AHeap) : Prop :=
  match rd, L with
  | none, none => True
  | some l, some b => l < h.length ∧ ∀ L0, h[l]? = some (.loop L0) → ρ l = b
  | _, _ => False

variable {P : Program} {ρ : Rho} {h : AHeap} {w : World} {τ : AFr} {a : Act}
theorem RdOK.step {rd L : Option Nat} (r : RdOK rd L ρ h) {ρ' : Rho} {h' : AHeap} {w' : World} (s : Step ρ h w ρ' h' w') : RdOK rd L ρ' h' := by
  unfold RdOK at *
  split at r
  · trivial
  · obtain ⟨h1, h2⟩ := r
    refine ⟨Nat.lt_of_lt_of_le h1 s.len, fun L0 e => ?_⟩
    obtain ⟨o, h0, t, _, st⟩ := s.keep _ _ e rfl h1
    cases o <;> simp [AObj.to] at t
    rw [(st trivial).1, h2 _ h0]
  · exact r.elim

/-- A loop's record changes, or dies, where it lies. -/
theorem loop_set (hh : HR P ρ h w) {id : Nat} {L : ALoop} (hr : h[id]? = some (.loop L)) (o' : AObj) (ob : Obj) (hno : o' = .dead ∨ ∃ L', o' = .loop L') (hnb : ∀ cs e f, ob ≠ .cells cs e f) (hc : o'.live = true → ∀ h', Step ρ h w ρ h' (w.putObj (ρ id) ob) → (∀ d : Nat, h[d]? = some .dfr → h'[d]? = some .dfr) → ObjR P ρ h' (w.putObj (ρ id) ob) (ρ id) o') :
    HR P ρ (h.set id o') (w.putObj (ρ id) ob) ∧ Step ρ h w ρ (h.set id o') (w.putObj (ρ id) ob) := by
  have hid := getElem?_lt hr
  obtain ⟨fn, tmps, x, y, hb, _⟩ := hh.obj id _ hr
  have hother : ∀ b, b ≠ ρ id → (w.putObj (ρ id) ob).heap[b]? = w.heap[b]? := fun b hb => World.putObj_heap_other hb
  have hsame : (w.putObj (ρ id) ob).heap[ρ id]? = some ob := World.putObj_heap_same (heap_lt hb)
  have hbs : blockSize (w.putObj (ρ id) ob) (ρ id) = blockSize w (ρ id) := by
    unfold blockSize
    rw [hsame, hb]
    cases ob <;> first | rfl | exact absurd rfl (hnb _ _ _)
  have s : Step ρ h w ρ (h.set id o') (w.putObj (ρ id) ob) := by
    refine Step.change hh id (by simp) (fun j hj _ => set_other h id _ j hj) (fun j _ => rfl) (fun b _ hne => hother b (hne _ hr rfl)) ?_ ?_ (.inl ⟨_, hr, rfl, rfl⟩) (by simp) rfl rfl rfl
    · intro o'' ho' hl _
      rw [set_same h id _ hid] at ho'
      cases ho'
      rcases hno with rfl | ⟨L', rfl⟩
      · cases hl
      · exact ⟨_, hr, trivial, trivial, fun _ => ⟨rfl, hbs⟩⟩
    · intro j o' hj hge ho'
      rw [List.getElem?_eq_none (by simp; omega)] at ho'
      cases ho'
  have hdf : ∀ d : Nat, h[d]? = some .dfr → (h.set id o')[d]? = some .dfr := fun d hd => by
    rw [set_other h id _ d (fun c => by rw [c, hr] at hd; cases hd)]; exact hd
  refine ⟨HR.change hh s id (fun j hj => set_other h id _ j hj) (fun j _ => rfl) (fun j o hj ho hl => hother (ρ j) (fun e => hj (hh.inj j id o _ ho hr hl rfl e))) (by rw [hr]; simp) ?_ (fun j o hj ho hl e => hj (hh.inj j id o _ ho hr hl rfl e)) (fun _ _ _ => hh.xo id _ hr rfl), s⟩
  intro o'' ho'
  rw [set_same h id _ hid] at ho'
  cases ho'
  cases hl : o'.live with
  | true => exact hc hl _ s hdf
  | false => cases o' <;> first | trivial | (simp [AObj.live] at hl)

theorem run_range {f : FuncId} (he : Enters P f) (fv cvs : Array Value) (g : Operand) (hg : a.eval g = .func (.func f) fv cvs) (l : Nat) :
    ∃ d : Deferred, (resolve a.eval (rangeCall g l) 0).run P w = .ok d w ∧ (invoke d.target d.args).run P w = .ok (.enter f (fv.toList ++ [Value.func (.yield l) #[] #[]] ++ cvs.toList).toArray) w := by
  have he' := fun ar => he ar w
  refine ⟨{ target := .fn (.func f) cvs, args := fv ++ #[Value.func (.yield l) #[] #[]] }, ?_, ?_⟩
  · simp only [resolve, rangeCall, hg, Deferred.ofValue]
    simp [Act.eval]
  · simp only [invoke, he']
    congr 2
    apply Array.ext'
    simp
theorem VRs.append {xs ys : List AV} {vs us : List Value} (h1 : VRs ρ h w xs vs) (h2 : VRs ρ h w ys us) : VRs ρ h w (xs ++ ys) (vs ++ us) := by
  refine ⟨by simp [h1.1, h2.1], fun j u hj => ?_⟩
  rcases Nat.lt_or_ge j xs.length with c | c
  · rw [List.getElem?_append_left c] at hj
    rw [List.getD, List.getElem?_append_left (by rw [h1.1]; exact c)]
    exact h1.2 j u hj
  · rw [List.getElem?_append_right c] at hj
    rw [List.getD, List.getElem?_append_right (by rw [h1.1]; exact c), h1.1]
    exact h2.2 _ u hj
theorem VRs.mono {xs : List AV} {vs : List Value} (h1 : VRs ρ h w xs vs) {ρ' : Rho} {h' : AHeap} {w' : World} (s : Step ρ h w ρ' h' w') : VRs ρ' h' w' xs vs := ⟨h1.1, fun j u hj => (h1.2 j u hj).mono s⟩
theorem VRs.ofArr {xs : List AV} {vs : Array Value} (h1 : xs.length = vs.size) (h2 : ∀ (j : Nat) (u : AV), xs[j]? = some u → VR ρ h w u (vs.getD j undef)) : VRs ρ h w xs vs.toList := by
  refine ⟨by simp [h1], fun j u hj => ?_⟩
  have := h2 j u hj
  simpa [List.getD, Array.getD_eq_getD_getElem?] using this
theorem VRs.one {x : AV} {v : Value} (hv : VR ρ h w x v) : VRs ρ h w [x] [v] := ⟨rfl, fun j u hj => by
  cases j with
  | zero => simp at hj; subst hj; exact hv
  | succ j => simp at hj⟩
theorem jcode_wp {L : Option Nat} {j : Jump} {Q : Exit → Act → World → Prop} (h : Q (jex j) a w) : match j.code with
    | none => Q .normal a w
    | some c => c.wpIn (fence L) 0 P Q a w := by
  cases j with
  | none => exact h
  | ret => exact wpIn_ret h
  | exit id => exact wpIn_exit h

theorem awRange_outer (r : Rel P ρ τ h a w) {g : Operand} {ps : Array Tmp} {assign body : Code} {ca cb : AC} (h1 : comp P assign = some ca) (h2 : comp P body = some cb) {Q : Jump → AFr → AHeap → Prop}
    (H : awRange P none (cx g) ps.toList ca cb Q τ h) {Q' : Exit → Act → World → Prop} (hq : ∀ j ρ' τ' h' a' w', Q j τ' h' → Rel P ρ' τ' h' a' w' → Step ρ h w ρ' h' w' → Hstay h h' → Q' (jex j) a' w') : (Code.rangeFunc g ps assign body).wpIn (fence none) 0 P Q' a w := by
  unfold awRange at H
  split at H
  · rename_i f first captured he _
    obtain ⟨rv, hb, L2, hc, hl, hst, hQ⟩ := H
    have hv := VR_ev r.slot g
    rw [he] at hv
    cases hgv : a.eval g <;> rw [hgv] at hv <;> first | (cases hv; done) | skip
    rename_i fv cvs
    cases hv with
    | fn _ _ _ _ _ l1 l2 hf hcap =>
    refine wpIn_rangeFunc fun fn _ => ?_
    obtain ⟨w1, hw1⟩ : ∃ w1, w1 = w.alloc (.deferred (some [])) := ⟨_, rfl⟩
    obtain ⟨w2, hw2⟩ : ∃ w2, w2 = w1.alloc (.loop { state := .ready, pending := none, fn, tmps := a.tmps, params := ps, assign, body, defers := w.heap.size }) := ⟨_, rfl⟩
    have hp1 : Plus w w1 (.deferred (some [])) := hw1 ▸ Plus.alloc _ _
    have hp2 : Plus w1 w2 _ := hw2 ▸ Plus.alloc _ _
    have hsz1 : w1.heap.size = w.heap.size + 1 := by rw [hw1]; simp
    have hh1 := HR.push r.heap .dfr hp1 hp1.new
    have st1 := Step.push r.heap .dfr hp1
    obtain ⟨lo, hlo⟩ : ∃ lo : ALoop, lo = { st := .ready, pend := .none, slots := τ.s, n := τ.n, ps := ps.toList, assign := ca, body := cb, dfr := h.length } := ⟨_, rfl⟩
    have st2 := Step.push hh1 (.loop lo) hp2
    have hlen1 : (h ++ [AObj.dfr]).length = h.length + 1 := by simp
    have hh2 := HR.push hh1 (.loop lo) hp2 (by
      subst hlo
      refine ⟨fn, a.tmps, assign, body, ?_, h1, h2, r.n, fun i => ((r.slot i).mono st1).mono st2, ?_⟩
      · rw [hp2.new]
        simp only [Jump.code, Array.toArray_toList]
        rw [at_other _ _ _ _ (by rw [hlen1]; omega), at_same]
      · simp)
    rw [hlen1] at hh2 st2
    obtain ⟨ρ2, hρ2⟩ : ∃ ρ2, ρ2 = at_ (at_ ρ h.length w.heap.size) (h.length + 1) w1.heap.size := ⟨_, rfl⟩
    rw [← hρ2] at hh2 st2
    have hr1 : ρ2 (h.length + 1) = w.heap.size + 1 := by rw [hρ2, at_same, hsz1]
    have hr0 : ρ2 h.length = w.heap.size := by rw [hρ2, at_other _ _ _ _ (by omega), at_same]
    have happ : h ++ [AObj.dfr] ++ [AObj.loop lo] = h ++ [.dfr, .loop lo] := by simp
    rw [happ] at hh2 st2
    rw [← hlo] at hc
    have st := st1.trans st2
    obtain ⟨d, d1, d2⟩ := run_range (P := P) (w := w2) hc.enters fv cvs g hgv (w.heap.size + 1)
    refine ⟨w.heap.size + 1, [{ target := .collected w.heap.size, args := #[] }], w2, d, w2, f, _, w2, ?_, d1, fun f' _ => fence_fn none f', d2, by simp [fence_depth], ?_⟩
    · have := run_enterLoop_outer (P := P) (w := w) fn a.tmps ps assign body
      rw [← hw1, ← hw2] at this
      exact this
    have hargs : VRs ρ2 (h ++ [.dfr, .loop lo]) w2 (first ++ [.yld (h.length + 1)] ++ captured) (fv.toList ++ [Value.func (.yield (w.heap.size + 1)) #[] #[]] ++ cvs.toList) := by
      refine .append (.append ((VRs.ofArr l1 hf).mono st) (.one (.yld _ _ (by simp) fun L e => hr1.symm))) ((VRs.ofArr l2 hcap).mono st)
    refine CallsIn.mono (fence_calls (L := none) (hc.run ρ2 w2 _ hh2 hargs)) fun e w3 hret => ?_
    obtain ⟨v, ρ3, rfl, _, g2, g3⟩ := hret
    obtain ⟨fn3, tmps3, as3, bd3, hb3, _⟩ := g2.obj _ _ hl
    have hkeep := g3.keep _ _ hl rfl (by simp)
    obtain ⟨o, o1, o2, _, o3⟩ := hkeep
    have : (h ++ [AObj.dfr, AObj.loop lo])[h.length + 1]? = some (.loop lo) := by
      rw [List.getElem?_append_right (by omega)]; simp
    rw [this] at o1; cases o1
    have hr3 : ρ3 (h.length + 1) = w.heap.size + 1 := by rw [(o3 trivial).1, hr1]
    have hend := run_endLoop (P := P) (w := w3) (l := ρ3 (h.length + 1)) hb3 hst
    obtain ⟨k1, k2⟩ := loop_set g2 hl .dead (Obj.loop { state := .exhausted, pending := L2.pend.code, fn := fn3, tmps := tmps3, params := L2.ps.toArray, assign := as3, body := bd3, defers := ρ3 L2.dfr }) (.inl rfl) (fun _ _ _ c => by cases c) (fun c => by cases c)
    refine ⟨_, _, by rw [← hr3]; exact hend, ?_⟩
    have hs : Hstay h (hb.set (h.length + 1) .dead) := by
      refine Hstay.trans (Hstay.trans (Hstay.app h [.dfr, .loop lo]) hc.dfr) (Hstay.set _ _ _ (by rw [hl]; simp))
    have hd : Hstay (h ++ [.dfr, .loop lo]) (hb.set (h.length + 1) .dead) := Hstay.trans hc.dfr (Hstay.set _ _ _ (by rw [hl]; simp))
    refine jcode_wp (hq L2.pend ρ3 _ _ _ _ hQ ?_ (st.trans (g3.trans k2)) hs)
    have hst3 := st.trans (g3.trans k2)
    have rm := r.step k1 hst3 hs
    have hdd : (hb.set (h.length + 1) .dead)[h.length]? = some .dfr := hd h.length (by simp)
    have hr30 : ρ3 h.length = w.heap.size := by
      have h2d : hb[h.length]? = some .dfr := hc.dfr h.length (by simp)
      obtain ⟨o, o1, o2, _, o3⟩ := g3.keep _ _ h2d rfl (by simp)
      have : (h ++ [AObj.dfr, AObj.loop lo])[h.length]? = some .dfr := by simp
      rw [this] at o1; cases o1
      rw [(o3 trivial).1, hr0]
    refine ⟨k1, rm.n, rm.slot, ?_, ?_⟩
    · simp only [List.map_cons, hr30, List.singleton_append, rm.dfr]
    · intro d' hd'
      rcases List.mem_cons.1 hd' with rfl | hd'
      · exact hdd
      · exact rm.dfrs d' hd'
  · rename_i hx; simp at hx
  · exact H.elim
theorem awRange_inner (r : Rel P ρ τ h a w) {l b : Nat} (hrd : RdOK (some l) (some b) ρ h) {g : Operand} {ps : Array Tmp} {assign body : Code} {ca cb : AC} (h1 : comp P assign = some ca) (h2 : comp P body = some cb) {Q : Jump → AFr → AHeap → Prop}
    (H : awRange P (some l) (cx g) ps.toList ca cb Q τ h) {Q' : Exit → Act → World → Prop} (hq : ∀ j ρ' τ' h' a' w', Q j τ' h' → Rel P ρ' τ' h' a' w' → Step ρ h w ρ' h' w' → Hstay h h' → Q' (jex j) a' w') : (Code.rangeFunc g ps assign body).wpIn (fence (some b)) 0 P Q' a w := by
  unfold awRange at H
  split at H
  · rename_i hx; simp at hx
  · rename_i f first captured l' he hle
    cases hle
    obtain ⟨L0, hL0, rv, hb, L2, hc, hl, hst, hQ⟩ := H
    have hv := VR_ev r.slot g
    rw [he] at hv
    cases hgv : a.eval g <;> rw [hgv] at hv <;> first | (cases hv; done) | skip
    rename_i fv cvs
    cases hv with
    | fn _ _ _ _ _ l1 l2 hf hcap =>
    refine wpIn_rangeFunc fun fn _ => ?_
    obtain ⟨fn0, tmps0, as0, bd0, hb0, _, _, _, _, hdf⟩ := r.heap.obj _ _ hL0
    have hρl : ρ l = b := hrd.2 L0 hL0
    obtain ⟨w2, hw2⟩ : ∃ w2, w2 = w.alloc (.loop { state := .ready, pending := none, fn, tmps := a.tmps, params := ps, assign, body, defers := ρ L0.dfr }) := ⟨_, rfl⟩
    have hp2 : Plus w w2 _ := hw2 ▸ Plus.alloc _ _
    obtain ⟨lo, hlo⟩ : ∃ lo : ALoop, lo = { st := .ready, pend := .none, slots := τ.s, n := τ.n, ps := ps.toList, assign := ca, body := cb, dfr := L0.dfr } := ⟨_, rfl⟩
    have st := Step.push r.heap (.loop lo) hp2
    have hdl := getElem?_lt hdf
    have hh2 := HR.push r.heap (.loop lo) hp2 (by
      subst hlo
      refine ⟨fn, a.tmps, assign, body, ?_, h1, h2, r.n, fun i => (r.slot i).mono st, ?_⟩
      · rw [hp2.new]
        simp only [Jump.code, Array.toArray_toList]
        rw [at_other _ _ _ _ (by omega)]
      · dsimp only
        rw [push_get _ _ _ (by omega)]; exact hdf)
    obtain ⟨ρ2, hρ2⟩ : ∃ ρ2, ρ2 = at_ ρ h.length w.heap.size := ⟨_, rfl⟩
    rw [← hρ2] at hh2 st
    have hr1 : ρ2 h.length = w.heap.size := by rw [hρ2, at_same]
    rw [← hlo] at hc
    obtain ⟨d, d1, d2⟩ := run_range (P := P) (w := w2) hc.enters fv cvs g hgv w.heap.size
    refine ⟨w.heap.size, [], w2, d, w2, f, _, w2, ?_, d1, fun f' _ => fence_fn (some b) f', d2, by simp [fence_depth], ?_⟩
    · have := run_enterLoop_inner (P := P) (w := w) (l₀ := b) (by rw [← hρl]; exact hb0) fn a.tmps ps assign body
      rw [← hw2] at this
      exact this
    have hargs : VRs ρ2 (h ++ [.loop lo]) w2 (first ++ [.yld h.length] ++ captured) (fv.toList ++ [Value.func (.yield w.heap.size) #[] #[]] ++ cvs.toList) := by
      refine .append (.append ((VRs.ofArr l1 hf).mono st) (.one (.yld _ _ (by simp) fun L e => hr1.symm))) ((VRs.ofArr l2 hcap).mono st)
    refine CallsIn.mono (fence_calls (L := some b) (hc.run ρ2 w2 _ hh2 hargs)) fun e w3 hret => ?_
    obtain ⟨v, ρ3, rfl, _, g2, g3⟩ := hret
    obtain ⟨fn3, tmps3, as3, bd3, hb3, _⟩ := g2.obj _ _ hl
    obtain ⟨o, o1, o2, _, o3⟩ := g3.keep _ _ hl rfl (by simp)
    rw [push_last] at o1; cases o1
    have hr3 : ρ3 h.length = w.heap.size := by rw [(o3 trivial).1, hr1]
    have hend := run_endLoop (P := P) (w := w3) (l := ρ3 h.length) hb3 hst
    obtain ⟨k1, k2⟩ := loop_set g2 hl .dead (Obj.loop { state := .exhausted, pending := L2.pend.code, fn := fn3, tmps := tmps3, params := L2.ps.toArray, assign := as3, body := bd3, defers := ρ3 L2.dfr }) (.inl rfl) (fun _ _ _ c => by cases c) (fun c => by cases c)
    refine ⟨_, _, by rw [← hr3]; exact hend, ?_⟩
    have hs : Hstay h (hb.set h.length .dead) := by
      refine Hstay.trans (Hstay.trans (Hstay.app h [.loop lo]) hc.dfr) (Hstay.set _ _ _ (by rw [hl]; simp))
    have hst3 := st.trans (g3.trans k2)
    exact jcode_wp (L := some b) (hq L2.pend ρ3 _ _ _ _ hQ (r.step k1 hst3 hs) hst3 hs)
  · exact H.elim
end Go.Av

/- Walking code in the short words: it is what the machine does. -/
set_option linter.unusedVariables false
set_option linter.unusedSimpArgs false
namespace Go.Av
open Go
variable {P : Program}

theorem loop_wp {F : Fence} {n : Nat} {c : Code} {Q : Exit → Act → World → Prop} (J : Nat → Act → World → Prop) {a : Act} {w : World} (h0 : ∃ k, J k a w)
    (round : ∀ k a w, J k a w → c.wpIn F n P (Exit.then (fun a' w' => ∃ m, m < k ∧ J m a' w') Q) a w) : (Code.loop c).wpIn F n P Q a w := by
  have least : ∀ a w, ∃ μ : Nat, (∃ k, J k a w) → J μ a w ∧ ∀ k, J k a w → μ ≤ k := by
    intro a w
    by_cases hk : ∃ k, J k a w
    · obtain ⟨k, hk⟩ := hk
      induction k using Nat.strongRecOn with
      | _ k ih =>
        by_cases c : ∃ m, m < k ∧ J m a w
        · obtain ⟨m, c1, c2⟩ := c; exact ih m c1 c2
        · exact ⟨k, fun _ => ⟨hk, fun m hm => by rcases Nat.lt_or_ge m k with h | h; exact absurd ⟨m, h, hm⟩ c; exact h⟩⟩
    · exact ⟨0, fun h => absurd h hk⟩
  refine wpIn_loop (fun a w => ∃ k, J k a w) (fun a w => (least a w).choose) h0 fun a w hJ => ?_
  obtain ⟨l1, l2⟩ := (least a w).choose_spec hJ
  refine wpIn_mono (round _ a w l1) fun e a' w' hq => ?_
  cases e with
  | normal =>
    obtain ⟨m, hm, hJ'⟩ := hq
    obtain ⟨m1, m2⟩ := (least a' w').choose_spec ⟨m, hJ'⟩
    exact ⟨⟨m, hJ'⟩, Nat.lt_of_le_of_lt (m2 m hJ') hm⟩
  | exit id => exact hq
  | goto l => exact hq
  | ret => exact hq
  | panic ch => exact hq
  | outgrown => exact hq

theorem aw_sound (hm : P.follows .mixedOrders = true) (rd L : Option Nat) : ∀ (c : Code) (ac : AC), comp P c = some ac → ∀ (Q : Jump → AFr → AHeap → Prop) (ρ : Rho) (τ : AFr) (h : AHeap) (a : Act) (w : World),
    aw P rd ac Q τ h → Rel P ρ τ h a w → RdOK rd L ρ h → ∀ (Q' : Exit → Act → World → Prop),
    (∀ j ρ' τ' h' a' w', Q j τ' h' → Rel P ρ' τ' h' a' w' → Step ρ h w ρ' h' w' → Hstay h h' → Q' (jex j) a' w') → c.wpIn (fence L) 0 P Q' a w := by
  intro c
  induction c with
  | skip => intro ac hc Q ρ τ h a w H r hrd Q' hq; cases hc; exact wpIn_skip (hq .none _ _ _ _ _ H r (Step.refl _ _ _) (Hstay.refl h))
  | region id ops draw =>
    intro ac hc Q ρ τ h a w H r hrd Q' hq
    cases draw with
    | false =>
      simp only [comp, Option.map_eq_some_iff] at hc
      obtain ⟨al, h1, rfl⟩ := hc
      refine wpIn_region ?_
      rw [List.range_eq_range']
      exact awOps_sound L h1 (K := Q .none) (fun ρ' τ' h' a' w' k r' s' d' => hq .none ρ' τ' h' a' w' k r' s' d') ops.size 0 (by simp) ρ τ h a w r (Step.refl _ _ _) (Hstay.refl h) H
    | true =>
      simp only [comp, Option.map_eq_some_iff] at hc
      obtain ⟨al, h1, rfl⟩ := hc
      refine wpIn_region_any hm ?_
      have hlen : al.length = ops.size := by have := (cOps_get h1).1; simpa using this
      have hstep : Step ρ h w ρ h { w with drawn := w.drawn + 1 } := ⟨Nat.le_refl _, fun i o ho hl _ => ⟨o, ho, AObj.to_refl hl, AObj.same_refl o, fun _ => ⟨rfl, rfl⟩⟩, fun b hb => ⟨rfl, hb.lt, hb.free⟩, Nat.le_refl _, rfl, rfl, rfl, rfl, fun _ _ => rfl⟩
      have r' : Rel P ρ τ h a { w with drawn := w.drawn + 1 } := by
        refine r.step ?_ hstep (Hstay.refl h)
        refine ⟨fun i o ho => ?_, r.heap.inj, r.heap.xo, r.heap.xl⟩
        exact (r.heap.obj i o ho).mono hstep rfl fun d hd => ⟨hd, rfl⟩
      have main : ∀ M loud iv hs, drawOK al M loud iv = true → hs 0 = h → awL P loud iv hs 0 al (fun τ => Q .none τ (hs loud.length)) τ → wpAnyIn (fence L) 0 P .any ops Q' ops.size (Array.replicate ops.size false) a { w with drawn := w.drawn + 1 } := by
        intro M loud iv hs hok h0 hL
        subst h0
        obtain ⟨xs, _, f, hK⟩ := awL_facts al 0 τ hL
        have gf : ∀ i, (Array.replicate ops.size false).getD i false = false := fun i => by
          rw [Array.getD_eq_getD_getElem?, Array.getElem?_replicate]; split <;> rfl
        refine awDraw_main (Sane.of hok) L h1 f (Q := Q') (ρ₀ := ρ) (w₀ := w) (fun ρ' a' w' r' s' d' => hq .none ρ' _ _ a' w' hK r' s' d') ops.size _ ρ τ a _ 0 (by simp [hlen]) ?_ ?_ (Nat.zero_le _) ?_ rfl rfl ?_ ?_ r' hstep (Hstay.refl _)
        · rw [Array.toList_replicate]
          have : ∀ n, unlisted (List.replicate n false) = n := fun n => by
            induction n with
            | zero => rfl
            | succ n ih => simp [List.replicate_succ, unlisted, ih, Nat.add_comm]
          rw [this]; exact Nat.le_refl _
        · intro i o hi hS; rw [gf] at hS; cases hS
        · intro q l hq; rw [gf]; simp
        · intro j o u hj ho hS; rw [gf] at hS; cases hS
        · intro u _; rfl
      rcases H with ⟨M, hok, hQ⟩ | ⟨M, loud, iv, hs, hok, h0, hL⟩ | ⟨M, loud, iv, hs, fl, hok, h0, hL⟩
      · exact main M [] [] (fun _ => h) hok rfl (awQ_awL al 0 _ τ hQ)
      · exact main M loud iv hs hok h0 hL
      · subst h0
        obtain ⟨xs, _, f, hK⟩ := awL_facts al 0 τ hL
        have gf : ∀ i, (Array.replicate ops.size false).getD i false = false := fun i => by
          rw [Array.getD_eq_getD_getElem?, Array.getElem?_replicate]; split <;> rfl
        refine awDraw_main2 (SaneF.of hok) L h1 f (Q := Q') (ρ₀ := ρ) (w₀ := w) r.heap.xl (fun ρ' a' w' r' s' d' => hq .none ρ' _ _ a' w' hK r' s' d') ops.size _ ρ τ a _ 0 (fun _ => 0) (by simp [hlen]) ?_ ?_ ⟨Nat.zero_le _, ?_, ?_, rfl, rfl, ?_, ?_, ?_, ?_, r', hstep, ⟨fun b hb => hb, fun b hb => .inl hb⟩, fun b hb => .inl hb, Hstay.refl _⟩ ?_
        · rw [Array.toList_replicate]
          have : ∀ n, unlisted (List.replicate n false) = n := fun n => by
            induction n with
            | zero => rfl
            | succ n ih => simp [List.replicate_succ, unlisted, ih, Nat.add_comm]
          rw [this]; exact Nat.le_refl _
        · intro i o hi hS; rw [gf] at hS; cases hS
        · intro q l hq hlt; omega
        · intro q l hq hl; rw [gf] at hl; cases hl
        · intro j o u hj ho hS; rw [gf] at hS; cases hS
        · intro q j o u hq hle hS; rw [gf] at hS; cases hS
        · intro q q' j j' h1 h2 h3 h4 hS; rw [gf] at hS; cases hS
        · intro u _; rfl
        · intro l hl; exact gf l
  | seq x y ihx ihy =>
    intro ac hc Q ρ τ h a w H r hrd Q' hq
    simp only [comp] at hc
    split at hc
    · rename_i ax ay h1 h2
      cases hc
      refine wpIn_seq (ihx ax h1 _ ρ τ h a w H r hrd _ fun j ρ' τ' h' a' w' k r' s' d' => ?_)
      cases j with
      | none => exact ihy ay h2 Q ρ' τ' h' a' w' k r' (hrd.step s') _ fun j ρ'' τ'' h'' a'' w'' k'' r'' s'' d'' => hq j _ _ _ _ _ k'' r'' (s'.trans s'') (d'.trans d'')
      | ret => exact hq .ret _ _ _ _ _ k r' s' d'
      | exit id => exact hq (.exit id) _ _ _ _ _ k r' s' d'
    · cases hc
  | cond c x y ihx ihy =>
    intro ac hc Q ρ τ h a w H r hrd Q' hq
    simp only [comp] at hc
    split at hc
    · rename_i ax ay h1 h2
      cases hc
      simp only [aw] at H
      split at H
      · rename_i t ht
        have hv := VR_ev r.slot c
        rw [ht] at hv
        cases hcv : a.eval c <;> rw [hcv] at hv <;> first | (cases hv; done) | skip
        cases hv
        exact wpIn_cond_split hcv (fun e => ihx ax h1 Q ρ τ h a w (H.1 e) r hrd Q' hq) (fun e => ihy ay h2 Q ρ τ h a w (H.2 e) r hrd Q' hq)
      · rename_i ht
        have hv := VR_ev r.slot c
        rw [ht] at hv
        cases hcv : a.eval c <;> rw [hcv] at hv <;> first | (cases hv; done) | skip
        exact wpIn_cond_split hcv (fun e => ihx ax h1 Q ρ τ h a w H.1 r hrd Q' hq) (fun e => ihy ay h2 Q ρ τ h a w H.2 r hrd Q' hq)
      · exact H.elim
    · cases hc
  | block id x ih =>
    intro ac hc Q ρ τ h a w H r hrd Q' hq
    simp only [comp, Option.map_eq_some_iff] at hc
    obtain ⟨ax, h1, rfl⟩ := hc
    refine wpIn_block (ih ax h1 _ ρ τ h a w H r hrd _ fun j ρ' τ' h' a' w' k r' s' d' => ?_)
    cases j with
    | none => exact hq .none _ _ _ _ _ (by simpa using k) r' s' d'
    | ret => exact hq .ret _ _ _ _ _ (by simpa using k) r' s' d'
    | exit i =>
      simp only [jex, Exit.inBlock]
      by_cases e : i = id
      · subst e
        rw [if_pos rfl]
        exact hq .none _ _ _ _ _ (by simpa using k) r' s' d'
      · rw [if_neg e]
        exact hq (.exit i) _ _ _ _ _ (by rw [if_neg (by simpa using e)] at k; exact k) r' s' d'
  | loop x ih =>
    intro ac hc Q ρ τ h a w H r hrd Q' hq
    simp only [comp, Option.map_eq_some_iff] at hc
    obtain ⟨ax, h1, rfl⟩ := hc
    obtain ⟨I, ⟨n0, τ0, i0, le0⟩, hround⟩ := H
    refine loop_wp (fun n a' w' => ∃ ρ' τ' h', I n τ' h' ∧ Rel P ρ' τ' h' a' w' ∧ Step ρ h w ρ' h' w' ∧ Hstay h h') ⟨n0, ρ, τ0, h, i0, r.le le0, Step.refl _ _ _, Hstay.refl h⟩ ?_
    rintro n a1 w1 ⟨ρ1, τ1, h1', i1, r1, s1, d1⟩
    refine ih ax h1 _ ρ1 τ1 h1' a1 w1 (hround n τ1 h1' i1) r1 (hrd.step s1) _ fun j ρ' τ' h' a' w' k r' s' d' => ?_
    cases j with
    | none =>
      obtain ⟨m, τ'', hlt, i2, le2⟩ := k
      exact ⟨m, hlt, ρ', τ'', h', i2, r'.le le2, s1.trans s', d1.trans d'⟩
    | ret => exact hq .ret _ _ _ _ _ k r' (s1.trans s') (d1.trans d')
    | exit i => exact hq (.exit i) _ _ _ _ _ k r' (s1.trans s') (d1.trans d')
  | rangeFunc g ps x y ihx ihy =>
    intro ac hc Q ρ τ h a w H r hrd Q' hq
    simp only [comp] at hc
    split at hc
    · rename_i ax ay h1 h2
      cases hc
      cases rd with
      | none =>
        cases L with
        | none => exact awRange_outer r h1 h2 H hq
        | some b => exact hrd.elim
      | some l =>
        cases L with
        | none => exact hrd.elim
        | some b => exact awRange_inner r hrd h1 h2 H hq
    · cases hc
  | exit id => intro ac hc Q ρ τ h a w H r hrd Q' hq; cases hc; exact wpIn_exit (hq (.exit id) _ _ _ _ _ H r (Step.refl _ _ _) (Hstay.refl h))
  | ret => intro ac hc Q ρ τ h a w H r hrd Q' hq; cases hc; exact wpIn_ret (hq .ret _ _ _ _ _ H r (Step.refl _ _ _) (Hstay.refl h))
  | _ => intro ac hc; cases hc
end Go.Av

/- A function's contract out of its body; what it hands back, and what it leaves. -/
set_option linter.unusedVariables false
set_option linter.unusedSimpArgs false
namespace Go.Av
open Go

inductive RV where
  | t (i : Nat)
  | c (a : Nat) (n : Option Nat)
  deriving Inhabited
def cRes (P : Program) : List ResultVar → Option (List RV)
  | [] => some []
  | .tmp t :: r => (cRes P r).map (.t t :: ·)
  | .cell a t :: r => match ldk P t, cRes P r with
    | some n, some l => some (.c a n :: l)
    | _, _ => none
def chk (P : Program) (f : FuncId) : Option (AC × List RV × Nat) :=
  match P.funcs[f]? with
  | some fn => if fn.name == "runtime.NumGoroutine" then none else
    match fn.body with
    | some c => match comp P c, cRes P fn.results.toList with
      | some ac, some rs => some (ac, rs, fn.ntmps)
      | _, _ => none
    | none => none
  | none => none
def ares (s : List (Nat × AV)) (h : AHeap) : RV → Option AV
  | .t i => some (alook s i)
  | .c a n => match ptrCells h (alook s a) with
    | some cs => takeAs n cs
    | none => none
def aresl (s : List (Nat × AV)) (h : AHeap) : List RV → Option (List AV)
  | [] => some []
  | r :: l => match ares s h r, aresl s h l with
    | some x, some xs => some (x :: xs)
    | _, _ => none
def resv : List AV → AV
  | [x] => x
  | xs => .tup xs
def kills (ds : List Nat) (h : AHeap) : AHeap := ds.foldl (fun h d => h.set d .dead) h
def NoDfr (h : AHeap) (ds : List Nat) : Prop := ∀ (i : Nat) (L : ALoop), h[i]? = some (.loop L) → L.dfr ∉ ds
def argS : Nat → List AV → List (Nat × AV)
  | _, [] => []
  | i, x :: r => (i, x) :: argS (i + 1) r

def Gst (P : Program) (h₀ : AHeap) (x : AV) (h : AHeap) (r : AV) (h' : AHeap) : Prop :=
  ∀ ρ₀ w₀ ρ w v, Step ρ₀ h₀ w₀ ρ h w → HR P ρ h w → VR ρ h w x v → ∃ ρ', HR P ρ' h' w ∧ VR ρ' h' w r v ∧ Step ρ₀ h₀ w₀ ρ' h' w

variable {P : Program} {ρ : Rho} {h : AHeap} {w : World} {τ : AFr} {a : Act}
theorem Gst.refl (h₀ : AHeap) (x : AV) (h : AHeap) : Gst P h₀ x h x h := fun ρ₀ w₀ ρ w v s hh hv => ⟨ρ, hh, hv, s⟩
theorem Gst.trans {h₀ h h' h'' : AHeap} {x y z : AV} (a : Gst P h₀ x h y h') (b : Gst P h₀ y h' z h'') : Gst P h₀ x h z h'' := fun ρ₀ w₀ ρ w v s hh hv => by
  obtain ⟨ρ', h1, h2, h3⟩ := a ρ₀ w₀ ρ w v s hh hv
  exact b ρ₀ w₀ ρ' w v h3 h1 h2
theorem Gst.drop {h₀ h l : AHeap} {x : AV} (hlen : h₀.length ≤ h.length) (hb : HB h) (hx : Bel h.length x) : Gst P h₀ x (h ++ l) x h := by
  intro ρ₀ w₀ ρ w v s hh hv
  have at' : ∀ {i : Nat} {o : AObj}, h[i]? = some o → (h ++ l)[i]? = some o := fun {i o} hi => by rw [List.getElem?_append_left (getElem?_lt hi)]; exact hi
  refine ⟨ρ, ⟨fun i o hi => (hh.obj i o (at' hi)).drop (hb i o hi), fun i j o p hi hj => hh.inj i j o p (at' hi) (at' hj), fun i o hi => hh.xo i o (at' hi), hh.xl⟩, hv.drop hx, hlen, fun i o' hi hl hlt => s.keep i o' (at' hi) hl hlt, fun b hb => ?_, s.size, s.os, s.tape, s.output, s.x, s.kx⟩
  obtain ⟨h1, h2⟩ := s.free b hb
  exact ⟨h1, h2.drop⟩
/-- An object dies: its block is never written again. -/
theorem kill_at (hh : HR P ρ h w) {id : Nat} {o : AObj} (ho : h[id]? = some o) (hd : o ≠ .dfr) : HR P ρ (h.set id .dead) w ∧ Step ρ h w ρ (h.set id .dead) w := by
  have hid := getElem?_lt ho
  have s : Step ρ h w ρ (h.set id .dead) w := by
    refine Step.change hh id (by simp) (fun j hj _ => set_other h id _ j hj) (fun j _ => rfl) (fun b _ _ => rfl) ?_ ?_ (.inr (.inr ?_)) (Nat.le_refl _) rfl rfl rfl
    · intro o' ho' hl _
      rw [set_same h id _ hid] at ho'; cases ho'; cases hl
    · intro j o' hj hge ho'
      rw [List.getElem?_eq_none (by simp; omega)] at ho'; cases ho'
    · intro o' ho'
      rw [set_same h id _ hid] at ho'; cases ho'; rfl
  refine ⟨?_, s⟩
  constructor
  · intro j p hp
    by_cases e : j = id
    · subst e; rw [set_same h j _ hid] at hp; cases hp; trivial
    · rw [set_other h id _ j e] at hp
      refine (hh.obj j p hp).mono s rfl fun d hdf => ⟨?_, rfl⟩
      rw [set_other h id _ d (fun c => by subst c; rw [ho] at hdf; cases hdf; exact hd rfl)]; exact hdf
  · intro i j o p hi hj li lj e
    have f : ∀ {i : Nat} {o : AObj}, (h.set id .dead)[i]? = some o → o.live = true → h[i]? = some o := fun {i o} hi li => by
      by_cases e : i = id
      · subst e; rw [set_same h i _ hid] at hi; cases hi; cases li
      · rw [set_other h id _ i e] at hi; exact hi
    exact hh.inj i j o p (f hi li) (f hj lj) li lj e
  · intro i o hi li
    by_cases e : i = id
    · subst e; rw [set_same h i _ hid] at hi; cases hi; cases li
    · rw [set_other h id _ i e] at hi; exact hh.xo i o hi li
  · exact hh.xl
theorem Gst.kill {h₀ h : AHeap} {x : AV} {id : Nat} {o : AObj} (ho : h[id]? = some o) (hd : o ≠ .dfr) : Gst P h₀ x h x (h.set id .dead) := by
  intro ρ₀ w₀ ρ w v s hh hv
  obtain ⟨k1, k2⟩ := kill_at hh ho hd
  exact ⟨ρ, k1, hv.mono k2, s.trans k2⟩
end Go.Av

/- A function's contract out of its body. -/
set_option linter.unusedVariables false
set_option linter.unusedSimpArgs false
namespace Go.Av
open Go
variable {P : Program} {ρ : Rho} {h : AHeap} {w : World} {τ : AFr} {a : Act}

theorem kill_dfr (hh : HR P ρ h w) {d : Nat} (hd : h[d]? = some .dfr) (hn : NoDfr h [d]) :
    HR P ρ (h.set d .dead) (w.putObj (ρ d) (.deferred none)) ∧ Step ρ h w ρ (h.set d .dead) (w.putObj (ρ d) (.deferred none)) := by
  have hid := getElem?_lt hd
  have hb : w.heap[ρ d]? = some (.deferred (some [])) := hh.obj d _ hd
  have hother : ∀ b, b ≠ ρ d → (w.putObj (ρ d) (.deferred none)).heap[b]? = w.heap[b]? := fun b hb => World.putObj_heap_other hb
  have s : Step ρ h w ρ (h.set d .dead) (w.putObj (ρ d) (.deferred none)) := by
    refine Step.change hh d (by simp) (fun j hj _ => set_other h d _ j hj) (fun j _ => rfl) (fun b _ hne => hother b (hne _ hd rfl)) ?_ ?_ (.inl ⟨_, hd, rfl, rfl⟩) (by simp) rfl rfl rfl
    · intro o' ho' hl _
      rw [set_same h d _ hid] at ho'; cases ho'; cases hl
    · intro j o' hj hge ho'
      rw [List.getElem?_eq_none (by simp; omega)] at ho'; cases ho'
  refine ⟨?_, s⟩
  constructor
  · intro j o ho
    by_cases e : j = d
    · subst e; rw [set_same h j _ hid] at ho; cases ho; trivial
    · rw [set_other h d _ j e] at ho
      have hr := hh.obj j o ho
      have hbk : o.live = true → (w.putObj (ρ d) (.deferred none)).heap[ρ j]? = w.heap[ρ j]? := fun hl => hother _ (fun c => e (hh.inj j d o _ ho hd hl rfl c))
      cases o with
      | row ver sz es =>
        obtain ⟨cs, e, h0, h1, h2, h3, h4⟩ := hr
        exact ⟨cs, e, (hbk rfl).trans h0, h1, h2, h3, fun j u hj => by obtain ⟨v, e1, e2⟩ := h4 j u hj; exact ⟨v, e1, e2.mono s⟩⟩
      | map es =>
        obtain ⟨cs, e, h0, h1, h2⟩ := hr
        exact ⟨cs, e, (hbk rfl).trans h0, h1, fun j k u hj => by obtain ⟨e0, e1, e2⟩ := h2 j k u hj; exact ⟨e0, e1.mono s, e2.mono s⟩⟩
      | loop L =>
        obtain ⟨fn, tmps, x, y, h0, h1, h2, h3, h4, h5⟩ := hr
        refine ⟨fn, tmps, x, y, (hbk rfl).trans h0, h1, h2, h3, fun i => (h4 i).mono s, ?_⟩
        rw [set_other h d _ _ (fun c => hn j L ho (by rw [c]; simp))]; exact h5
      | dfr => exact (hbk rfl).trans hr
      | dead => trivial
  · intro i j o p hi hj li lj e
    have f : ∀ {i : Nat} {o : AObj}, (h.set d .dead)[i]? = some o → o.live = true → h[i]? = some o := fun {i o} hi li => by
      by_cases e : i = d
      · subst e; rw [set_same h i _ hid] at hi; cases hi; cases li
      · rw [set_other h d _ i e] at hi; exact hi
    exact hh.inj i j o p (f hi li) (f hj lj) li lj e
  · intro i o hi li
    by_cases e : i = d
    · subst e; rw [set_same h i _ hid] at hi; cases hi; cases li
    · rw [set_other h d _ i e] at hi; exact hh.xo i o hi li
  · intro b hb
    exact Nat.lt_of_lt_of_le (hh.xl b hb) (by simp)

theorem run_ares (r : Rel P ρ τ h a w) : ∀ (l : List ResultVar) (rs : List RV) (xs : List AV), cRes P l = some rs → aresl τ.s h rs = some xs →
    ∃ vs, (l.mapM fun
      | ResultVar.tmp t => pure (a.tmps.getD t undef)
      | .cell p t => do loadVar t (← asAddr (a.tmps.getD p undef)) : Sem (List Value)).run P w = .ok vs w ∧ VRs ρ h w xs vs
  | [], rs, xs, e1, e2 => by
    simp only [cRes, Option.some.injEq] at e1; subst e1
    simp only [aresl, Option.some.injEq] at e2; subst e2
    exact ⟨[], by simp, ⟨rfl, by simp⟩⟩
  | v :: l, rs, xs, e1, e2 => by
    have key : ∃ r0 rs', rs = r0 :: rs' ∧ cRes P l = some rs' ∧ ∀ x, ares τ.s h r0 = some x → ∃ val, (match v with
      | ResultVar.tmp t => pure (a.tmps.getD t undef)
      | .cell p t => do loadVar t (← asAddr (a.tmps.getD p undef)) : Sem Value).run P w = .ok val w ∧ VR ρ h w x val := by
      cases v with
      | tmp t =>
        simp only [cRes, Option.map_eq_some_iff] at e1
        obtain ⟨rs', h1, rfl⟩ := e1
        refine ⟨_, _, rfl, h1, fun x hx => ?_⟩
        simp only [ares, Option.some.injEq] at hx; subst hx
        exact ⟨_, rfl, r.slot t⟩
      | cell p t =>
        simp only [cRes] at e1
        split at e1
        · rename_i n rs' h1 h2
          cases e1
          refine ⟨_, _, rfl, h2, fun x hx => ?_⟩
          simp only [ares] at hx
          split at hx
          · rename_i cs hcs
            obtain ⟨val, g1, g2⟩ := s_load r.heap h1 (r.slot p) hcs hx
            obtain ⟨b, o, hp, _⟩ := ptr_cells r.heap (r.slot p) hcs
            refine ⟨val, ?_, g2⟩
            rw [hp] at g1
            dsimp only
            rw [hp]
            simpa [Instr.loadAt, Instr.sureAddr, asAddr] using g1
          · cases hx
        · cases e1
    obtain ⟨r0, rs', rfl, h1, h2⟩ := key
    simp only [aresl] at e2
    split at e2
    · rename_i x xs' h3 h4
      cases e2
      obtain ⟨val, g1, g2⟩ := h2 x h3
      obtain ⟨vs, g3, g4⟩ := run_ares r l rs' xs' h1 h4
      refine ⟨val :: vs, ?_, ?_⟩
      · rw [List.mapM_cons]
        simp only [Sem.run_bind, g1, g3, Result.andThen_ok, Sem.run_pure]
      · exact VRs.append (VRs.one g2) g4
    · cases e2
theorem run_results (r : Rel P ρ τ h a w) (fn : Func) {rs : List RV} {xs : List AV} (h1 : cRes P fn.results.toList = some rs) (h2 : aresl τ.s h rs = some xs) : ∃ v, (results fn a.tmps).run P w = .ok v w ∧ VR ρ h w (resv xs) v := by
  obtain ⟨vs, g1, g2⟩ := run_ares r _ _ _ h1 h2
  have g1' : (fn.results.mapM fun
      | ResultVar.tmp t => pure (a.tmps.getD t undef)
      | .cell p t => do loadVar t (← asAddr (a.tmps.getD p undef)) : Sem (Array Value)).run P w = .ok vs.toArray w := by
    rw [Array.mapM_eq_mapM_toList]
    have : ∀ {α β : Type} (f : α → β) (s : Sem α), f <$> s = s >>= fun x => pure (f x) := fun f s => by
      rfl
    rw [this]
    simp only [Sem.run_bind, g1, Result.andThen_ok, Sem.run_pure]
  refine ⟨if h : vs.length = 1 then vs[0] else .tuple vs.toArray, ?_, ?_⟩
  · unfold results
    simp only [Sem.run_bind]
    erw [g1']
    simp
  · match xs, vs, g2 with
    | [x], [v], g2 => exact g2.2 0 x rfl
    | [], [], g2 => exact .tup [] #[] rfl (by simp)
    | x :: y :: l, vs, g2 =>
      have hl : vs.length = l.length + 2 := by have := g2.1; simpa using this
      rw [dif_neg (by omega)]
      refine .tup _ _ (by simp [hl]) fun j u hj => ?_
      have := g2.2 j u hj
      simpa [List.getD, Array.getD_eq_getD_getElem?] using this
end Go.Av

/- A function's contract out of its body: the rule; a round's; values handed over as they stand. -/
set_option linter.unusedVariables false
set_option linter.unusedSimpArgs false
namespace Go.Av
open Go
variable {P : Program} {ρ : Rho} {h : AHeap} {w : World} {τ : AFr} {a : Act}

theorem argS_look : ∀ (xs : List AV) (i j : Nat), alook (argS i xs) (i + j) = xs.getD j .any
  | [], i, j => by simp [argS, alook]
  | x :: r, i, j => by
    cases j with
    | zero => simp [argS, alook]
    | succ j =>
      simp only [argS, alook]
      rw [if_neg (by omega), show i + (j + 1) = (i + 1) + j by omega, argS_look r (i + 1) j]
      simp
theorem leavesM (fn : Func) {rs : List RV} (hrs : cRes P fn.results.toList = some rs) {xs : List AV} {R : Ending → World → Prop} {ρ₀ : Rho} {h₀ : AHeap} {w₀ : World} : ∀ (ds : List Nat) (ρ : Rho) (h : AHeap) (w : World) (s : List (Nat × AV)) (tmps : Array Value) (n : Nat), ds.Nodup → NoDfr h ds → Rel P ρ { n := n, s := s, dfr := ds } h { tmps := tmps, defers := ds.map fun d => { target := .collected (ρ d), args := #[] } } w → Step ρ₀ h₀ w₀ ρ h w → aresl s (kills ds h) rs = some xs →
    (∀ ρ' w' v, HR P ρ' (kills ds h) w' → VR ρ' (kills ds h) w' (resv xs) v → Step ρ₀ h₀ w₀ ρ' (kills ds h) w' → R (.returned v) w') →
    LeavesInM Fence.wide 0 P fn tmps R (ds.map fun d => { target := .collected (ρ d), args := #[] }) .returning w := by
  intro ds
  induction ds with
  | nil =>
    intro ρ h w s tmps n hnd hno r st hx hR
    obtain ⟨v, g1, g2⟩ := run_results r fn hrs hx
    exact ⟨v, g1, hR ρ w v r.heap g2 st⟩
  | cons d ds ih =>
    intro ρ h w s tmps n hnd hno r st hx hR
    have hd := r.dfrs d (by simp)
    have hb : w.heap[ρ d]? = some (.deferred (some [])) := r.heap.obj d _ hd
    obtain ⟨k1, k2⟩ := kill_dfr r.heap hd (fun i L hi hm => hno i L hi (by simp at hm; simp [hm]))
    have hnd' := List.nodup_cons.1 hnd
    refine ⟨by simp, .inl ⟨ρ d, w.putObj (ρ d) (.deferred none), rfl, run_takeDeferred hb, ?_⟩⟩
    refine ih ρ (h.set d .dead) _ s tmps n hnd'.2 ?_ ?_ (st.trans k2) hx hR
    · intro i L hi
      have hne : i ≠ d := fun c => by subst c; rw [set_same h i _ (getElem?_lt hd)] at hi; cases hi
      rw [set_other h d _ i hne] at hi
      exact fun hm => hno i L hi (List.mem_cons_of_mem _ hm)
    · refine ⟨k1, r.n, fun i => (r.slot i).mono k2, rfl, fun d' hd' => ?_⟩
      have hne : d' ≠ d := fun c => hnd'.1 (c ▸ hd')
      show (h.set d .dead)[d']? = some .dfr
      rw [set_other h d _ d' hne]
      exact r.dfrs d' (List.mem_cons_of_mem _ hd')
/-- What the body of a function is to come to. -/
def Fin (P : Program) (h : AHeap) (rs : List RV) (r : AV) (hR : AHeap) (j : Jump) (τ' : AFr) (h' : AHeap) : Prop :=
  (j = .none ∨ j = .ret) ∧ τ'.dfr.Nodup ∧ NoDfr h' τ'.dfr ∧ ∃ xs, aresl τ'.s (kills τ'.dfr h') rs = some xs ∧ Gst P h (resv xs) (kills τ'.dfr h') r hR
theorem chk_spec {f : FuncId} {ac : AC} {rs : List RV} {n : Nat} (hk : chk P f = some (ac, rs, n)) : ∃ fn c, P.funcs[f]? = some fn ∧ fn.body = some c ∧ (fn.name == "runtime.NumGoroutine") = false ∧ comp P c = some ac ∧ cRes P fn.results.toList = some rs ∧ fn.ntmps = n := by
  unfold chk at hk
  split at hk
  · rename_i fn hf
    split at hk
    · cases hk
    · rename_i hn
      split at hk
      · rename_i c hc
        split at hk
        · rename_i ac' rs' h1 h2
          cases hk
          exact ⟨fn, c, hf, hc, by simpa using hn, h1, h2, rfl⟩
        · cases hk
      · cases hk
  · cases hk
theorem chk_enters {f : FuncId} {x : AC × List RV × Nat} (hk : chk P f = some x) : Enters P f := by
  obtain ⟨ac, rs, n⟩ := x
  obtain ⟨fn, c, h1, h2, h3, _⟩ := chk_spec hk
  intro args w
  have h3' : fn.name ≠ "runtime.NumGoroutine" := fun e => by rw [e] at h3; simp at h3
  simp [callFunc, h1, h2, h3']
theorem ACall.of (hm : P.follows .mixedOrders = true) {f : FuncId} {ac : AC} {rs : List RV} {n : Nat} (hk : chk P f = some (ac, rs, n)) {args : List AV} {r : AV} {h hR : AHeap} (hn : args.length ≤ n) (hst : Hstay h hR)
    (H : HB h → aw P none ac (Fin P h rs r hR) { n := n, s := argS 0 args, dfr := [] } h) : ACall P f args h r hR := by
  obtain ⟨fn, c, h1, h2, h3, h4, h5, rfl⟩ := chk_spec hk
  refine ⟨chk_enters hk, hst, fun ρ w vals hh hv => ?_⟩
  refine callsIn_of_wp_marks h1 h2 trivial ?_ rfl
  have hlen : vals.length = args.length := hv.1
  have r0 : Rel P ρ { n := fn.ntmps, s := argS 0 args, dfr := [] } h { tmps := vals.toArray ++ Array.replicate (fn.ntmps - vals.toArray.size) undef, defers := [] } w := by
    refine ⟨hh, by simp; omega, fun i => ?_, rfl, fun d hd => by simp at hd⟩
    have := argS_look args 0 i
    rw [Nat.zero_add] at this
    rw [this, List.getD]
    cases hi : args[i]? with
    | none => exact .any _
    | some u =>
      have hlt := getElem?_lt hi
      have := hv.2 i u hi
      rw [List.getD] at this
      rw [Array.getD_eq_getD_getElem?, Array.getElem?_append_left (by simp; omega)]
      simpa using this
  refine aw_sound hm none none c ac h4 _ ρ _ h _ w (H hh.bel) r0 trivial _ fun j ρ' τ' h' a' w' hF r' st hs => ?_
  obtain ⟨hj, hnd, hno, xs, hx, hg⟩ := hF
  have main : LeavesInM Fence.wide 0 P fn a'.tmps (fun e w' => ∃ v ρ', e = .returned v ∧ VR ρ' hR w' r v ∧ HR P ρ' hR w' ∧ Step ρ h w ρ' hR w') a'.defers .returning w' := by
    have e := r'.dfr
    rw [e]
    refine leavesM fn h5 (xs := xs) (ρ₀ := ρ) (h₀ := h) (w₀ := w) τ'.dfr ρ' h' w' τ'.s a'.tmps τ'.n hnd hno ⟨r'.heap, r'.n, r'.slot, rfl, r'.dfrs⟩ st hx fun ρ'' w'' v g1 g2 g3 => ?_
    obtain ⟨ρ3, e1, e2, e3⟩ := hg ρ w ρ'' w'' v g3 g1 g2
    exact ⟨v, ρ3, rfl, e2, e1, e3⟩
  rcases hj with rfl | rfl <;> exact main

/-- A live row handed back is what it holds, once nobody writes it any more. -/
theorem VR.frz (hh : HR P ρ h w) {id ver idx len sz : Nat} {es : List AV} {v : Value} (hv : VR ρ h w (.rf id ver idx len) v) (hr : rowAt h id ver = some (sz, es)) : VR ρ (h.set id .dead) w (.sl false ((es.drop idx).take len)) v := by
  have hro := rowAt_eq hr
  obtain ⟨k1, k2⟩ := kill_at hh hro (by simp)
  cases hv with
  | rf _ _ _ _ A c hid hl hc =>
    obtain ⟨_, hc2⟩ := hc _ _ _ hro
    obtain ⟨e1, e2, e3⟩ := hc2 rfl
    obtain ⟨cs, el, b1, b2, b3, b4, b5⟩ := hh.obj id _ hro
    have hmem : ∀ x ∈ (es.drop idx).take len, x.cells.length = sz := fun x hx => b2 x (List.mem_of_mem_drop (List.mem_of_mem_take hx))
    have hlen : ((es.drop idx).take len).length = len := by simp; omega
    have hget : ∀ (j : Nat) (u : AV), (flat ((es.drop idx).take len))[j]? = some u → (flat es)[idx * sz + j]? = some u := by
      intro j u hj
      obtain ⟨q, el, k, f1, f2, f3, f4⟩ := flat_mem hmem j u hj
      have : es[idx + q]? = some el := by
        rw [List.getElem?_take] at f1
        split at f1
        · rw [List.getElem?_drop] at f1; exact f1
        · cases f1
      have := flat_get b2 (idx + q) el this k f4
      rw [f2] at this
      rw [f3]
      rw [Nat.add_mul] at this
      rw [← this]
      congr 1
      omega
    have : VR ρ (h.set id .dead) w (.sl false ((es.drop idx).take len)) (.slice A ((es.drop idx).take len).length c) := by
      refine .sl false _ A c sz (fun j => (cs[idx * sz + j]?).getD undef) hmem (fun hx => ?_) (fun j u hj => ?_) (by omega) (by simp)
      · have hne : c ≠ 0 := by
          have : len ≠ 0 := fun e => hx (by rw [e]; simp)
          omega
        refine ⟨ρ id, idx * sz, e1 hne, ⟨heap_lt b1, ?_⟩, fun j u hj => ?_⟩
        · rintro (⟨i, o, hi, hl', e⟩ | hX)
          rotate_left
          · exact hh.xo id _ hro rfl hX
          by_cases c : i = id
          · subst c; rw [set_same h i _ hid] at hi; cases hi; cases hl'
          · rw [set_other h id _ i c] at hi
            exact c (hh.inj i id o _ hi hro hl' rfl e)
        · obtain ⟨v, g1, g2⟩ := b5 _ u (hget j u hj)
          simp [World.cell?, b1, g1]
      · obtain ⟨v, g1, g2⟩ := b5 _ u (hget j u hj)
        simp only [g1, Option.getD_some]
        exact g2.mono k2
    rw [hlen] at this
    exact this
theorem Gst.freeze {h₀ h : AHeap} {id ver idx len sz : Nat} {es : List AV} (hr : rowAt h id ver = some (sz, es)) : Gst P h₀ (.rf id ver idx len) h (.sl false ((es.drop idx).take len)) (h.set id .dead) := by
  intro ρ₀ w₀ ρ w v s hh hv
  obtain ⟨k1, k2⟩ := kill_at hh (rowAt_eq hr) (by simp)
  exact ⟨ρ, k1, hv.frz hh hr, s.trans k2⟩
end Go.Av

/- A round's contract; a contract told of an empty memory serves in any. -/
set_option linter.unusedVariables false
set_option linter.unusedSimpArgs false
namespace Go.Av
open Go
variable {P : Program} {ρ : Rho} {h : AHeap} {w : World} {τ : AFr} {a : Act}

def putArgs (s : List (Nat × AV)) : List Nat → List AV → List (Nat × AV)
  | p :: ps, x :: xs => putArgs ((p, x) :: s) ps xs
  | _, _ => s
theorem putArgs_slots : ∀ (ps : List Nat) (xs : List AV) (vs : List Value) (s : List (Nat × AV)) (tmps : Array Value), VRs ρ h w xs vs → (∀ p ∈ ps, p < tmps.size) → (∀ i, VR ρ h w (alook s i) (tmps.getD i undef)) → xs.length = ps.length →
    (∀ i, VR ρ h w (alook (putArgs s ps xs) i) (((ps.zip vs).foldl (fun tmps (t, a) => tmps.setIfInBounds t a) tmps).getD i undef)) ∧ ((ps.zip vs).foldl (fun tmps (t, a) => tmps.setIfInBounds t a) tmps).size = tmps.size
  | [], [], [], s, tmps, _, _, hs, _ => ⟨hs, rfl⟩
  | p :: ps, x :: xs, v :: vs, s, tmps, hv, hp, hs, hl => by
    simp only [List.zip_cons_cons, List.foldl_cons, putArgs]
    have hpp := hp p (by simp)
    have := putArgs_slots ps xs vs ((p, x) :: s) (tmps.setIfInBounds p v) ⟨by simpa using hv.1, fun j u hj => by simpa using hv.2 (j + 1) u (by simpa using hj)⟩ (fun q hq => by simp; exact hp q (by simp [hq])) (fun i => by
      simp only [alook]
      rw [Array.getD_eq_getD_getElem?]
      by_cases e : i = p
      · subst e; rw [if_pos rfl, Array.getElem?_setIfInBounds_self_of_lt hpp]; simpa using hv.2 0 x rfl
      · rw [if_neg e, Array.getElem?_setIfInBounds_ne (Ne.symm e), ← Array.getD_eq_getD_getElem?]; exact hs i) (by simpa using hl)
    exact ⟨this.1, by rw [this.2]; simp⟩
  | [], _ :: _, _, s, tmps, _, _, _, hl => by simp at hl
  | _ :: _, [], _, s, tmps, _, _, _, hl => by simp at hl
  | [], [], _ :: _, s, tmps, hv, _, _, _ => by have := hv.1; simp at this
  | _ :: _, _ :: _, [], s, tmps, hv, _, _, _ => by have := hv.1; simp at this
theorem AYield.of (hm : P.follows .mixedOrders = true) {id : Nat} {L : ALoop} {args : List AV} {r : AV} {h h' : AHeap} (hL : h[id]? = some (.loop L)) (hlen : args.length = L.ps.length) (hps : ∀ p ∈ L.ps, p < L.n) (hd : Hstay h h')
    (H : aw P (some id) L.assign (fun j τ1 h1 => j = .none ∧ ∃ L1, h1[id]? = some (.loop L1) ∧ L1.st = .ready ∧
      aw P (some id) L.body (fun j τ2 h2 => ∃ L2, h2[id]? = some (.loop L2) ∧ r = .bool (decide (j = .none)) ∧ h' = h2.set id (.loop { L2 with st := if j = .none then .ready else .done, pend := j })) τ1 (h1.set id (.loop { L1 with st := .busy })))
      { n := L.n, s := putArgs L.slots L.ps args, dfr := [] } h) : AYield P id args h r h' := by
  refine ⟨⟨L, hL⟩, hd, fun ρ w vals hh hv => ?_⟩
  obtain ⟨fn, tmps, as, bd, hb, hca, hcb, hn, hsl, hdf⟩ := hh.obj id _ hL
  have hlen' : vals.length = args.length := hv.1
  refine ⟨fn, _, as, bd, run_yield hb (by simp; omega), ?_⟩
  obtain ⟨q1, q2⟩ := putArgs_slots L.ps args vals L.slots tmps hv (fun p hp => by rw [hn]; exact hps p hp) hsl hlen
  have hz : (L.ps.toArray.zip vals.toArray) = (L.ps.zip vals).toArray := by simp
  have r0 : Rel P ρ { n := L.n, s := putArgs L.slots L.ps args, dfr := [] } h { tmps := (L.ps.zip vals).foldl (fun tmps (t, a) => tmps.setIfInBounds t a) tmps, defers := [] } w := ⟨hh, by rw [q2, hn], q1, rfl, fun d hd => by simp at hd⟩
  refine roundIn_of_wpIn (F := Fence.wide) trivial ?_
  have hrd : RdOK (some id) (some (ρ id)) ρ h := ⟨getElem?_lt hL, fun _ _ => rfl⟩
  have e0 : (L.ps.toArray.zip vals.toArray).foldl (fun tmps (t, a) => tmps.setIfInBounds t a) tmps = (L.ps.zip vals).foldl (fun tmps (t, a) => tmps.setIfInBounds t a) tmps := by
    rw [hz]; simp
  have e1 : ∀ {A : Array Value} {B : Array Value}, A = B → ∀ Q : Exit → Act → World → Prop, Code.wpIn (Fence.wide.inRound (ρ id)) 0 P as Q { tmps := B, defers := [] } w → Code.wpIn (Fence.wide.inRound (ρ id)) 0 P as Q { tmps := A, defers := [] } w := fun e Q H => by rw [e]; exact H
  refine e1 e0 _ ?_
  refine aw_sound hm (some id) (some (ρ id)) as L.assign hca _ ρ _ h _ w H r0 hrd _ fun j ρ1 τ1 h1 a1 w1 k r1 s1 d1 => ?_
  obtain ⟨rfl, L1, hL1, hst1, H1⟩ := k
  have hr1 : ρ1 id = ρ id := by
    obtain ⟨o, o1, o2, _, o3⟩ := s1.keep _ _ hL1 rfl (getElem?_lt hL)
    rw [hL] at o1; cases o1; exact (o3 trivial).1
  obtain ⟨fn1, tmps1, as1, bd1, hb1, hca1, hcb1, hn1, hsl1, hdf1⟩ := r1.heap.obj id _ hL1
  obtain ⟨k1, k2⟩ := loop_set r1.heap hL1 (.loop { L1 with st := .busy }) (Obj.loop { state := .busy, pending := L1.pend.code, fn := fn1, tmps := tmps1, params := L1.ps.toArray, assign := as1, body := bd1, defers := ρ1 L1.dfr }) (.inr ⟨_, rfl⟩) (fun _ _ _ c => by cases c) (fun _ h' s' d' =>
    ⟨fn1, tmps1, as1, bd1, World.putObj_heap_same (heap_lt hb1), hca1, hcb1, hn1, fun i => (hsl1 i).mono s', d' _ hdf1⟩)
  have hbr := run_beginRound (P := P) hb1 hst1
  refine ⟨_, by rw [← hr1]; exact hbr, ?_⟩
  have r2 := r1.step k1 k2 (Hstay.set _ _ _ (by rw [hL1]; simp))
  refine aw_sound hm (some id) (some (ρ id)) bd L.body hcb _ ρ1 τ1 _ a1 _ H1 r2 ((hrd.step s1).step k2) _ fun j ρ2 τ2 h2 a2 w2 k r3 s3 d3 => ?_
  obtain ⟨L2, hL2, hr, hh'⟩ := k
  have hr2 : ρ2 id = ρ id := by
    obtain ⟨o, o1, o2, _, o3⟩ := s3.keep _ _ hL2 rfl (by simp; exact getElem?_lt hL1)
    rw [set_same _ _ _ (getElem?_lt hL1)] at o1; cases o1; rw [(o3 trivial).1, hr1]
  obtain ⟨fn2, tmps2, as2, bd2, hb2, hca2, hcb2, hn2, hsl2, hdf2⟩ := r3.heap.obj id _ hL2
  have fin : ∀ jc : Option Code, jc = j.code → ∃ v w', (Instr.endRound (ρ id) jc).run P w2 = .ok v w' ∧ ∃ v' ρ', Ending.returned v = .returned v' ∧ VR ρ' h' w' r v' ∧ HR P ρ' h' w' ∧ Step ρ h w ρ' h' w' := by
    rintro jc rfl
    have hend := run_endRound (P := P) j.code hb2
    have hj : j.code.isNone = decide (j = .none) := by cases j <;> rfl
    have hj' : (if j.code.isNone = true then LoopState.ready else LoopState.done) = (if j = .none then .ready else .done) := by cases j <;> rfl
    obtain ⟨m1, m2⟩ := loop_set r3.heap hL2 (.loop { L2 with st := if j = .none then .ready else .done, pend := j }) (Obj.loop { state := if j = .none then .ready else .done, pending := j.code, fn := fn2, tmps := tmps2, params := L2.ps.toArray, assign := as2, body := bd2, defers := ρ2 L2.dfr }) (.inr ⟨_, rfl⟩) (fun _ _ _ c => by cases c) (fun _ h' s' d' =>
      ⟨fn2, tmps2, as2, bd2, World.putObj_heap_same (heap_lt hb2), hca2, hcb2, hn2, fun i => (hsl2 i).mono s', d' _ hdf2⟩)
    rw [hj'] at hend
    refine ⟨_, _, by rw [← hr2]; exact hend, _, ρ2, rfl, ?_, hh' ▸ m1, hh' ▸ (((s1.trans k2).trans s3).trans m2)⟩
    rw [hr, hj]
    exact .bool _
  cases j with
  | none => exact fin none rfl
  | ret => exact fin (some .ret) rfl
  | exit i => exact fin (some (.exit i)) rfl

/-! ### A contract told of an empty memory -/
/-- x, where h holds, is y where nothing is owned. -/
def Snap (P : Program) (h : AHeap) (x y : AV) : Prop := ∀ ρ w v, HR P ρ h w → VR ρ h w x v → VR ρ [] w y v
theorem Snap.same {x : AV} (hx : Bel 0 x) : Snap P h x x := fun ρ w v hh hv => VR.drop (h := []) (l := h) (by simpa using hv) hx
theorem Snap.row {id ver idx len sz : Nat} {es : List AV} (hr : rowAt h id ver = some (sz, es)) (hb : ∀ u ∈ flat ((es.drop idx).take len), Bel 0 u) : Snap P h (.rf id ver idx len) (.sl false ((es.drop idx).take len)) := fun ρ w v hh hv => by
  have := hv.frz hh hr
  exact VR.drop (h := []) (l := h.set id .dead) (by simpa using this) (.sl _ _ hb)
theorem HR.frame (hh : HR P ρ h w) {ρ' : Rho} {l : AHeap} {w' : World} (s : Step ρ [] w ρ' l w') : HR P ρ h w' ∧ Step ρ h w ρ h w' := by
  have old : ∀ b, b < w.heap.size → w'.heap[b]? = w.heap[b]? := fun b hb => (Classical.em (ρ.X b)).elim (s.kx b) fun hx => (s.free b ⟨hb, fun ho => ho.elim (fun ⟨i, o, hi, _⟩ => by simp at hi) hx⟩).1
  have st : Step ρ h w ρ h w' := ⟨Nat.le_refl _, fun i o ho hl _ => ⟨o, ho, AObj.to_refl hl, AObj.same_refl o, fun _ => ⟨rfl, blockSize_of (old _ ((hh.obj i o ho).lt hl))⟩⟩, fun b hb => ⟨old b hb.lt, Nat.lt_of_lt_of_le hb.lt s.size, hb.free⟩, s.size, s.os, s.tape, s.output, rfl, s.kx⟩
  refine ⟨⟨fun i o ho => ?_, hh.inj, hh.xo, fun b hb => Nat.lt_of_lt_of_le (hh.xl b hb) s.size⟩, st⟩
  cases hl : o.live with
  | true => exact (hh.obj i o ho).mono st (old _ ((hh.obj i o ho).lt hl)) fun d hd => ⟨hd, rfl⟩
  | false => cases o <;> first | trivial | (simp [AObj.live] at hl)
theorem ACall.lift {f : FuncId} {args args' : List AV} {r : AV} {l : AHeap} (H : ACall P f args' [] r l) (hl : args.length = args'.length) (hs : ∀ (i : Nat) (x y : AV), args[i]? = some x → args'[i]? = some y → Snap P h x y) (hr : Solid r) : ACall P f args h r h := by
  refine ⟨H.enters, Hstay.refl h, fun ρ w vals hh hv => ?_⟩
  have hh0 : HR P ρ [] w := ⟨fun i o hi => by simp at hi, fun i j o p hi => by simp at hi, fun i o hi => by simp at hi, hh.xl⟩
  refine CallsIn.mono (H.run ρ w vals hh0 ⟨by rw [hv.1, hl], fun j u hj => ?_⟩) fun e w' he => ?_
  · have hlt : j < args.length := by have := getElem?_lt hj; omega
    exact hs j _ u (List.getElem?_eq_getElem hlt) hj ρ w _ hh (hv.2 j _ (List.getElem?_eq_getElem hlt))
  · obtain ⟨v, ρ', rfl, e1, e2, e3⟩ := he
    obtain ⟨f1, f2⟩ := hh.frame e3
    exact ⟨v, ρ, rfl, e1.solid hr, f1, f2⟩
theorem ACall.lift0 {f : FuncId} {args : List AV} {r : AV} {l : AHeap} (H : ACall P f args [] r l) (hs : ∀ x ∈ args, Bel 0 x) (hr : Solid r) : ACall P f args h r h :=
  H.lift rfl (fun i x y hx hy => by rw [hx] at hy; cases hy; exact .same (hs x (List.mem_of_getElem? hx))) hr
end Go.Av

/- Short words for the translated code, and what bytes of text do. -/
set_option linter.unusedVariables false
set_option linter.unusedSimpArgs false
namespace Go.Av
open Go
def sb (l : List UInt8) : ByteArray := ⟨l.toArray⟩
abbrev o (d : Nat) (x : AOpr) : AOpD := ⟨some d, none, x, []⟩
abbrev u (x : AOpr) : AOpD := ⟨none, none, x, []⟩
abbrev og (d : Nat) (g : Nat × Bool) (x : AOpr) : AOpD := ⟨some d, some g, x, []⟩
abbrev ug (g : Nat × Bool) (x : AOpr) : AOpD := ⟨none, some g, x, []⟩
theorem data_len (a : ByteArray) : a.data.toList.length = a.size := Array.length_toList
theorem loopTo (a : ByteArray) : ∀ (n i : Nat) (acc : List UInt8), a.size - i = n → ByteArray.toList.loop a i acc = acc.reverse ++ a.data.toList.drop i := by
  intro n
  induction n with
  | zero =>
    intro i acc h
    unfold ByteArray.toList.loop
    rw [if_neg (by omega), List.drop_eq_nil_of_le (by rw [data_len]; omega)]
    simp
  | succ n ih =>
    intro i acc h
    unfold ByteArray.toList.loop
    have hlt : i < a.size := by omega
    rw [if_pos hlt, ih (i + 1) _ (by omega)]
    have hl : i < a.data.toList.length := by rw [data_len]; exact hlt
    have hg : a.get! i = a.data.toList[i] := by
      have : i < a.data.size := hlt
      show a.data[i]! = _
      rw [getElem!_pos a.data i this]; rfl
    rw [List.drop_eq_getElem_cons hl, hg]
    simp
theorem toList_data (a : ByteArray) : a.toList = a.data.toList := by
  unfold ByteArray.toList
  rw [loopTo a _ 0 [] rfl]; simp
theorem sb_inj {a b : List UInt8} : sb a = sb b ↔ a = b := by
  constructor
  · intro h; have := congrArg (fun x => x.data.toList) h; simpa [sb] using this
  · rintro rfl; rfl
theorem sb_eq (a b : List UInt8) : ((sb a).toList == (sb b).toList) = decide (a = b) := by
  rw [toList_data, toList_data]
  simp only [sb]
  by_cases h : a = b
  · simp [h]
  · simp [h]
theorem sb_size (a : List UInt8) : (sb a).size = a.length := by simp [sb, ByteArray.size]
theorem sb_append (a b : List UInt8) : sb a ++ sb b = sb (a ++ b) := by
  apply ByteArray.ext
  simp [sb]
theorem sb_data (a : ByteArray) : a = sb a.data.toList := by
  apply ByteArray.ext; simp [sb]
end Go.Av

/- Walking with a table of contracts: a call is looked up, its arguments as they stand, its new rows laid behind ours. -/
set_option linter.unusedVariables false
set_option linter.unusedSimpArgs false
namespace Go.Av
open Go

def sn1 (h : AHeap) : AV → AV
  | .rf id ver idx len => match rowAt h id ver with
    | some (_, es) => .sl false ((es.drop idx).take len)
    | none => .any
  | .rp id ver idx off => match rowAt h id ver with
    | some (_, es) => match es[idx]? with
      | some e => .cp e off
      | none => .any
    | none => .any
  | x => x
def snap (h : AHeap) : AV → AV
  | .tup xs => .tup (xs.map (sn1 h))
  | x => sn1 h x
def sh1 (n : Nat) : AV → AV
  | .rf id ver idx len => .rf (id + n) ver idx len
  | .rp id ver idx off => .rp (id + n) ver idx off
  | x => x
def shift (n : Nat) : AV → AV
  | .tup xs => .tup (xs.map (sh1 n))
  | x => sh1 n x
/-- Solid, or a row (a cell) of its own. -/
inductive Own1 (l : AHeap) : AV → Prop
  | solid (x : AV) (h : Solid x) : Own1 l x
  | rf (id ver idx len : Nat) (h : id < l.length) : Own1 l (.rf id ver idx len)
  | rp (id ver idx off : Nat) (h : id < l.length) : Own1 l (.rp id ver idx off)
inductive Own (l : AHeap) : AV → Prop
  | one (x : AV) (h : Own1 l x) : Own l x
  | tup (xs : List AV) (h : ∀ x ∈ xs, Own1 l x) : Own l (.tup xs)
def OwnH (l : AHeap) : Prop := ∀ (i : Nat) (o : AObj), l[i]? = some o → o = .dead ∨ ∃ k sz es, o = .row k sz es ∧ ∀ x ∈ es, ∀ u ∈ x.cells, Solid u

variable {P : Program} {ρ : Rho} {h : AHeap} {w : World} {τ : AFr} {a : Act}
theorem HR.nil (hx : ∀ b, ρ.X b → b < w.heap.size) : HR P ρ [] w := ⟨fun i o hi => by simp at hi, fun i j o p hi => by simp at hi, fun i o hi => by simp at hi, hx⟩
theorem VR.to0 {x : AV} {v : Value} (hv : VR ρ h w x v) (hb : Bel 0 x) : VR ρ [] w x v := VR.drop (h := []) (l := h) (by simpa using hv) hb
theorem Snap.one {x : AV} (hb : Bel 0 (sn1 h x)) : Snap P h x (sn1 h x) := by
  intro ρ w v hh hv
  cases x with
  | rf id ver idx len =>
    simp only [sn1] at hb ⊢
    cases hr : rowAt h id ver with
    | none => exact .any _
    | some p =>
      rw [hr] at hb
      exact (hv.frz hh hr).to0 hb
  | rp id ver idx off =>
    simp only [sn1] at hb ⊢
    cases hr : rowAt h id ver with
    | none => exact .any _
    | some p =>
      obtain ⟨sz, es⟩ := p
      rw [hr] at hb
      dsimp only at hb ⊢
      cases he : es[idx]? with
      | none => exact .any _
      | some e =>
        rw [he] at hb
        dsimp only at hb ⊢
        have hro := rowAt_eq hr
        obtain ⟨cs, el, b1, b2, b3, b4, b5⟩ := hh.obj id _ hro
        have hel := b2 e (List.mem_of_getElem? he)
        cases hv with
        | rp _ _ _ _ ad hid hc =>
          obtain ⟨_, hc2⟩ := hc _ _ _ hro
          rw [hc2 rfl]
          cases hb with
          | cp _ _ hb =>
            have get : ∀ (j : Nat) (u : AV), e.cells[j]? = some u → ∃ v, cs[idx * sz + j]? = some v ∧ VR ρ h w u v := fun j u hj => by
              have hlt : j < sz := by have := getElem?_lt hj; omega
              have := flat_get b2 idx e he j hlt
              exact b5 _ u (by rw [this]; exact hj)
            refine .cp e off (ρ id) (idx * sz) (fun j => (cs[idx * sz + j]?).getD undef) ⟨heap_lt b1, fun ho => ho.elim (fun ⟨i, o, hi, _⟩ => by simp at hi) (hh.xo id _ hro rfl)⟩ (fun j u hj => ?_) (fun j u hj => ?_)
            · obtain ⟨v, g1, g2⟩ := get j u hj
              simp [World.cell?, b1, g1]
            · obtain ⟨v, g1, g2⟩ := get j u hj
              simp only [g1, Option.getD_some]
              exact g2.to0 (hb u (List.mem_of_getElem? hj))
  | _ => exact hv.to0 hb
theorem Snap.all {x : AV} (hb : Bel 0 (snap h x)) : Snap P h x (snap h x) := by
  cases x with
  | tup xs =>
    intro ρ w v hh hv
    simp only [snap] at hb ⊢
    cases hv with
    | tup _ vals hl hc =>
      cases hb with
      | tup _ hb =>
        refine .tup _ vals (by simpa using hl) fun j u hj => ?_
        rw [List.getElem?_map] at hj
        cases hx : xs[j]? with
        | none => rw [hx] at hj; cases hj
        | some y =>
          rw [hx] at hj
          cases hj
          exact Snap.one (hb _ (List.mem_map.2 ⟨y, List.mem_of_getElem? hx, rfl⟩)) ρ w _ hh (hc j y hx)
  | _ => exact Snap.one hb
/-- What a call made where nothing was owned has laid comes to lie behind what we own. -/
theorem own_shift (hh : HR P ρ h w) {ρ' : Rho} {l : AHeap} {w' : World} (s : Step ρ [] w ρ' l w') (hr : HR P ρ' l w') (ho : OwnH l) :
    HR P ⟨fun i => if i < h.length then ρ i else ρ' (i - h.length), ρ.X⟩ (h ++ l) w' ∧ Step ρ h w ⟨fun i => if i < h.length then ρ i else ρ' (i - h.length), ρ.X⟩ (h ++ l) w' ∧
    ∀ x v, Own l x → VR ρ' l w' x v → VR ⟨fun i => if i < h.length then ρ i else ρ' (i - h.length), ρ.X⟩ (h ++ l) w' (shift h.length x) v := by
  obtain ⟨g, hg⟩ : ∃ g : Rho, g = ⟨fun i => if i < h.length then ρ i else ρ' (i - h.length), ρ.X⟩ := ⟨_, rfl⟩
  rw [← hg]
  have g1 : ∀ i, i < h.length → g i = ρ i := fun i hi => by rw [hg]; simp [hi]
  have g2 : ∀ i, g (i + h.length) = ρ' i := fun i => by rw [hg]; dsimp only; rw [if_neg (by omega), Nat.add_sub_cancel]
  have old : ∀ b, b < w.heap.size → w'.heap[b]? = w.heap[b]? := fun b hb => (Classical.em (ρ.X b)).elim (s.kx b) fun hx => (s.free b ⟨hb, fun ho => ho.elim (fun ⟨i, o, hi, _⟩ => by simp at hi) hx⟩).1
  have new : ∀ (i : Nat) (o : AObj), l[i]? = some o → o.live = true → w.heap.size ≤ ρ' i := fun i o hi hl => by
    rcases Nat.lt_or_ge (ρ' i) w.heap.size with c | c
    · exact (Classical.em (ρ.X (ρ' i))).elim (fun hx => absurd (by rw [s.x]; exact hx) (hr.xo i o hi hl)) fun hx => absurd (.inl ⟨i, o, hi, hl, rfl⟩) (s.free (ρ' i) ⟨c, fun ho => ho.elim (fun ⟨i, o, hi, _⟩ => by simp at hi) hx⟩).2.free
    · exact c
  have left : ∀ {i : Nat}, i < h.length → (h ++ l)[i]? = h[i]? := fun hi => List.getElem?_append_left hi
  have right : ∀ i, (h ++ l)[i + h.length]? = l[i]? := fun i => by rw [List.getElem?_append_right (by omega)]; simp
  have st : Step ρ h w g (h ++ l) w' := by
    refine ⟨by simp, fun i o' ho' hl hi => ?_, fun b hb => ?_, s.size, s.os, s.tape, s.output, by rw [hg], s.kx⟩
    · rw [left hi] at ho'
      exact ⟨o', ho', AObj.to_refl hl, AObj.same_refl o', fun _ => ⟨g1 i hi, blockSize_of (old _ ((hh.obj i o' ho').lt hl))⟩⟩
    · refine ⟨old b hb.lt, Nat.lt_of_lt_of_le hb.lt s.size, ?_⟩
      rintro (⟨i, o, hi, hl, e⟩ | hx)
      rotate_left
      · exact hb.free (.inr (by rw [hg] at hx; exact hx))
      rcases Nat.lt_or_ge i h.length with c | c
      · rw [left c] at hi; rw [g1 i c] at e; exact hb.free (.inl ⟨i, o, hi, hl, e⟩)
      · obtain ⟨k, rfl⟩ : ∃ k, i = k + h.length := ⟨i - h.length, by omega⟩
        rw [right k] at hi; rw [g2 k] at e
        have := new k o hi hl
        have := hb.lt
        omega
  refine ⟨?_, st, ?_⟩
  · constructor
    · intro i o hi
      rcases Nat.lt_or_ge i h.length with c | c
      · rw [left c] at hi
        rw [g1 i c]
        cases hl : o.live with
        | true => exact (hh.obj i o hi).mono st (old _ ((hh.obj i o hi).lt hl)) fun d hd => ⟨by rw [left (getElem?_lt hd)]; exact hd, g1 d (getElem?_lt hd)⟩
        | false => cases o <;> first | trivial | (simp [AObj.live] at hl)
      · obtain ⟨k, rfl⟩ : ∃ k, i = k + h.length := ⟨i - h.length, by omega⟩
        rw [right k] at hi
        rw [g2 k]
        rcases ho k o hi with rfl | ⟨ver, sz, es, rfl, hes⟩
        · trivial
        · obtain ⟨cs, e, h0, h1, h2, h3, h4⟩ := hr.obj k _ hi
          refine ⟨cs, e, h0, h1, h2, h3, fun j u hj => ?_⟩
          obtain ⟨v, e1, e2⟩ := h4 j u hj
          have hu : Solid u := by
            have := List.mem_of_getElem? hj
            rw [flat, List.mem_flatMap] at this
            obtain ⟨x, x1, x2⟩ := this
            exact hes x x1 u x2
          exact ⟨v, e1, e2.solid hu⟩
    · intro i j o p hi hj li lj e
      rcases Nat.lt_or_ge i h.length with c | c
      · rw [left c] at hi; rw [g1 i c] at e
        rcases Nat.lt_or_ge j h.length with c' | c'
        · rw [left c'] at hj; rw [g1 j c'] at e; exact hh.inj i j o p hi hj li lj e
        · obtain ⟨k, rfl⟩ : ∃ k, j = k + h.length := ⟨j - h.length, by omega⟩
          rw [right k] at hj; rw [g2 k] at e
          have := new k p hj lj
          have := (hh.obj i o hi).lt li
          omega
      · obtain ⟨k, rfl⟩ : ∃ k, i = k + h.length := ⟨i - h.length, by omega⟩
        rw [right k] at hi; rw [g2 k] at e
        rcases Nat.lt_or_ge j h.length with c' | c'
        · rw [left c'] at hj; rw [g1 j c'] at e
          have := new k o hi li
          have := (hh.obj j p hj).lt lj
          omega
        · obtain ⟨m, rfl⟩ : ∃ m, j = m + h.length := ⟨j - h.length, by omega⟩
          rw [right m] at hj; rw [g2 m] at e
          rw [hr.inj k m o p hi hj li lj e]
    · intro i o hi li
      have hX : g.X = ρ.X := by rw [hg]
      rw [hX]
      rcases Nat.lt_or_ge i h.length with c | c
      · rw [left c] at hi; rw [g1 i c]; exact hh.xo i o hi li
      · obtain ⟨k, rfl⟩ : ∃ k, i = k + h.length := ⟨i - h.length, by omega⟩
        rw [right k] at hi; rw [g2 k]
        have := hr.xo k o hi li
        rw [s.x] at this
        exact this
    · intro b hb
      have hX : g.X = ρ.X := by rw [hg]
      rw [hX] at hb
      exact Nat.lt_of_lt_of_le (hh.xl b hb) s.size
  · have one : ∀ x v, Own1 l x → VR ρ' l w' x v → VR g (h ++ l) w' (sh1 h.length x) v := by
      intro x v hx hv
      cases hx with
      | solid _ hs =>
        have : sh1 h.length x = x := by cases hs <;> rfl
        rw [this]; exact hv.solid hs
      | rf id ver idx len hid =>
        cases hv with
        | rf _ _ _ _ A c hid' hl hc =>
          refine .rf _ _ _ _ A c (by simp; omega) hl fun k sz es he => ?_
          rw [right id] at he
          rw [g2 id]
          exact hc k sz es he
      | rp id ver idx off hid =>
        cases hv with
        | rp _ _ _ _ ad hid' hc =>
          refine .rp _ _ _ _ ad (by simp; omega) fun k sz es he => ?_
          rw [right id] at he
          rw [g2 id]
          exact hc k sz es he
    intro x v hx hv
    cases hx with
    | one _ h1 =>
      cases x with
      | tup xs =>
        cases h1 with
        | solid _ hs =>
          cases hs with
          | tup _ hs =>
            cases hv with
            | tup _ vals hl hc =>
              refine .tup _ vals (by simpa using hl) fun j u hj => ?_
              rw [List.getElem?_map] at hj
              cases hx : xs[j]? with
              | none => rw [hx] at hj; cases hj
              | some y => rw [hx] at hj; cases hj; exact one y _ (.solid _ (hs y (List.mem_of_getElem? hx))) (hc j y hx)
      | _ => exact one _ v h1 hv
    | tup xs h1 =>
      cases hv with
      | tup _ vals hl hc =>
        refine .tup _ vals (by simpa using hl) fun j u hj => ?_
        rw [List.getElem?_map] at hj
        cases hx : xs[j]? with
        | none => rw [hx] at hj; cases hj
        | some y => rw [hx] at hj; cases hj; exact one y _ (h1 y (List.mem_of_getElem? hx)) (hc j y hx)
theorem ACall.liftOwn {f : FuncId} {args : List AV} {r : AV} {l : AHeap} (H : ACall P f (args.map (snap h)) [] r l) (hb : ∀ x ∈ args.map (snap h), Bel 0 x) (hr : Own l r) (hl : OwnH l) : ACall P f args h (shift h.length r) (h ++ l) := by
  refine ⟨H.enters, Hstay.app h l, fun ρ w vals hh hv => ?_⟩
  refine CallsIn.mono (H.run ρ w vals (HR.nil hh.xl) ⟨by rw [hv.1]; simp, fun j u hj => ?_⟩) fun e w' he => ?_
  · rw [List.getElem?_map] at hj
    cases hx : args[j]? with
    | none => rw [hx] at hj; cases hj
    | some y =>
      rw [hx] at hj
      cases hj
      exact Snap.all (hb _ (List.mem_map.2 ⟨y, List.mem_of_getElem? hx, rfl⟩)) ρ w _ hh (hv.2 j y hx)
  · obtain ⟨v, ρ', rfl, e1, e2, e3⟩ := he
    obtain ⟨f1, f2, f3⟩ := own_shift hh e3 e2 hl
    exact ⟨v, _, rfl, f3 r v hr e1, f1, f2⟩
end Go.Av
