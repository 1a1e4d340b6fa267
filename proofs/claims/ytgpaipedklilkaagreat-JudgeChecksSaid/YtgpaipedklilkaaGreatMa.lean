/- Values and memory without block numbers: the words in which this seat's contracts are said. -/
import Derived.RangeFuncNested
import Derived.RangeFuncLeaves
import Derived.WalkKit
import Derived.Laws.StructEq
import Derived.Laws.CopyRow
import Derived.Laws.MakeOwn
import Derived.Lib.ConvBytes
import Derived.Laws.BytesArg
import Derived.SizedLaws
import Derived.ChangeKeysEq
set_option linter.unusedVariables false
set_option linter.unusedSimpArgs false
namespace Go.Av
open Go

/-- Values, blocks by the numbers of objects of one's own. -/
inductive AV where
  | any
  | int (k : IntKind) (n : Int)
  | bool (b : Bool)
  | str (s : ByteArray)
  | nilp
  | rp (id ver idx off : Nat)
  | cp (e : AV) (off : Nat)
  | sl (tight : Bool) (xs : List AV)
  | rf (id ver idx len : Nat)
  | mp (id : Nat)
  | nilmap
  | fn (f : Fn) (first captured : List AV)
  | yld (id : Nat)
  | nilfn
  | anyb
  | agg (cs : List AV)
  | tup (vs : List AV)
  deriving Inhabited

/-- The cells of a value. -/
def AV.cells : AV → List AV
  | .agg cs => cs
  | v => [v]
/-- Is it the value of one cell? -/
def AV.one : AV → Bool
  | .any | .agg _ | .tup _ => false
  | _ => true
def flat (xs : List AV) : List AV := xs.flatMap AV.cells

/-! ### The translation, shorter -/
inductive Opd where
  | t (i : Nat)
  | c (v : AV)
  deriving Inhabited
inductive AOpr where
  | mov (x : Opd)
  | pick (c a b : Opd)
  | alloc (z : AV)
  | box (x : Opd)
  | bld (zero : List AV) (parts : List (Nat × Nat × Opd))
  | bsl (sz : Nat) (xs : List Opd)
  | ld (n : Option Nat) (x : Opd)
  | st (n : Nat) (a x : Opd)
  | nilchk (x : Opd)
  | bin (op : BinOp) (x y : Opd)
  | eqs (neg : Bool) (ks : List Nat) (x y : Opd)
  | eqb (neg : Bool) (x y : Opd)
  | eqp (neg : Bool) (x y : Opd)
  | eqn (kind : Nat) (neg : Bool) (x : Opd)
  | not (x : Opd)
  | neg (x : Opd)
  | conv (k : IntKind) (x : Opd)
  | cbs (x : Opd)
  | mkfn (f : Fn) (first captured : List Opd)
  | mkmap
  | mksl (sz bytes : Nat) (zero : AV) (n : Opd)
  | slcS (x : Opd) (lo hi : Option Opd)
  | slc (sz : Nat) (x : Opd) (lo hi mx : Option Opd)
  | faddr (off : Nat) (x : Opd)
  | fld (off : Nat) (n : Option Nat) (x : Opd)
  | iaddr (sz : Nat) (x i : Opd)
  | iaddrA (len sz : Nat) (x i : Opd)
  | idxS (x i : Opd)
  | idxA (len sz : Nat) (n : Option Nat) (x i : Opd)
  | look (zero : AV) (ok : Bool) (m k : Opd)
  | mupd (m k v : Opd)
  | ment (zero : AV) (m k : Opd)
  | mest (m st v : Opd)
  | appZ (sz bytes : Nat) (zero : AV) (x n : Opd)
  | ext (x : Opd) (i : Nat)
  | lenS (x : Opd)
  | len (x : Opd)
  | lenM (x : Opd)
  | cap (x : Opd)
  | app (sz bytes : Nat) (x y : Opd)
  | mn (xs : List Opd)
  | mx (xs : List Opd)
  | callS (f : FuncId) (args : List Opd)
  | callV (f : Opd) (args : List Opd)
  | bad
  deriving Inhabited
structure AOpD where
  dst : Option Nat
  g : Option (Nat × Bool)
  op : AOpr
  after : List Nat
  deriving Inhabited
inductive AC where
  | skip
  | ops (l : List AOpD)
  | draw (l : List AOpD)
  | seq (a b : AC)
  | cond (c : Opd) (a b : AC)
  | block (id : Nat) (a : AC)
  | loop (a : AC)
  | rangeF (f : Opd) (ps : List Nat) (assign body : AC)
  | exit (id : Nat)
  | ret
  deriving Inhabited

/-- What a round leaves by. -/
inductive Jump where
  | none | ret | exit (id : Nat)
  deriving DecidableEq, Inhabited
structure ALoop where
  st : LoopState
  pend : Jump
  slots : List (Nat × AV)
  n : Nat
  ps : List Nat
  assign : AC
  body : AC
  dfr : Nat
  deriving Inhabited
inductive AObj where
  | row (ver sz : Nat) (es : List AV)
  | map (es : List (AV × AV))
  | loop (L : ALoop)
  | dfr
  | dead
  deriving Inhabited
abbrev AHeap := List AObj
def AObj.live : AObj → Bool
  | .dead => false
  | _ => true
structure AFr where
  n : Nat
  s : List (Nat × AV)
  dfr : List Nat
  deriving Inhabited
def alook : List (Nat × AV) → Nat → AV
  | [], _ => .any
  | (j, v) :: r, i => if i = j then v else alook r i

/-! ### What they stand for -/
/-- Where objects of one's own lie; blocks that are held back. -/
structure Rho where
  f : Nat → Nat
  X : Nat → Prop
instance : CoeFun Rho (fun _ => Nat → Nat) := ⟨Rho.f⟩
def Owned (ρ : Rho) (h : AHeap) (b : Nat) : Prop := (∃ i o, h[i]? = some o ∧ o.live = true ∧ ρ i = b) ∨ ρ.X b
def blockSize (w : World) (b : Nat) : Nat := match w.heap[b]? with
  | some (.cells cs _ _) => cs.size
  | _ => 0
/-- A part of old memory that nobody writes any more. -/
structure Still (ρ : Rho) (h : AHeap) (w : World) (b : Nat) : Prop where
  lt : b < w.heap.size
  free : ¬ Owned ρ h b

inductive VR (ρ : Rho) (h : AHeap) (w : World) : AV → Value → Prop
  | any (v : Value) : VR ρ h w .any v
  | int (k : IntKind) (n : Int) : VR ρ h w (.int k n) (.int k n)
  | bool (b : Bool) : VR ρ h w (.bool b) (.bool b)
  | str (s : ByteArray) : VR ρ h w (.str s) (.string s)
  | nilp : VR ρ h w .nilp (.pointer none)
  | rp (id ver idx off : Nat) (a : Addr) (hid : id < h.length)
      (hc : ∀ k sz es, h[id]? = some (.row k sz es) → ver ≤ k ∧ (ver = k → a = ⟨ρ id, idx * sz + off, none⟩)) :
      VR ρ h w (.rp id ver idx off) (.pointer (some a))
  | cp (e : AV) (off b o : Nat) (vals : Nat → Value) (hs : Still ρ h w b)
      (hc : ∀ j u, e.cells[j]? = some u → w.cell? ⟨b, o + j, none⟩ = some (vals j))
      (hv : ∀ j u, e.cells[j]? = some u → VR ρ h w u (vals j)) :
      VR ρ h w (.cp e off) (.pointer (some ⟨b, o + off, none⟩))
  | sl (tight : Bool) (xs : List AV) (A : Option Addr) (c sz : Nat) (vals : Nat → Value)
      (hsz : ∀ x ∈ xs, x.cells.length = sz)
      (ha : xs ≠ [] → ∃ b o, A = some ⟨b, o, none⟩ ∧ Still ρ h w b ∧ ∀ j u, (flat xs)[j]? = some u → w.cell? ⟨b, o + j, none⟩ = some (vals j))
      (hv : ∀ j u, (flat xs)[j]? = some u → VR ρ h w u (vals j))
      (hc : xs.length ≤ c) (ht : tight = true → c = xs.length) :
      VR ρ h w (.sl tight xs) (.slice A xs.length c)
  | rf (id ver idx len : Nat) (A : Option Addr) (c : Nat) (hid : id < h.length) (hl : len ≤ c)
      (hc : ∀ k sz es, h[id]? = some (.row k sz es) → ver ≤ k ∧ (ver = k → (c ≠ 0 → A = some ⟨ρ id, idx * sz, none⟩) ∧ idx + len ≤ es.length ∧ (idx + c) * sz ≤ blockSize w (ρ id))) :
      VR ρ h w (.rf id ver idx len) (.slice A len c)
  | mp (id r : Nat) (hid : id < h.length) (hc : ∀ es, h[id]? = some (.map es) → r = ρ id) : VR ρ h w (.mp id) (.map (some r))
  | nilmap : VR ρ h w .nilmap (.map none)
  | fn (f : Fn) (first captured : List AV) (fv cv : Array Value) (h1 : first.length = fv.size) (h2 : captured.length = cv.size)
      (hf : ∀ j u, first[j]? = some u → VR ρ h w u (fv.getD j undef)) (hc : ∀ j u, captured[j]? = some u → VR ρ h w u (cv.getD j undef)) :
      VR ρ h w (.fn f first captured) (.func f fv cv)
  | yld (id l : Nat) (hid : id < h.length) (hc : ∀ L, h[id]? = some (.loop L) → l = ρ id) : VR ρ h w (.yld id) (.func (.yield l) #[] #[])
  | nilfn : VR ρ h w .nilfn .nilFunc
  | anyb (b : Bool) : VR ρ h w .anyb (.bool b)
  | agg (cs : List AV) (vals : Array Value) (hl : cs.length = vals.size) (hv : ∀ j u, cs[j]? = some u → VR ρ h w u (vals.getD j undef)) : VR ρ h w (.agg cs) (.agg vals)
  | tup (vs : List AV) (vals : Array Value) (hl : vs.length = vals.size) (hv : ∀ j u, vs[j]? = some u → VR ρ h w u (vals.getD j undef)) : VR ρ h w (.tup vs) (.tuple vals)

/-- One object's next state: versions rise. -/
def AObj.to : AObj → AObj → Prop
  | .row k sz _, .row k' sz' es' => k ≤ k' ∧ sz = sz'
  | .map _, .map _ => True
  | .loop _, .loop _ => True
  | .dfr, .dfr => True
  | _, _ => False
def AObj.same : AObj → AObj → Prop
  | .row k _ es, .row k' _ es' => k = k' → es.length ≤ es'.length
  | _, _ => True
def AObj.stay : AObj → AObj → Prop
  | .row k _ _, .row k' _ _ => k = k'
  | _, _ => True

structure Step (ρ : Rho) (h : AHeap) (w : World) (ρ' : Rho) (h' : AHeap) (w' : World) : Prop where
  len : h.length ≤ h'.length
  keep : ∀ i o', h'[i]? = some o' → o'.live = true → i < h.length → ∃ o, h[i]? = some o ∧ o.to o' ∧ o.same o' ∧ (o.stay o' → ρ' i = ρ i ∧ blockSize w' (ρ i) = blockSize w (ρ i))
  free : ∀ b, Still ρ h w b → w'.heap[b]? = w.heap[b]? ∧ Still ρ' h' w' b
  size : w.heap.size ≤ w'.heap.size
  os : w'.os = w.os
  tape : w'.tape = w.tape
  output : w'.output = w.output
  x : ρ'.X = ρ.X
  kx : ∀ b, ρ.X b → w'.heap[b]? = w.heap[b]?

theorem AObj.to_refl {o : AObj} (h : o.live = true) : o.to o := by cases o <;> simp_all [AObj.to, AObj.live]
theorem AObj.same_refl (o : AObj) : o.same o := by cases o <;> simp [AObj.same]
theorem AObj.to_live {o o' : AObj} (h : o.to o') : o.live = true := by cases o <;> cases o' <;> simp_all [AObj.to, AObj.live]
theorem AObj.to_live' {o o' : AObj} (h : o.to o') : o'.live = true := by cases o <;> cases o' <;> simp_all [AObj.to, AObj.live]
theorem AObj.to_trans {o o' o'' : AObj} (a : o.to o') (b : o'.to o'') : o.to o'' := by
  cases o <;> cases o' <;> simp only [AObj.to] at a <;> cases o'' <;> simp only [AObj.to] at b ⊢
  exact ⟨Nat.le_trans a.1 b.1, a.2.trans b.2⟩
theorem AObj.stay_mid {o o' o'' : AObj} (a : o.to o') (b : o'.to o'') (hs : o.stay o'') : o.stay o' ∧ o'.stay o'' := by
  cases o <;> cases o' <;> simp only [AObj.to] at a <;> cases o'' <;> simp only [AObj.to] at b <;> simp only [AObj.stay] at hs ⊢ <;> first | exact ⟨trivial, trivial⟩ | skip
  omega
theorem AObj.same_trans {o o' o'' : AObj} (a : o.to o') (b : o'.to o'') (h1 : o.same o') (h2 : o'.same o'') : o.same o'' := by
  cases o <;> cases o' <;> simp only [AObj.to] at a <;> cases o'' <;> simp only [AObj.to] at b <;> simp only [AObj.same] at h1 h2 ⊢
  intro e
  have := h1 (by omega)
  have := h2 (by omega)
  omega
theorem Step.refl (ρ : Rho) (h : AHeap) (w : World) : Step ρ h w ρ h w :=
  ⟨Nat.le_refl _, fun i o ho hl _ => ⟨o, ho, AObj.to_refl hl, AObj.same_refl o, fun _ => ⟨rfl, rfl⟩⟩, fun b hb => ⟨rfl, hb⟩, Nat.le_refl _, rfl, rfl, rfl, rfl, fun _ _ => rfl⟩
theorem Step.trans {ρ ρ' ρ'' : Rho} {h h' h'' : AHeap} {w w' w'' : World} (a : Step ρ h w ρ' h' w') (b : Step ρ' h' w' ρ'' h'' w'') : Step ρ h w ρ'' h'' w'' := by
  refine ⟨Nat.le_trans a.len b.len, ?_, ?_, Nat.le_trans a.size b.size, b.os.trans a.os, b.tape.trans a.tape, b.output.trans a.output, b.x.trans a.x, fun b' hb => (b.kx b' (by rw [a.x]; exact hb)).trans (a.kx b' hb)⟩
  · intro i o'' h2 hl hi
    obtain ⟨o', h1, t1, s1, k1⟩ := b.keep i o'' h2 hl (Nat.lt_of_lt_of_le hi a.len)
    obtain ⟨o, h0, t0, s0, k0⟩ := a.keep i o' h1 (AObj.to_live t1) hi
    refine ⟨o, h0, AObj.to_trans t0 t1, AObj.same_trans t0 t1 s0 s1, ?_⟩
    intro hs
    have e := AObj.stay_mid t0 t1 hs
    obtain ⟨r0, z0⟩ := k0 e.1
    obtain ⟨r1, z1⟩ := k1 e.2
    refine ⟨r1.trans r0, ?_⟩
    rw [r0] at z1
    exact z1.trans z0
  · intro b' hb
    obtain ⟨e1, s1⟩ := a.free b' hb
    obtain ⟨e2, s2⟩ := b.free b' s1
    exact ⟨e2.trans e1, s2⟩

theorem VR.mono {ρ ρ' : Rho} {h h' : AHeap} {w w' : World} (s : Step ρ h w ρ' h' w') {v : AV} {x : Value} (hv : VR ρ h w v x) : VR ρ' h' w' v x := by
  induction hv with
  | any v => exact .any v
  | int k n => exact .int k n
  | bool b => exact .bool b
  | str t => exact .str t
  | nilp => exact .nilp
  | rp id ver idx off a hid hc =>
    refine .rp id ver idx off a (Nat.lt_of_lt_of_le hid s.len) ?_
    intro k' sz' es' h'e
    obtain ⟨o, h0, t, sm, st⟩ := s.keep id _ h'e rfl hid
    cases o <;> simp [AObj.to] at t
    obtain ⟨t1, rfl⟩ := t
    obtain ⟨c1, c2⟩ := hc _ _ _ h0
    refine ⟨by omega, fun e => ?_⟩
    have e1 := st (by simp [AObj.stay]; omega)
    rw [c2 (by omega), e1.1]
  | cp e off b o vals hs hc hv ih =>
    obtain ⟨e1, s1⟩ := s.free b hs
    refine .cp e off b o vals s1 (fun j u hj => ?_) (fun j u hj => ih j u hj)
    rw [World.cell?_of_block (a := ⟨b, o + j, none⟩) e1]
    exact hc j u hj
  | sl tight xs A c sz vals hsz ha hv hc ht ih =>
    refine .sl tight xs A c sz vals hsz (fun hx => ?_) (fun j u hj => ih j u hj) hc ht
    obtain ⟨b, o, e, hs, hcl⟩ := ha hx
    obtain ⟨e1, s1⟩ := s.free b hs
    refine ⟨b, o, e, s1, fun j u hj => ?_⟩
    rw [World.cell?_of_block (a := ⟨b, o + j, none⟩) e1]
    exact hcl j u hj
  | rf id ver idx len A c hid hl hc =>
    refine .rf id ver idx len A c (Nat.lt_of_lt_of_le hid s.len) hl ?_
    intro k' sz' es' h'e
    obtain ⟨o, h0, t, sm, st⟩ := s.keep id _ h'e rfl hid
    cases o <;> simp [AObj.to] at t
    obtain ⟨t1, rfl⟩ := t
    obtain ⟨c1, c2⟩ := hc _ _ _ h0
    refine ⟨by omega, fun e => ?_⟩
    have e1 := st (by simp [AObj.stay]; omega)
    obtain ⟨d1, d2, d3⟩ := c2 (by omega)
    rename_i k0 es0
    have e2 : es0.length ≤ es'.length := sm (by omega)
    refine ⟨fun hne => ?_, by omega, ?_⟩
    · rw [d1 hne, e1.1]
    · rw [e1.1, e1.2]; exact d3
  | mp id r hid hc =>
    refine .mp id r (Nat.lt_of_lt_of_le hid s.len) ?_
    intro es' h'e
    obtain ⟨o, h0, t, _, st⟩ := s.keep id _ h'e rfl hid
    cases o <;> simp [AObj.to] at t
    rw [hc _ h0, (st (by simp [AObj.stay])).1]
  | nilmap => exact .nilmap
  | fn f first captured fv cv h1 h2 hf hc ih1 ih2 => exact .fn f first captured fv cv h1 h2 (fun j u hj => ih1 j u hj) (fun j u hj => ih2 j u hj)
  | yld id l hid hc =>
    refine .yld id l (Nat.lt_of_lt_of_le hid s.len) ?_
    intro es' h'e
    obtain ⟨o, h0, t, _, st⟩ := s.keep id _ h'e rfl hid
    cases o <;> simp [AObj.to] at t
    rw [hc _ h0, (st (by simp [AObj.stay])).1]
  | nilfn => exact .nilfn
  | anyb b => exact .anyb b
  | agg cs vals hl hv ih => exact .agg cs vals hl (fun j u hj => ih j u hj)
  | tup vs vals hl hv ih => exact .tup vs vals hl (fun j u hj => ih j u hj)

theorem VR.oneCell {ρ : Rho} {h : AHeap} {w : World} {v : AV} {x : Value} (hv : VR ρ h w v x) (h1 : v.one = true) : x.oneCell' = true := by
  cases hv <;> simp_all [AV.one, Value.oneCell']

end Go.Av

/- The translation of a program's code into shorter words, by a function; what it asks of the type table it asks here. -/
set_option linter.unusedVariables false
set_option linter.unusedSimpArgs false
namespace Go.Av
open Go

def sc : Value → Option AV
  | .int k n => some (.int k n)
  | .bool b => some (.bool b)
  | .string s => some (.str s)
  | .pointer none => some .nilp
  | .slice none 0 0 => some (.sl true [])
  | .map none => some .nilmap
  | .nilFunc => some .nilfn
  | _ => none
def scs : List Value → Option (List AV)
  | [] => some []
  | v :: r => match sc v, scs r with
    | some a, some l => some (a :: l)
    | _, _ => none
def cv (v : Value) : AV :=
  match v with
  | .agg cs => match scs cs.toList with
    | some l => .agg l
    | none => .any
  | v => (sc v).getD .any
def cx : Operand → Opd
  | .tmp i => .t i
  | .const v => .c (cv v)
  | .global _ => .c .any
  | .func f => .c (.fn (.func f) [] [])

def opEq : Operand → Operand → Bool
  | .tmp i, .tmp j => i == j
  | .const (.int k a), .const (.int l b) => decide (k = l) && decide (a = b)
  | _, _ => false
theorem opEq_eq {x y : Operand} (h : opEq x y = true) (e : Operand → Value) (he : ∀ v, e (.const v) = v) : e x = e y := by
  unfold opEq at h
  split at h
  · simp at h; rw [h]
  · simp at h; rw [h.1, h.2]
  · cases h
section
variable (P : Program)
def ldk (t : TypeId) : Option (Option Nat) :=
  match P.underlying t, P.info? t with
  | some (.struct _), some i => some (some i.size)
  | some (.array _ _), some i => some (some i.size)
  | some _, some _ => some none
  | _, _ => none
/-- The plain cells of a type that is compared cell by cell: 0 a whole number, 1 a bool, 2 a string. -/
def eqFs (eq : TypeId → Option (List Nat)) : List Field → List Nat → Option (List Nat)
  | [], acc => some acc
  | f :: fs, acc => if f.name = "_" then none else if f.offset ≠ acc.length then none else
    match eq f.type with
    | some n => if (P.info? f.type).map (·.size) = some n.length then eqFs eq fs (acc ++ n) else none
    | none => none
def eqN : Nat → TypeId → Option (List Nat)
  | 0, _ => none
  | d + 1, t => match P.underlying t with
    | some (.int _) => some [0]
    | some .bool => some [1]
    | some .string => some [2]
    | some (.struct fs) => if P.stoodInHeld t then none else eqFs P (eqN d) fs.toList []
    | some (.array n e) => match eqN d e with
      | some ks => if (P.info? e).map (·.size) = some ks.length then some (List.replicate n ks).flatten else none
      | none => none
    | _ => none
def cBin (op : BinOp) (t : TypeId) (x y : Opd) : AOpr :=
  match op with
  | .eql | .neq => match P.underlying t with
    | some (.struct _) => match eqN P 6 t with
      | some n => if P.eqGuardType P.depth t then .bad else .eqs (op == .neq) n x y
      | none => .bad
    | some .bool => .eqb (op == .neq) x y
    | some (.pointer _) => .eqp (op == .neq) x y
    | some (.int _) | some .string => .bin op x y
    | _ => .bad
  | _ => .bin op x y
def cConv (s d : TypeId) (x : Opd) : AOpr :=
  match P.underlying s, P.underlying d with
  | some (.int _), some (.int k) => .conv k x
  | some (.slice e), some .string => match P.underlying e with
    | some (.int .u8) => .cbs x
    | _ => .bad
  | _, _ => .bad
def cCall (c : Call) : AOpr :=
  match c.callee with
  | .value (.func f) => .callS f (c.args.toList.map cx)
  | .value (.tmp f) => .callV (.t f) (c.args.toList.map cx)
  | .builtin .len => match c.args.toList, c.argTypes.toList with
    | [x], [t] => match P.underlying t with
      | some .string => .lenS (cx x)
      | some (.slice _) => .len (cx x)
      | some (.map _ _) => .lenM (cx x)
      | _ => .bad
    | _, _ => .bad
  | .builtin .cap => match c.args.toList, c.argTypes.toList with
    | [x], [t] => match P.underlying t with
      | some (.slice _) => .cap (cx x)
      | _ => .bad
    | _, _ => .bad
  | .builtin .append => match c.args.toList, c.argTypes.toList with
    | [x, y], [t, u] => match P.underlying t, P.underlying u with
      | some (.slice e), some (.slice _) => match P.info? e with
        | some i => if t = u ∧ i.zero.isSome ∧ 0 < i.size ∧ 0 < i.bytes ∧ (i.zero.map (·.cells.size) = some i.size) then .app i.size i.bytes (cx x) (cx y) else .bad
        | none => .bad
      | some (.slice e), some (.int _) => match P.info? e with
        | some i => match i.zero with
          | some z => if z.cells.size = i.size ∧ 0 < i.size ∧ 0 < i.bytes then .appZ i.size i.bytes (cv z) (cx x) (cx y) else .bad
          | none => .bad
        | none => .bad
      | _, _ => .bad
    | _, _ => .bad
  | .builtin .min => .mn (c.args.toList.map cx)
  | .builtin .max => .mx (c.args.toList.map cx)
  | _ => .bad
def cParts (fs : Array Field) : List (Nat × Operand) → Option (List (Nat × Nat × Opd))
  | [] => some []
  | (i, x) :: r => match fs[i]? with
    | none => none
    | some f => match P.info? f.type, cParts fs r with
      | some j, some l => some ((f.offset, j.size, cx x) :: l)
      | _, _ => none
def cOp (o : Oper) : AOpr :=
  match o.op with
  | .move x | .assign x => .mov (cx x)
  | .pick c a b => .pick (cx c) (cx a) (cx b)
  | .alloc t => match (P.info? t).bind (·.zero) with
    | some z => .alloc (cv z)
    | none => .bad
  | .box _ x => .box (cx x)
  | .build t parts => match P.underlying t, (P.info? t).bind (·.zero) with
    | some (.struct fs), some z => match cv z, cParts P fs parts.toList with
      | .agg l, some ps => if fs.toList.all (fun f => (P.info? f.type).isSome) then .bld l ps else .bad
      | _, _ => .bad
    | some (.array _ e), some z => match cv z, P.info? e with
      | .agg l, some i => .bld l (parts.toList.map fun p => (p.1 * i.size, i.size, cx p.2))
      | _, _ => .bad
    | _, _ => .bad
  | .buildSlice t n parts => match P.underlying t with
    | some (.slice e) => match P.info? e with
      | some i => if (parts.toList.map (·.1)) = List.range n ∧ n * i.size ≤ 16777216 ∧ 0 < i.size ∧ (i.zero.map (·.cells.size) = some i.size) then .bsl i.size (parts.toList.map fun p => cx p.2) else .bad
      | none => .bad
    | _ => .bad
  | .load t x => match ldk P t with
    | some n => .ld n (cx x)
    | none => .bad
  | .store t a x => match P.info? t with
    | some i => .st i.size (cx a) (cx x)
    | none => .bad
  | .nilCheck x => .nilchk (cx x)
  | .binOp op t x y _ => match op, P.underlying t, y with
    | .eql, some (.slice _), .const (.slice none 0 0) => .eqn 0 false (cx x)
    | .neq, some (.slice _), .const (.slice none 0 0) => .eqn 0 true (cx x)
    | .eql, some (.func _ _ _), .const .nilFunc => .eqn 1 false (cx x)
    | .neq, some (.func _ _ _), .const .nilFunc => .eqn 1 true (cx x)
    | .eql, some (.map _ _), .const (.map none) => .eqn 2 false (cx x)
    | .neq, some (.map _ _), .const (.map none) => .eqn 2 true (cx x)
    | _, _, _ => cBin P op t (cx x) (cx y)
  | .unOp .not _ x => .not (cx x)
  | .unOp .neg _ x => .neg (cx x)
  | .convert s d x => cConv P s d (cx x)
  | .makeFunc f first captured => match f with
    | .func _ => .mkfn f (first.toList.map cx) (captured.toList.map cx)
    | _ => .bad
  | .makeMap t none => .mkmap
  | .makeSlice t n c => match P.underlying t with
    | some (.slice e) => match P.info? e with
      | some i => match i.zero with
        | some z => if opEq n c = true ∧ z.cells.size = i.size ∧ 0 < i.size ∧ 0 < i.bytes then .mksl i.size i.bytes (cv z) (cx n) else .bad
        | none => .bad
      | none => .bad
    | _ => .bad
  | .slice t x lo hi mx => match P.underlying t with
    | some .string => match mx with
      | none => .slcS (cx x) (lo.map cx) (hi.map cx)
      | some _ => .bad
    | some (.slice e) => match P.info? e with
      | some i => .slc i.size (cx x) (lo.map cx) (hi.map cx) (mx.map cx)
      | none => .bad
    | _ => .bad
  | .fieldAddr s x f => match P.underlying s with
    | some (.struct fs) => match fs[f]? with
      | some g => match P.info? g.type with
        | some i => if i.size = 0 then .bad else .faddr g.offset (cx x)
        | none => .bad
      | none => .bad
    | _ => .bad
  | .field t x f => match P.underlying t with
    | some (.struct fs) => match fs[f]? with
      | some g => match ldk P g.type with
        | some n => .fld g.offset n (cx x)
        | none => .bad
      | none => .bad
    | _ => .bad
  | .indexAddr t x i => match P.underlying t with
    | some (.slice e) => match P.info? e with
      | some j => .iaddr j.size (cx x) (cx i)
      | none => .bad
    | some (.array n e) => match P.info? e with
      | some j => .iaddrA n j.size (cx x) (cx i)
      | none => .bad
    | _ => .bad
  | .index t x i => match P.underlying t with
    | some .string => .idxS (cx x) (cx i)
    | some (.array n e) => match P.info? e, ldk P e with
      | some j, some k => .idxA n j.size k (cx x) (cx i)
      | _, _ => .bad
    | _ => .bad
  | .lookup t m k ok => match P.underlying t with
    | some (.map kt e) => match P.underlying kt, (P.info? e).bind (·.zero) with
      | some (.int _), some z => .look (cv z) ok (cx m) (cx k)
      | _, _ => .bad
    | _ => .bad
  | .mapUpdate t m k v | .insert t m k v => match P.underlying t with
    | some (.map kt _) => match P.underlying kt with
      | some (.int _) => .mupd (cx m) (cx k) (cx v)
      | _ => .bad
    | _ => .bad
  | .mapEntry t m k => match P.underlying t with
    | some (.map kt e) => match P.underlying kt, (P.info? e).bind (·.zero) with
      | some (.int _), some z => .ment (cv z) (cx m) (cx k)
      | _, _ => .bad
    | _ => .bad
  | .entryStore _ m s v => .mest (cx m) (cx s) (cx v)
  | .extract x i => .ext (cx x) i
  | .call c => cCall P c
  | _ => .bad
def cGuard (ops : Array Oper) (g : Option (Nat × Bool)) : Option (Option (Nat × Bool)) :=
  match g with
  | none => some none
  | some (j, b) => match (ops[j]?).bind (·.dst) with
    | some d => some (some (d, b))
    | none => none
def cOD (ops : Array Oper) (o : Oper) : Option AOpD :=
  match cGuard ops o.guard with
  | some g => some { dst := o.dst, g, op := cOp P o, after := (o.after.toList.filter (Region.binds .any)).map (·.on) }
  | none => none
def cOps (ops : Array Oper) : List Oper → Option (List AOpD)
  | [] => some []
  | o :: r => match cOD P ops o, cOps ops r with
    | some a, some l => some (a :: l)
    | _, _ => none
def comp : Code → Option AC
  | .skip => some .skip
  | .region _ ops false => (cOps P ops ops.toList).map fun l => .ops (l.map fun o => { o with after := [] })
  | .region _ ops true => (cOps P ops ops.toList).map .draw
  | .seq a b => match comp a, comp b with
    | some x, some y => some (.seq x y)
    | _, _ => none
  | .cond c a b => match comp a, comp b with
    | some x, some y => some (.cond (cx c) x y)
    | _, _ => none
  | .block id a => (comp a).map (.block id)
  | .loop a => (comp a).map .loop
  | .rangeFunc f ps a b => match comp a, comp b with
    | some x, some y => some (.rangeF (cx f) ps.toList x y)
    | _, _ => none
  | .exit id => some (.exit id)
  | .ret => some .ret
  | _ => none
end
end Go.Av

/- One operation in the short words, and the relation between worlds. -/
set_option linter.unusedVariables false
set_option linter.unusedSimpArgs false
namespace Go.Av
open Go

def ev (s : List (Nat × AV)) : Opd → AV
  | .t i => alook s i
  | .c v => v
inductive ARes where
  | v (x : AV) (h : AHeap)
  | skip (h : AHeap)
  | call (f : FuncId) (args : List AV)
  | yield (id : Nat) (args : List AV)
  | fail
  deriving Inhabited

def rowAt (h : AHeap) (id ver : Nat) : Option (Nat × List AV) :=
  match h[id]? with
  | some (.row k sz es) => if k = ver then some (sz, es) else none
  | _ => none
def ptrCells (h : AHeap) : AV → Option (List AV)
  | .rp id ver idx off => match rowAt h id ver with
    | some (_, es) => match es[idx]? with
      | some e => some (e.cells.drop off)
      | none => none
    | none => none
  | .cp e off => some (e.cells.drop off)
  | _ => none
def takeAs (n : Option Nat) (cs : List AV) : Option AV :=
  match n with
  | none => cs.head?
  | some n => if n ≤ cs.length then some (.agg (cs.take n)) else none
def splice (cs : List AV) (off : Nat) (vs : List AV) : List AV := cs.take off ++ (vs ++ cs.drop (off + vs.length))
def recell (e : AV) (cs : List AV) : AV :=
  match e with
  | .agg _ => .agg cs
  | e => cs.headD e
/-- Cells that can be stored. -/
def okC (cs : List AV) : Bool := cs.all AV.one
def okE (sz : Nat) (x : AV) : Bool := (x.cells.length == sz) && okC x.cells
def stAt (h : AHeap) (a : AV) (n : Nat) (x : AV) : Option AHeap :=
  match a with
  | .rp id ver idx off => match rowAt h id ver with
    | some (sz, es) => match es[idx]? with
      | some e => if okE n x = true ∧ off + n ≤ e.cells.length then some (h.set id (.row ver sz (es.set idx (recell e (splice e.cells off x.cells))))) else none
      | none => none
    | none => none
  | _ => none
def elems (h : AHeap) : AV → Option (List AV)
  | .sl _ xs => some xs
  | .rf id ver idx len => match rowAt h id ver with
    | some (_, es) => some ((es.drop idx).take len)
    | none => none
  | _ => none
def most : Nat := 140737488355328
def appR (h : AHeap) (sz bytes : Nat) (x : AV) (ys : List AV) : ARes :=
  match x with
  | .sl t xs => if ys = [] then .v x h else
    if t = true ∧ (xs.length + ys.length) * bytes ≤ most ∧ (xs ++ ys).all (okE sz) = true then .v (.rf h.length 0 0 (xs.length + ys.length)) (h ++ [.row 0 sz (xs ++ ys)]) else .fail
  | .rf id ver idx len => match rowAt h id ver with
    | some (sz', es) => if ys = [] then .v x h else
      if idx = 0 ∧ sz' = sz ∧ len ≤ es.length ∧ (len + ys.length) * bytes ≤ most ∧ ys.all (okE sz) = true then .v (.rf id (ver + 1) 0 (len + ys.length)) (h.set id (.row (ver + 1) sz (es.take len ++ ys))) else .fail
    | none => .fail
  | _ => .fail
def abin (op : BinOp) (x y : AV) : Option AV :=
  match x, y with
  | .int k a, .int k' b =>
    match op with
    | .shl => if b < 0 then none else some (.int k (k.wrap (a * 2 ^ (min b.toNat k.bits))))
    | .shr => if b < 0 then none else some (.int k (a.fdiv (2 ^ (min b.toNat k.bits))))
    | op => if k ≠ k' then none else match op with
      | .add => some (.int k (k.wrap (a + b)))
      | .sub => some (.int k (k.wrap (a - b)))
      | .mul => some (.int k (k.wrap (a * b)))
      | .quo => if b = 0 then none else some (.int k (k.wrap (a.tdiv b)))
      | .rem => if b = 0 then none else some (.int k (a.tmod b))
      | .and => some (.int k (k.wrap (BitVec.ofInt k.bits a &&& BitVec.ofInt k.bits b).toNat))
      | .or => some (.int k (k.wrap (BitVec.ofInt k.bits a ||| BitVec.ofInt k.bits b).toNat))
      | .xor => some (.int k (k.wrap (BitVec.ofInt k.bits a ^^^ BitVec.ofInt k.bits b).toNat))
      | .eql => some (.bool (a == b))
      | .neq => some (.bool (a != b))
      | .lss => some (.bool (decide (a < b)))
      | .leq => some (.bool (decide (a ≤ b)))
      | .gtr => some (.bool (decide (a > b)))
      | .geq => some (.bool (decide (a ≥ b)))
      | _ => none
  | .str a, .str b =>
    match op with
    | .add => if ((a.size + b.size : Nat) : Int) > IntKind.i64.max then none else some (.str (a ++ b))
    | .eql => some (.bool (a.toList == b.toList))
    | .neq => some (.bool (!(a.toList == b.toList)))
    | _ => none
  | _, _ => none
def aeq1 (t : Nat) : AV → AV → Option Bool
  | .int k a, .int k' b => if t = 0 ∧ k = k' then some (a == b) else none
  | .bool a, .bool b => if t = 1 then some (a == b) else none
  | .str a, .str b => if t = 2 then some (a.toList == b.toList) else none
  | _, _ => none
def aeqs : List Nat → List AV → List AV → Option Bool
  | [], [], [] => some true
  | t :: ts, x :: xs, y :: ys => match aeq1 t x y, aeqs ts xs ys with
    | some a, some b => some (a && b)
    | _, _ => none
  | _, _, _ => none
def aeqp : AV → AV → Option Bool
  | .nilp, .nilp => some true
  | .nilp, .rp _ _ _ _ => some false
  | .rp _ _ _ _, .nilp => some false
  | _, _ => none
def amin : List AV → Option AV
  | [.int k x, .int k' y] => if k = k' then some (.int k (if y < x then y else x)) else none
  | _ => none
def amax : List AV → Option AV
  | [.int k x, .int k' y] => if k = k' then some (.int k (if y > x then y else x)) else none
  | _ => none
def u8s : List AV → Option (List Int)
  | [] => some []
  | .int .u8 n :: r => (u8s r).map (n :: ·)
  | _ => none
def afill : List AV → List (Nat × Nat × AV) → Option (List AV)
  | cs, [] => some cs
  | cs, (off, sz, v) :: r => if okE sz v = true ∧ off + sz ≤ cs.length then afill (splice cs off v.cells) r else none
/-- Where a key stands: -/
def mfind (k : IntKind) (n : Int) : List (AV × AV) → Nat → Option (Option (Nat × AV))
  | [], _ => some none
  | (.int k' m, v) :: r, i => if k = k' then (if n = m then some (some (i, v)) else mfind k n r (i + 1)) else none
  | _, _ => none
def optInt (s : List (Nat × AV)) (d : Int) : Option Opd → Option Int
  | none => some d
  | some x => match ev s x with
    | .int _ n => some n
    | _ => none
def aslc (h : AHeap) (s : List (Nat × AV)) (sz : Nat) (x : AV) (lo hi mx : Option Opd) : ARes :=
  match x with
  | .sl t xs => match optInt s 0 lo, optInt s xs.length hi with
    | some l, some e => if 0 ≤ l ∧ l ≤ e ∧ e ≤ xs.length then
        match mx with
        | none => if xs.all (fun x => x.cells.length == sz) = true then .v (.sl (t && decide (e = xs.length)) ((xs.drop l.toNat).take (e - l).toNat)) h else .fail
        | some m => match ev s m with
          | .int _ m => if hi.isSome = true ∧ m = e ∧ xs.all (fun x => x.cells.length == sz) = true then .v (.sl true ((xs.drop l.toNat).take (e - l).toNat)) h else .fail
          | _ => .fail
      else .fail
    | _, _ => .fail
  | .rf id ver idx len => match rowAt h id ver, mx with
    | some (sz', _), none => match optInt s 0 lo, optInt s len hi with
      | some l, some e => if 0 ≤ l ∧ l ≤ e ∧ e ≤ len ∧ sz' = sz then .v (.rf id ver (idx + l.toNat) (e - l).toNat) h else .fail
      | _, _ => .fail
    | _, _ => .fail
  | _ => .fail
def rv (h : AHeap) : Option AV → ARes
  | some x => .v x h
  | none => .fail

def astep (s : List (Nat × AV)) (h : AHeap) (o : AOpr) : ARes :=
  match o with
  | .mov x => .v (ev s x) h
  | .pick c a b => match ev s c with
    | .bool t => .v (if t then ev s a else ev s b) h
    | _ => .fail
  | .alloc z => if okC z.cells = true then .v (.rp h.length 0 0 0) (h ++ [.row 0 z.cells.length [z]]) else .fail
  | .box x => if okC (ev s x).cells = true then .v (.rp h.length 0 0 0) (h ++ [.row 0 (ev s x).cells.length [ev s x]]) else .fail
  | .bld zero parts => match afill zero (parts.map fun p => (p.1, p.2.1, ev s p.2.2)) with
    | some cs => .v (.agg cs) h
    | none => .fail
  | .bsl sz xs => if (xs.map (ev s)).all (okE sz) = true then .v (.sl true (xs.map (ev s))) h else .fail
  | .ld n x => match ptrCells h (ev s x) with
    | some cs => rv h (takeAs n cs)
    | none => .fail
  | .st n a x => match stAt h (ev s a) n (ev s x) with
    | some h' => .skip h'
    | none => .fail
  | .nilchk x => match ev s x with
    | .rp id ver idx off => .v (.rp id ver idx off) h
    | .cp e off => .v (.cp e off) h
    | .fn (.func f) a b => .v (.fn (.func f) a b) h
    | .yld id => .v (.yld id) h
    | _ => .fail
  | .bin op x y => rv h (abin op (ev s x) (ev s y))
  | .eqs neg ks x y => match ev s x, ev s y with
    | .agg xs, .agg ys => match aeqs ks xs ys with
      | some b => .v (.bool (b != neg)) h
      | none => .fail
    | _, _ => .fail
  | .eqb neg x y => match ev s x, ev s y with
    | .bool a, .bool b => .v (.bool ((a == b) != neg)) h
    | _, _ => .fail
  | .eqp neg x y => match aeqp (ev s x) (ev s y) with
    | some b => .v (.bool (b != neg)) h
    | none => .fail
  | .eqn k neg x => match k, ev s x with
    | 0, .sl _ [] => .v .anyb h
    | 0, .sl _ (_ :: _) => .v (.bool neg) h
    | 0, .rf id ver _ len => match rowAt h id ver with
      | some _ => if len = 0 then .v .anyb h else .v (.bool neg) h
      | none => .fail
    | 1, .fn _ _ _ => .v (.bool neg) h
    | 1, .yld _ => .v (.bool neg) h
    | 1, .nilfn => .v (.bool (!neg)) h
    | 2, .mp _ => .v (.bool neg) h
    | 2, .nilmap => .v (.bool (!neg)) h
    | _, _ => .fail
  | .not x => match ev s x with
    | .bool b => .v (.bool (!b)) h
    | _ => .fail
  | .neg x => match ev s x with
    | .int k n => .v (.int k (k.wrap (0 - n))) h
    | _ => .fail
  | .conv k x => match ev s x with
    | .int _ n => .v (.int k (k.wrap n)) h
    | _ => .fail
  | .cbs x => match elems h (ev s x) with
    | some ys => match u8s ys with
      | some l => .v (.str (strOfNums l)) h
      | none => .fail
    | none => .fail
  | .mkfn f a b => .v (.fn f (a.map (ev s)) (b.map (ev s))) h
  | .mkmap => .v (.mp h.length) (h ++ [.map []])
  | .mksl sz bytes zero n => match ev s n with
    | .int .i64 n => if 0 ≤ n ∧ n * bytes ≤ most ∧ okE sz zero = true then .v (.rf h.length 0 0 n.toNat) (h ++ [.row 0 sz (List.replicate n.toNat zero)]) else .fail
    | _ => .fail
  | .slcS x lo hi => match ev s x with
    | .str b => match optInt s 0 lo, optInt s b.size hi with
      | some l, some e => if 0 ≤ l ∧ l ≤ e ∧ e ≤ b.size then .v (.str (b.extract l.toNat e.toNat)) h else .fail
      | _, _ => .fail
    | _ => .fail
  | .slc sz x lo hi mx => aslc h s sz (ev s x) lo hi mx
  | .faddr off x => match ev s x with
    | .rp id ver idx o => .v (.rp id ver idx (o + off)) h
    | .cp e o => .v (.cp e (o + off)) h
    | _ => .fail
  | .fld off n x => match ev s x with
    | .agg cs => rv h (takeAs n (cs.drop off))
    | _ => .fail
  | .iaddr sz x i => match ev s i with
    | .int _ n => if 0 ≤ n then match ev s x with
        | .sl _ xs => match xs[n.toNat]? with
          | some e => if e.cells.length = sz then .v (.cp e 0) h else .fail
          | none => .fail
        | .rf id ver idx len => match rowAt h id ver with
          | some (sz', es) => if n.toNat < len ∧ sz' = sz then .v (.rp id ver (idx + n.toNat) 0) h else .fail
          | none => .fail
        | _ => .fail
      else .fail
    | _ => .fail
  | .iaddrA len sz x i => match ev s i with
    | .int _ n => if 0 ≤ n ∧ n < len then match ev s x with
        | .rp id ver idx o => .v (.rp id ver idx (o + n.toNat * sz)) h
        | .cp e o => .v (.cp e (o + n.toNat * sz)) h
        | _ => .fail
      else .fail
    | _ => .fail
  | .idxS x i => match ev s i with
    | .int _ n => match ev s x with
      | .str b => if 0 ≤ n then match b[n.toNat]? with
          | some c => .v (.int .u8 c.toNat) h
          | none => .fail
        else .fail
      | _ => .fail
    | _ => .fail
  | .idxA len sz n x i => match ev s i with
    | .int _ j => if 0 ≤ j ∧ j < len then match ev s x with
        | .agg cs => rv h (takeAs n (cs.drop (j.toNat * sz)))
        | _ => .fail
      else .fail
    | _ => .fail
  | .look zero ok m k => match ev s k with
    | .int kk n => match (match ev s m with
        | .nilmap => some none
        | .mp id => match h[id]? with
          | some (.map es) => mfind kk n es 0
          | _ => none
        | _ => none) with
      | some (some (_, v)) => .v (if ok then .tup [v, .bool true] else v) h
      | some none => .v (if ok then .tup [zero, .bool false] else zero) h
      | none => .fail
    | _ => .fail
  | .mupd m k v => match ev s k with
    | .int kk n => match ev s m with
      | .mp id => match h[id]? with
        | some (.map es) => match mfind kk n es 0 with
          | some (some (i, _)) => .skip (h.set id (.map (es.set i (.int kk n, ev s v))))
          | some none => .skip (h.set id (.map (es ++ [(.int kk n, ev s v)])))
          | none => .fail
        | _ => .fail
      | _ => .fail
    | _ => .fail
  | .ment zero m k => match ev s k with
    | .int kk n => match ev s m with
      | .mp id => match h[id]? with
        | some (.map es) => match mfind kk n es 0 with
          | some (some (i, v)) => .v (.tup [v, .int .i64 i]) (h.set id (.map (es.set i (.int kk n, v))))
          | some none => .v (.tup [zero, .int .i64 es.length]) (h.set id (.map (es ++ [(.int kk n, zero)])))
          | none => .fail
        | _ => .fail
      | _ => .fail
    | _ => .fail
  | .mest m st v => match ev s st with
    | .int .i64 n => if 0 ≤ n then match ev s m with
      | .mp id => match h[id]? with
        | some (.map es) => match es[n.toNat]? with
          | some (k, _) => .skip (h.set id (.map (es.set n.toNat (k, ev s v))))
          | none => .fail
        | _ => .fail
      | _ => .fail
      else .fail
    | _ => .fail
  | .appZ sz bytes zero x n => match ev s n with
    | .int .i64 n => match ev s x with
      | .sl true [] => if 0 < n ∧ n * bytes ≤ most ∧ okE sz zero = true then .v (.rf h.length 0 0 n.toNat) (h ++ [.row 0 sz (List.replicate n.toNat zero)]) else .fail
      | _ => .fail
    | _ => .fail
  | .ext x i => match ev s x with
    | .tup vs => match vs[i]? with
      | some v => .v v h
      | none => .fail
    | _ => .fail
  | .lenS x => match ev s x with
    | .str b => .v (.int .i64 b.size) h
    | _ => .fail
  | .len x => match ev s x with
    | .sl _ xs => .v (.int .i64 xs.length) h
    | .rf _ _ _ len => .v (.int .i64 len) h
    | _ => .fail
  | .cap x => match ev s x with
    | .sl true xs => .v (.int .i64 xs.length) h
    | _ => .fail
  | .lenM x => match ev s x with
    | .nilmap => .v (.int .i64 0) h
    | .mp id => match h[id]? with
      | some (.map es) => .v (.int .i64 es.length) h
      | _ => .fail
    | _ => .fail
  | .app sz bytes x y => match elems h (ev s y) with
    | some ys => appR h sz bytes (ev s x) ys
    | none => .fail
  | .mn xs => rv h (amin (xs.map (ev s)))
  | .mx xs => rv h (amax (xs.map (ev s)))
  | .callS f args => .call f (args.map (ev s))
  | .callV f args => match ev s f with
    | .fn (.func g) first captured => .call g (first ++ (args.map (ev s)) ++ captured)
    | .yld id => .yield id (args.map (ev s))
    | _ => .fail
  | .bad => .fail

/-! ### The relation -/
section
variable (P : Program)
def Jump.code : Jump → Option Code
  | .none => Option.none
  | .ret => some .ret
  | .exit id => some (.exit id)
def ObjR (ρ : Rho) (h : AHeap) (w : World) (b : Nat) : AObj → Prop
  | .row ver sz es => ∃ (cs : Array Value) (elem : TypeId), w.heap[b]? = some (.cells cs elem (0, 0)) ∧ (∀ x ∈ es, x.cells.length = sz) ∧ es.length * sz ≤ cs.size ∧ (∀ x ∈ es, okC x.cells = true) ∧ ∀ (j : Nat) (u : AV), (flat es)[j]? = some u → ∃ v, cs[j]? = some v ∧ VR ρ h w u v
  | .map es => ∃ (ces : Array MapEntry) (clock : Nat), w.heap[b]? = some (.map ces clock) ∧ (ces.size = es.length ∧ clock = es.length) ∧ ∀ (j : Nat) (k u : AV), es[j]? = some (k, u) → (∃ kk n, k = .int kk n ∧ (ces.getD j default).born = j) ∧ VR ρ h w k (ces.getD j default).key ∧ VR ρ h w u (ces.getD j default).val
  | .loop L => ∃ (fn : FuncId) (tmps : Array Value) (assign body : Code), w.heap[b]? = some (.loop { state := L.st, pending := L.pend.code, fn, tmps, params := L.ps.toArray, assign, body, defers := ρ L.dfr }) ∧
      comp P assign = some L.assign ∧ comp P body = some L.body ∧ tmps.size = L.n ∧ (∀ i, VR ρ h w (alook L.slots i) (tmps.getD i undef)) ∧ h[L.dfr]? = some .dfr
  | .dfr => w.heap[b]? = some (.deferred (some []))
  | .dead => True
structure HR (ρ : Rho) (h : AHeap) (w : World) : Prop where
  obj : ∀ i o, h[i]? = some o → ObjR P ρ h w (ρ i) o
  inj : ∀ i j o p, h[i]? = some o → h[j]? = some p → o.live = true → p.live = true → ρ i = ρ j → i = j
  xo : ∀ i o, h[i]? = some o → o.live = true → ¬ ρ.X (ρ i)
  xl : ∀ b, ρ.X b → b < w.heap.size
structure Rel (ρ : Rho) (τ : AFr) (h : AHeap) (a : Act) (w : World) : Prop where
  heap : HR P ρ h w
  n : a.tmps.size = τ.n
  slot : ∀ i, VR ρ h w (alook τ.s i) (a.tmps.getD i undef)
  dfr : a.defers = τ.dfr.map fun d => { target := .collected (ρ d), args := #[] }
  dfrs : ∀ d ∈ τ.dfr, h[d]? = some .dfr
end
end Go.Av

/- How the relation lives on behind a new block, a store, a row that has grown. -/
set_option linter.unusedVariables false
set_option linter.unusedSimpArgs false
namespace Go.Av
open Go
variable {P : Program}

theorem heap_lt {w : World} {b : Nat} {o : Obj} (h : w.heap[b]? = some o) : b < w.heap.size := (Array.getElem?_eq_some_iff.1 h).1
theorem ObjR.lt {ρ : Rho} {h : AHeap} {w : World} {b : Nat} {o : AObj} (hr : ObjR P ρ h w b o) (hl : o.live = true) : b < w.heap.size := by
  cases o with
  | row ver sz es => obtain ⟨cs, e, hb, _⟩ := hr; exact heap_lt hb
  | map es => obtain ⟨cs, e, hb, _⟩ := hr; exact heap_lt hb
  | loop L => obtain ⟨fn, tmps, x, y, hb, _⟩ := hr; exact heap_lt hb
  | dfr => exact heap_lt hr
  | dead => cases hl
theorem blockSize_of {w w' : World} {b : Nat} (h : w'.heap[b]? = w.heap[b]?) : blockSize w' b = blockSize w b := by simp [blockSize, h]
theorem alloc_old (w : World) (o : Obj) (k : Nat) (hk : k < w.heap.size) : (w.alloc o).heap[k]? = w.heap[k]? := heap_alloc_old w o k hk
theorem ObjR.mono {ρ ρ' : Rho} {h h' : AHeap} {w w' : World} (s : Step ρ h w ρ' h' w') {b : Nat} {o : AObj} (hr : ObjR P ρ h w b o) (hb : w'.heap[b]? = w.heap[b]?)
    (hd : ∀ d : Nat, h[d]? = some .dfr → h'[d]? = some .dfr ∧ ρ' d = ρ d) : ObjR P ρ' h' w' b o := by
  cases o with
  | row ver sz es =>
    obtain ⟨cs, e, h0, h1, h2, h3, h4⟩ := hr
    exact ⟨cs, e, hb.trans h0, h1, h2, h3, fun j u hj => by obtain ⟨v, e1, e2⟩ := h4 j u hj; exact ⟨v, e1, e2.mono s⟩⟩
  | map es =>
    obtain ⟨cs, e, h0, h1, h2⟩ := hr
    exact ⟨cs, e, hb.trans h0, h1, fun j k u hj => by obtain ⟨e0, e1, e2⟩ := h2 j k u hj; exact ⟨e0, e1.mono s, e2.mono s⟩⟩
  | loop L =>
    obtain ⟨fn, tmps, x, y, h0, h1, h2, h3, h4, h5⟩ := hr
    refine ⟨fn, tmps, x, y, ?_, h1, h2, h3, fun i => (h4 i).mono s, (hd _ h5).1⟩
    rw [(hd _ h5).2]; exact hb.trans h0
  | dfr => exact hb.trans hr
  | dead => trivial

/-- One object changes, or is new; all others stay. -/
theorem HR.change {ρ ρ' : Rho} {h h' : AHeap} {w w' : World} (hh : HR P ρ h w) (s : Step ρ h w ρ' h' w') (i : Nat) (hother : ∀ j : Nat, j ≠ i → h'[j]? = h[j]?) (hρ : ∀ j, j ≠ i → ρ' j = ρ j)
    (hblk : ∀ (j : Nat) (o : AObj), j ≠ i → h[j]? = some o → o.live = true → w'.heap[ρ j]? = w.heap[ρ j]?) (hi : h[i]? ≠ some .dfr)
    (hnew : ∀ o', h'[i]? = some o' → ObjR P ρ' h' w' (ρ' i) o') (hfresh : ∀ (j : Nat) (o : AObj), j ≠ i → h[j]? = some o → o.live = true → ρ j ≠ ρ' i) (hfx : ∀ o', h'[i]? = some o' → o'.live = true → ¬ ρ.X (ρ' i)) : HR P ρ' h' w' := by
  have hd : ∀ d : Nat, h[d]? = some .dfr → h'[d]? = some .dfr ∧ ρ' d = ρ d := by
    intro d hd
    have hne : d ≠ i := fun e => hi (e ▸ hd)
    exact ⟨(hother d hne).trans hd, hρ d hne⟩
  constructor
  · intro j o ho
    by_cases e : j = i
    · subst e; exact hnew o ho
    · rw [hother j e] at ho
      rw [hρ j e]
      cases hl : o.live with
      | true => exact (hh.obj j o ho).mono s (hblk j o e ho hl) hd
      | false => cases o <;> simp_all [AObj.live]; trivial
  · intro j k o p hj hk lo lp e
    by_cases ej : j = i
    · by_cases ek : k = i
      · rw [ej, ek]
      · subst ej
        rw [hother k ek] at hk
        rw [hρ k ek] at e
        exact absurd e.symm (hfresh k p ek hk lp)
    · by_cases ek : k = i
      · subst ek
        rw [hother j ej] at hj
        rw [hρ j ej] at e
        exact absurd e (hfresh j o ej hj lo)
      · rw [hother j ej] at hj
        rw [hother k ek] at hk
        rw [hρ j ej, hρ k ek] at e
        exact hh.inj j k o p hj hk lo lp e
  · intro j o hj hl
    rw [s.x]
    by_cases ej : j = i
    · subst ej; exact hfx o hj hl
    · rw [hother j ej] at hj
      rw [hρ j ej]
      exact hh.xo j o hj hl
  · intro b hb
    rw [s.x] at hb
    exact Nat.lt_of_lt_of_le (hh.xl b hb) s.size

theorem Step.change {ρ ρ' : Rho} {h h' : AHeap} {w w' : World} (hh : HR P ρ h w) (i : Nat) (hlen : h.length ≤ h'.length) (hother : ∀ j : Nat, j ≠ i → j < h.length → h'[j]? = h[j]?) (hρ : ∀ j, j ≠ i → ρ' j = ρ j)
    (hblk : ∀ b, b < w.heap.size → (∀ o, h[i]? = some o → o.live = true → b ≠ ρ i) → w'.heap[b]? = w.heap[b]?)
    (hto : ∀ o', h'[i]? = some o' → o'.live = true → i < h.length → ∃ o, h[i]? = some o ∧ o.to o' ∧ o.same o' ∧ (o.stay o' → ρ' i = ρ i ∧ blockSize w' (ρ i) = blockSize w (ρ i)))
    (hnew : ∀ (j : Nat) (o' : AObj), j ≠ i → h.length ≤ j → h'[j]? = some o' → False) (hfr : (∃ o, h[i]? = some o ∧ o.live = true ∧ ρ' i = ρ i) ∨ w.heap.size ≤ ρ' i ∨ (∀ o', h'[i]? = some o' → o'.live = false))
    (hsz : w.heap.size ≤ w'.heap.size) (hos : w'.os = w.os) (htp : w'.tape = w.tape) (hout : w'.output = w.output) (hX : ρ'.X = ρ.X := by rfl) : Step ρ h w ρ' h' w' := by
  refine ⟨hlen, ?_, ?_, hsz, hos, htp, hout, hX, fun b hb => hblk b (hh.xl b hb) fun o ho hl e => hh.xo i o ho hl (e ▸ hb)⟩
  · intro j o' hj hl hlt
    by_cases e : j = i
    · subst e; exact hto o' hj hl hlt
    · rw [hother j e hlt] at hj
      refine ⟨o', hj, AObj.to_refl hl, AObj.same_refl o', fun _ => ⟨hρ j e, blockSize_of (hblk _ ((hh.obj j o' hj).lt hl) ?_)⟩⟩
      intro o ho hlo he
      exact e (hh.inj j i o' o hj ho hl hlo he)
  · intro b hb
    have hne : ∀ o, h[i]? = some o → o.live = true → b ≠ ρ i := fun o ho hl e => hb.free (.inl ⟨i, o, ho, hl, e.symm⟩)
    refine ⟨hblk b hb.lt hne, Nat.lt_of_lt_of_le hb.lt hsz, ?_⟩
    rintro (⟨j, o', hj, hl, e⟩ | hx)
    rotate_left
    · exact hb.free (.inr (by rw [← hX]; exact hx))
    by_cases ej : j = i
    · subst ej
      rcases hfr with ⟨o, ho, hlo, hr⟩ | hr | hr
      · exact hb.free (.inl ⟨j, o, ho, hlo, by rw [← hr]; exact e⟩)
      · have := hb.lt; omega
      · rw [hr o' hj] at hl; cases hl
    · by_cases hlt : j < h.length
      · rw [hother j ej hlt] at hj
        rw [hρ j ej] at e
        exact hb.free (.inl ⟨j, o', hj, hl, e⟩)
      · exact hnew j o' ej (by omega) hj

/-- A new object. -/
def at_ (ρ : Rho) (i b : Nat) : Rho := ⟨fun j => if j = i then b else ρ j, ρ.X⟩
theorem at_same (ρ : Rho) (i b : Nat) : at_ ρ i b i = b := by simp [at_]
theorem at_other (ρ : Rho) (i b j : Nat) (h : j ≠ i) : at_ ρ i b j = ρ j := by simp [at_, h]
theorem push_get (h : AHeap) (o : AObj) (j : Nat) (hj : j ≠ h.length) : (h ++ [o])[j]? = h[j]? := by
  rcases Nat.lt_or_ge j h.length with hlt | hge
  · rw [List.getElem?_append_left hlt]
  · rw [List.getElem?_eq_none (by simp; omega), List.getElem?_eq_none (by omega)]
theorem push_last (h : AHeap) (o : AObj) : (h ++ [o])[h.length]? = some o := by simp
/-- What a world must be to be 'w with one block more, some draws made'. -/
structure Plus (w w' : World) (o : Obj) : Prop where
  new : w'.heap[w.heap.size]? = some o
  old : ∀ b, b < w.heap.size → w'.heap[b]? = w.heap[b]?
  size : w.heap.size ≤ w'.heap.size
  os : w'.os = w.os
  tape : w'.tape = w.tape
  output : w'.output = w.output
theorem Plus.alloc (w : World) (o : Obj) : Plus w (w.alloc o) o := ⟨heap_alloc_new w o, fun b hb => heap_alloc_old w o b hb, by simp, rfl, rfl, rfl⟩
theorem Plus.drew (w : World) (o : Obj) : Plus w (w.drew.alloc o) o := ⟨heap_alloc_new w.drew o, fun b hb => heap_alloc_old w.drew o b hb, by simp, rfl, rfl, rfl⟩
theorem Step.push {ρ : Rho} {h : AHeap} {w w' : World} {ob : Obj} (hh : HR P ρ h w) (o : AObj) (hp : Plus w w' ob) : Step ρ h w (at_ ρ h.length w.heap.size) (h ++ [o]) w' := by
  refine Step.change hh h.length (by simp) (fun j hj _ => push_get h o j hj) (fun j hj => at_other ρ _ _ j hj) (fun b hb _ => hp.old b hb) (fun o' _ _ hlt => absurd hlt (by omega)) ?_ (.inr (.inl (by rw [at_same]; exact Nat.le_refl _))) hp.size hp.os hp.tape hp.output
  intro j o' hj hge ho
  rw [List.getElem?_eq_none (by simp; omega)] at ho
  cases ho
theorem HR.push {ρ : Rho} {h : AHeap} {w w' : World} {ob : Obj} (hh : HR P ρ h w) (o : AObj) (hp : Plus w w' ob) (ho : ObjR P (at_ ρ h.length w.heap.size) (h ++ [o]) w' w.heap.size o) :
    HR P (at_ ρ h.length w.heap.size) (h ++ [o]) w' := by
  refine HR.change hh (Step.push hh o hp) h.length (fun j hj => push_get h o j hj) (fun j hj => at_other ρ _ _ j hj) (fun j p hj hjp hl => hp.old _ ((hh.obj j p hjp).lt hl)) (by simp) ?_ ?_ ?_
  · intro o' h1
    rw [push_last] at h1
    cases h1
    rw [at_same]; exact ho
  · intro j p hj hjp hl
    rw [at_same]
    exact Nat.ne_of_lt ((hh.obj j p hjp).lt hl)
  · intro o' _ _ hx
    rw [at_same] at hx
    have := hh.xl _ hx
    omega

/-! ### A row of memory -/
theorem flat_length {xs : List AV} {sz : Nat} (h : ∀ x ∈ xs, x.cells.length = sz) : (flat xs).length = xs.length * sz := by
  induction xs with
  | nil => simp [flat]
  | cons x xs ih =>
    simp only [flat, List.flatMap_cons, List.length_append, List.length_cons]
    rw [h x (by simp), show (xs.flatMap AV.cells).length = xs.length * sz from ih (fun y hy => h y (by simp [hy])), Nat.add_mul]
    omega
theorem flat_get {xs : List AV} {sz : Nat} (h : ∀ x ∈ xs, x.cells.length = sz) (i : Nat) (e : AV) (he : xs[i]? = some e) (j : Nat) (hj : j < sz) : (flat xs)[i * sz + j]? = e.cells[j]? := by
  induction xs generalizing i with
  | nil => simp at he
  | cons x xs ih =>
    have hx := h x (by simp)
    cases i with
    | zero =>
      simp at he; subst he
      simp only [flat, List.flatMap_cons, Nat.zero_mul, Nat.zero_add]
      rw [List.getElem?_append_left (by omega)]
    | succ i =>
      simp only [List.getElem?_cons_succ] at he
      have := ih (fun y hy => h y (by simp [hy])) i he
      simp only [flat, List.flatMap_cons]
      rw [List.getElem?_append_right (by rw [hx, Nat.add_mul]; omega), hx, show (i + 1) * sz + j - sz = i * sz + j by rw [Nat.add_mul]; omega]
      exact this
theorem flat_append (xs ys : List AV) : flat (xs ++ ys) = flat xs ++ flat ys := by simp [flat]
theorem flat_mem {xs : List AV} {sz : Nat} (h : ∀ x ∈ xs, x.cells.length = sz) (k : Nat) (u : AV) (hk : (flat xs)[k]? = some u) : ∃ i e j, xs[i]? = some e ∧ e.cells[j]? = some u ∧ k = i * sz + j ∧ j < sz := by
  induction xs generalizing k with
  | nil => simp [flat] at hk
  | cons x xs ih =>
    have hx := h x (by simp)
    simp only [flat, List.flatMap_cons] at hk
    rcases Nat.lt_or_ge k sz with hlt | hge
    · rw [List.getElem?_append_left (by omega)] at hk
      exact ⟨0, x, k, by simp, hk, by omega, hlt⟩
    · rw [List.getElem?_append_right (by omega), hx] at hk
      obtain ⟨i, e, j, h1, h2, h3, h4⟩ := ih (fun y hy => h y (by simp [hy])) (k - sz) hk
      exact ⟨i + 1, e, j, by simpa using h1, h2, by rw [Nat.add_mul]; omega, h4⟩
theorem rowAt_eq {h : AHeap} {id ver sz : Nat} {es : List AV} (hr : rowAt h id ver = some (sz, es)) : h[id]? = some (.row ver sz es) := by
  unfold rowAt at hr
  split at hr
  · rename_i k sz' es' he
    split at hr
    · rename_i hk; subst hk; simp at hr; rw [he, hr.1, hr.2]
    · cases hr
  · cases hr
theorem getElem?_lt {α : Type} {l : List α} {i : Nat} {x : α} (h : l[i]? = some x) : i < l.length := by
  rcases Nat.lt_or_ge i l.length with h' | h'
  · exact h'
  · rw [List.getElem?_eq_none h'] at h; cases h

/-- The cells behind a pointer. -/
theorem ptr_cells {ρ : Rho} {h : AHeap} {w : World} (hh : HR P ρ h w) {x : AV} {v : Value} (hx : VR ρ h w x v) {cs : List AV} (hc : ptrCells h x = some cs) :
    ∃ b o, v = .pointer (some ⟨b, o, none⟩) ∧ ∀ j u, cs[j]? = some u → ∃ c, w.cell? ⟨b, o + j, none⟩ = some c ∧ VR ρ h w u c := by
  unfold ptrCells at hc
  split at hc
  · rename_i id ver idx off
    split at hc
    · rename_i sz es hr
      split at hc
      · rename_i e he
        cases hc
        cases hx with
        | rp id ver idx off a hid hca =>
          have hrow := rowAt_eq hr
          have ha := (hca _ _ _ hrow).2 rfl
          subst ha
          obtain ⟨cells, elem, hb, hsz, hle, hok, hcell⟩ := hh.obj id _ hrow
          refine ⟨_, _, rfl, fun j u hj => ?_⟩
          have hes := hsz e (List.mem_of_getElem? he)
          rw [List.getElem?_drop] at hj
          have hlt := getElem?_lt hj
          have hf := flat_get hsz idx e he (off + j) (by omega)
          obtain ⟨c, h1, h2⟩ := hcell (idx * sz + (off + j)) u (by rw [hf]; exact hj)
          refine ⟨c, ?_, h2⟩
          simp [World.cell?, hb]
          rw [← h1]
          congr 1
          omega
      · cases hc
    · cases hc
  · rename_i e off
    cases hc
    cases hx with
    | cp e off b o vals hs hcl hv =>
      refine ⟨b, o + off, rfl, fun j u hj => ?_⟩
      rw [List.getElem?_drop] at hj
      exact ⟨vals (off + j), by rw [← hcl _ u hj, Nat.add_assoc], hv _ u hj⟩
  · cases hc

theorem run_underlying' {t : TypeId} {d : TypeDesc} (h : P.underlying t = some d) (w : World) : (underlying t).run P w = .ok d w := run_underlying h w
theorem run_info {t : TypeId} {i : TypeInfo} (h : P.info? t = some i) (w : World) : (typeInfo t).run P w = .ok i w := by simp [typeInfo, h]
theorem run_size {t : TypeId} {i : TypeInfo} (h : P.info? t = some i) (w : World) : (sizeOf t).run P w = .ok i.size w := by simp [sizeOf, run_info h]
theorem info_of_underlying {t : TypeId} {d : TypeDesc} (h : P.underlying t = some d) : ∃ i, P.info? t = some i := by
  unfold Program.underlying at h
  cases hi : P.info? t with
  | none => simp [hi] at h
  | some i => exact ⟨i, rfl⟩
theorem ldk_some {t : TypeId} {n : Option Nat} (h : ldk P t = some n) (w : World) :
    match n with
    | none => (isAgg t).run P w = .ok false w
    | some n => (isAgg t).run P w = .ok true w ∧ (sizeOf t).run P w = .ok n w := by
  unfold ldk at h
  cases hu : P.underlying t with
  | none => simp [hu] at h
  | some d =>
    obtain ⟨i, hi⟩ := info_of_underlying hu
    cases d <;> simp [hu, hi] at h <;> subst h <;> first | exact ⟨by simp [isAgg, run_underlying hu], run_size hi w⟩ | simp [isAgg, run_underlying hu]
theorem s_load {ρ : Rho} {h : AHeap} {w : World} (hh : HR P ρ h w) {t : TypeId} {n : Option Nat} (hk : ldk P t = some n) {x : AV} {v : Value} (hx : VR ρ h w x v) {cs : List AV} (hc : ptrCells h x = some cs)
    {r : AV} (ht : takeAs n cs = some r) : ∃ val, (Instr.loadAt t v).run P w = .ok val w ∧ VR ρ h w r val := by
  obtain ⟨b, o, rfl, hcell⟩ := ptr_cells hh hx hc
  have hl := ldk_some hk w
  cases n with
  | none =>
    simp only [takeAs] at ht
    have h0 : cs[0]? = some r := by rw [← List.head?_eq_getElem?]; exact ht
    obtain ⟨c, h1, h2⟩ := hcell 0 r h0
    refine ⟨c, ?_, h2⟩
    simp at h1
    simp [Instr.loadAt, Instr.sureAddr, loadVar, hl, h1]
  | some n =>
    simp only [takeAs] at ht
    split at ht
    · rename_i hle
      cases ht
      obtain ⟨h1, h2⟩ := hl
      have : ∃ f : Nat → Value, ∀ j, j < n → w.cell? ⟨b, o + j, none⟩ = some (f j) ∧ VR ρ h w (cs.getD j .any) (f j) := by
        refine ⟨fun j => (w.cell? ⟨b, o + j, none⟩).getD undef, fun j hj => ?_⟩
        obtain ⟨c, e1, e2⟩ := hcell j (cs[j]'(by omega)) (List.getElem?_eq_getElem (by omega))
        simp only [e1, Option.getD_some]
        refine ⟨trivial, ?_⟩
        simpa [List.getD, List.getElem?_eq_getElem (show j < cs.length by omega)] using e2
      obtain ⟨f, hf⟩ := this
      have hload := run_loadCells (P := P) w ⟨b, o, none⟩ n f (fun j hj => by rw [Addr.add_lit]; exact (hf j hj).1)
      refine ⟨.agg ((List.range n).map f).toArray, ?_, ?_⟩
      · simp [Instr.loadAt, Instr.sureAddr, loadVar, h1, h2, hload]
      · refine .agg _ _ (by simp; omega) (fun j u hj => ?_)
        rw [List.getElem?_take] at hj
        split at hj
        · rename_i hlt
          have := (hf j hlt).2
          simp [List.getD, hj] at this
          simpa [List.getElem?_map, hlt] using this
        · cases hj
    · cases ht
end Go.Av

/- Stores, new variables, appends: each operation in the short words is what the machine does. -/
set_option linter.unusedVariables false
set_option linter.unusedSimpArgs false
namespace Go.Av
open Go
variable {P : Program}

theorem one_cells {x : AV} (h : x.one = true) : x.cells = [x] := by cases x <;> simp_all [AV.one, AV.cells]
theorem okC_mem {cs : List AV} (h : okC cs = true) {j : Nat} {u : AV} (hj : cs[j]? = some u) : u.one = true := by
  unfold okC at h
  rw [List.all_eq_true] at h
  exact h u (List.mem_of_getElem? hj)
/-- A value's cells are its short form's. -/
theorem VR.cells {ρ : Rho} {h : AHeap} {w : World} {x : AV} {v : Value} (hx : VR ρ h w x v) (hok : okC x.cells = true) :
    v.cells.size = x.cells.length ∧ (∀ c ∈ v.cells.toList, c.oneCell' = true) ∧ ∀ (j : Nat) (u : AV), x.cells[j]? = some u → ∃ c, v.cells[j]? = some c ∧ VR ρ h w u c := by
  have one : x.one = true → v.cells.size = x.cells.length ∧ (∀ c ∈ v.cells.toList, c.oneCell' = true) ∧ ∀ (j : Nat) (u : AV), x.cells[j]? = some u → ∃ c, v.cells[j]? = some c ∧ VR ρ h w u c := by
    intro h1
    have hv := hx.oneCell h1
    have hc : v.cells = #[v] := by cases v <;> simp_all [Value.cells, Value.oneCell']
    rw [hc, one_cells h1]
    refine ⟨rfl, by simpa using hv, fun j u hj => ?_⟩
    cases j with
    | zero => simp at hj; subst hj; exact ⟨v, by simp, hx⟩
    | succ j => simp at hj
  cases hx with
  | agg cs vals hl hv =>
    simp only [AV.cells] at hok ⊢
    refine ⟨hl.symm, ?_, fun j u hj => ?_⟩
    · intro c hc
      obtain ⟨j, hj⟩ := List.getElem?_of_mem hc
      have hj' : vals[j]? = some c := by simpa [Value.cells] using hj
      have hlt : j < vals.size := (Array.getElem?_eq_some_iff.1 hj').1
      have := hv j (cs[j]'(by omega)) (List.getElem?_eq_getElem (by omega))
      rw [Array.getD_eq_getD_getElem?, hj'] at this
      exact this.oneCell (okC_mem hok (List.getElem?_eq_getElem (by omega)))
    · have hlt := getElem?_lt hj
      refine ⟨vals.getD j undef, ?_, hv j u hj⟩
      simp [Value.cells, Array.getD_eq_getD_getElem?, Array.getElem?_eq_getElem (show j < vals.size by omega)]
  | any v => simp [AV.cells, okC, AV.one] at hok
  | tup vs vals hl hv => simp [AV.cells, okC, AV.one] at hok
  | _ => exact one rfl

theorem recell_cells {e : AV} {cs : List AV} (hl : cs.length = e.cells.length) (hok : okC cs = true) : (recell e cs).cells = cs := by
  cases e <;> first
    | rfl
    | (simp only [AV.cells, List.length_singleton] at hl
       match cs, hl, hok with
       | [c], _, hok => simp only [recell, List.headD_cons]; exact one_cells (by simpa [okC] using hok))
theorem splice_length {cs vs : List AV} {off : Nat} (h : off + vs.length ≤ cs.length) : (splice cs off vs).length = cs.length := by
  simp [splice]; omega
theorem splice_get {cs vs : List AV} {off : Nat} (h : off + vs.length ≤ cs.length) (j : Nat) :
    (splice cs off vs)[j]? = if j < off then cs[j]? else if j < off + vs.length then vs[j - off]? else cs[j]? := by
  unfold splice
  have h1 : (cs.take off).length = off := by simp; omega
  by_cases a : j < off
  · rw [if_pos a, List.getElem?_append_left (by omega), List.getElem?_take, if_pos a]
  · rw [if_neg a, List.getElem?_append_right (by omega), h1]
    by_cases b : j < off + vs.length
    · rw [if_pos b, List.getElem?_append_left (by omega)]
    · rw [if_neg b, List.getElem?_append_right (by omega), List.getElem?_drop]
      congr 1; omega
theorem okC_splice {cs vs : List AV} {off : Nat} (h1 : okC cs = true) (h2 : okC vs = true) : okC (splice cs off vs) = true := by
  unfold okC splice at *
  rw [List.all_append, List.all_append]
  simp only [List.all_eq_true, Bool.and_eq_true] at *
  exact ⟨fun x hx => h1 x (List.mem_of_mem_take hx), h2, fun x hx => h1 x (List.mem_of_mem_drop hx)⟩
theorem seg_get (cur : Array Value) (vs : List Value) (p : Nat) (h : p + vs.length ≤ cur.size) (k : Nat) :
    ((cur.toList.take p ++ vs ++ cur.toList.drop (p + vs.length)).toArray)[k]? = if k < p then cur[k]? else if k < p + vs.length then vs[k - p]? else cur[k]? := by
  have h1 : (cur.toList.take p).length = p := by simp; omega
  simp only [List.getElem?_toArray, List.append_assoc]
  by_cases a : k < p
  · rw [if_pos a, List.getElem?_append_left (by omega), List.getElem?_take, if_pos a]; simp
  · rw [if_neg a, List.getElem?_append_right (by omega), h1]
    by_cases b : k < p + vs.length
    · rw [if_pos b, List.getElem?_append_left (by omega)]
    · rw [if_neg b, List.getElem?_append_right (by omega), List.getElem?_drop]
      simp only [Array.getElem?_toList]
      congr 1; omega
theorem seg_size (cur : Array Value) (vs : List Value) (p : Nat) (h : p + vs.length ≤ cur.size) : (cur.toList.take p ++ vs ++ cur.toList.drop (p + vs.length)).toArray.size = cur.size := by
  simp; omega
theorem set_other (h : AHeap) (i : Nat) (o : AObj) (j : Nat) (hj : j ≠ i) : (h.set i o)[j]? = h[j]? := by
  rw [List.getElem?_set_ne (fun e => hj e.symm)]
theorem set_same (h : AHeap) (i : Nat) (o : AObj) (hi : i < h.length) : (h.set i o)[i]? = some o := by simp [hi]

/-- A row changes where it lies. -/
theorem row_set {ρ : Rho} {h : AHeap} {w : World} (hh : HR P ρ h w) {id ver sz : Nat} {es : List AV} (hr : h[id]? = some (.row ver sz es)) {cs : Array Value} {elem : TypeId} (hb : w.heap[ρ id]? = some (.cells cs elem (0, 0)))
    (cs' : Array Value) (hsize : cs'.size = cs.size) (ver' : Nat) (hver : ver ≤ ver') (es' : List AV) (hsm : ver = ver' → es.length ≤ es'.length) (h1 : ∀ x ∈ es', x.cells.length = sz) (h2 : es'.length * sz ≤ cs.size) (h3 : ∀ x ∈ es', okC x.cells = true)
    (h4 : ∀ (j : Nat) (u : AV), (flat es')[j]? = some u → ∃ v, cs'[j]? = some v ∧ VR ρ h w u v) :
    HR P ρ (h.set id (.row ver' sz es')) (w.setRow (ρ id) cs') ∧ Step ρ h w ρ (h.set id (.row ver' sz es')) (w.setRow (ρ id) cs') := by
  have hid := getElem?_lt hr
  have hbs : blockSize (w.setRow (ρ id) cs') (ρ id) = blockSize w (ρ id) := by simp [blockSize, setRow_heap w (ρ id) cs cs' elem (0, 0) hb, hb, hsize]
  have s : Step ρ h w ρ (h.set id (.row ver' sz es')) (w.setRow (ρ id) cs') := by
    refine Step.change hh id (by simp) (fun j hj _ => set_other h id _ j hj) (fun j _ => rfl) (fun b _ hne => setRow_other w (ρ id) b cs' (hne _ hr rfl)) ?_ ?_ (.inl ⟨_, hr, rfl, rfl⟩) (by simp) rfl rfl rfl
    · intro o' ho' hl _
      rw [set_same h id _ hid] at ho'
      cases ho'
      exact ⟨_, hr, ⟨hver, rfl⟩, hsm, fun _ => ⟨rfl, hbs⟩⟩
    · intro j o' hj hge ho'
      rw [List.getElem?_eq_none (by simp; omega)] at ho'
      cases ho'
  refine ⟨HR.change hh s id (fun j hj => set_other h id _ j hj) (fun j _ => rfl) (fun j o hj ho hl => setRow_other w (ρ id) (ρ j) cs' (fun e => hj (hh.inj j id o _ ho hr hl rfl e))) (by rw [hr]; simp) ?_ (fun j o hj ho hl e => hj (hh.inj j id o _ ho hr hl rfl e)) (fun _ _ _ => hh.xo id _ hr rfl), s⟩
  intro o' ho'
  rw [set_same h id _ hid] at ho'
  cases ho'
  exact ⟨cs', elem, setRow_heap w (ρ id) cs cs' elem (0, 0) hb, h1, by omega, h3, fun j u hj => by obtain ⟨v, e1, e2⟩ := h4 j u hj; exact ⟨v, e1, e2.mono s⟩⟩

theorem s_store {ρ : Rho} {h h' : AHeap} {w : World} (hh : HR P ρ h w) {t : TypeId} {i : TypeInfo} (hi : P.info? t = some i) {a x : AV} {va vx : Value} (ha : VR ρ h w a va) (hx : VR ρ h w x vx) (hs : stAt h a i.size x = some h') :
    ∃ w', (Instr.storeAt t va vx).run P w = .ok () w' ∧ HR P ρ h' w' ∧ Step ρ h w ρ h' w' := by
  unfold stAt at hs
  split at hs
  · rename_i id ver idx off
    split at hs
    · rename_i sz es hr
      split at hs
      · rename_i e he
        split at hs
        · rename_i hcond
          obtain ⟨hok, hoff⟩ := hcond
          cases hs
          simp only [okE, Bool.and_eq_true, beq_iff_eq] at hok
          obtain ⟨hxl, hxok⟩ := hok
          have hrow := rowAt_eq hr
          cases ha with
          | rp id ver idx off a hid hca =>
            have haa := (hca _ _ _ hrow).2 rfl
            subst haa
            obtain ⟨cs, elem, hb, hsz, hle, hokc, hcell⟩ := hh.obj id _ hrow
            obtain ⟨hvl, hv1, hvc⟩ := hx.cells hxok
            have hes := hsz e (List.mem_of_getElem? he)
            have hidx := getElem?_lt he
            have hmul : idx * sz + sz ≤ es.length * sz := by
              have : (idx + 1) * sz ≤ es.length * sz := Nat.mul_le_mul_right _ hidx
              rw [Nat.add_mul] at this; omega
            have hvn : vx.cells.toList.length = i.size := by simp; omega
            have hfit : idx * sz + off + vx.cells.toList.length ≤ cs.size := by omega
            have hrun := run_storeCells_at P (ρ id) (idx * sz + off) elem vx.cells.toList 0 cs w hb (by simpa using hfit) hv1
            simp only [Nat.add_zero] at hrun
            have hxe : off + x.cells.length ≤ e.cells.length := by omega
            have hnew : (recell e (splice e.cells off x.cells)).cells = splice e.cells off x.cells := recell_cells (splice_length hxe) (okC_splice (hokc e (List.mem_of_getElem? he)) hxok)
            have hnl : (recell e (splice e.cells off x.cells)).cells.length = sz := by rw [hnew, splice_length hxe]; exact hes
            have huni : ∀ y ∈ es.set idx (recell e (splice e.cells off x.cells)), y.cells.length = sz := by
              intro y hy
              rcases List.mem_or_eq_of_mem_set hy with h' | h'
              · exact hsz y h'
              · rw [h']; exact hnl
            have hres := row_set hh hrow hb _ (seg_size cs vx.cells.toList (idx * sz + off) hfit) ver (Nat.le_refl _) (es.set idx (recell e (splice e.cells off x.cells))) (fun _ => by simp) huni
              (by simpa using hle)
              (by
                intro y hy
                rcases List.mem_or_eq_of_mem_set hy with h' | h'
                · exact hokc y h'
                · rw [h', hnew]; exact okC_splice (hokc e (List.mem_of_getElem? he)) hxok)
              (by
                intro k u hk
                obtain ⟨i', e', j, h1, h2, h3, h4⟩ := flat_mem huni k u hk
                rw [seg_get cs vx.cells.toList (idx * sz + off) hfit]
                have hold : ∀ e0, es[i']? = some e0 → e0.cells[j]? = some u → ∃ v, cs[k]? = some v ∧ VR ρ h w u v := by
                  intro e0 he0 hj0
                  exact hcell k u (by rw [h3, flat_get hsz i' e0 he0 j h4]; exact hj0)
                by_cases hii : i' = idx
                · subst hii
                  rw [List.getElem?_set_self (by omega)] at h1
                  cases h1
                  rw [hnew, splice_get hxe] at h2
                  by_cases c1 : j < off
                  · rw [if_pos c1] at h2
                    rw [if_pos (by omega)]
                    exact hold e he h2
                  · rw [if_neg c1] at h2
                    rw [if_neg (by omega)]
                    by_cases c2 : j < off + x.cells.length
                    · rw [if_pos c2] at h2
                      rw [if_pos (by omega)]
                      obtain ⟨c, e1, e2⟩ := hvc _ u h2
                      refine ⟨c, ?_, e2⟩
                      rw [← e1, h3, show i' * sz + j - (i' * sz + off) = j - off by omega]
                      simp
                    · rw [if_neg c2] at h2
                      rw [if_neg (by omega)]
                      exact hold e he h2
                · rw [List.getElem?_set_ne (fun e => hii e.symm)] at h1
                  have hk' : k < idx * sz + off ∨ idx * sz + off + vx.cells.toList.length ≤ k := by
                    rcases Nat.lt_or_gt_of_ne hii with hlt | hgt
                    · left
                      have : (i' + 1) * sz ≤ idx * sz := Nat.mul_le_mul_right _ hlt
                      rw [Nat.add_mul] at this; omega
                    · right
                      have : (idx + 1) * sz ≤ i' * sz := Nat.mul_le_mul_right _ hgt
                      rw [Nat.add_mul] at this; omega
                  rcases hk' with hk' | hk'
                  · rw [if_pos hk']; exact hold e' h1 h2
                  · rw [if_neg (by omega), if_neg (by omega)]; exact hold e' h1 h2)
            refine ⟨_, ?_, hres.1, hres.2⟩
            simp only [Instr.storeAt, Instr.sureAddr, Sem.run_bind, Sem.run_pure, Result.andThen_ok, storeVar, run_size hi]
            rw [if_neg (by simp; omega)]
            exact hrun
        · cases hs
      · cases hs
    · cases hs
  · cases hs

/-- A new variable. -/
theorem s_newVar {ρ : Rho} {h : AHeap} {w : World} (hh : HR P ρ h w) (t : TypeId) {x : AV} {v : Value} (hx : VR ρ h w x v) (hok : okC x.cells = true) :
    ∃ ρ' w', (newVar t v).run P w = .ok ⟨w.heap.size, 0, none⟩ w' ∧ VR ρ' (h ++ [.row 0 x.cells.length [x]]) w' (.rp h.length 0 0 0) (.pointer (some ⟨w.heap.size, 0, none⟩)) ∧
      HR P ρ' (h ++ [.row 0 x.cells.length [x]]) w' ∧ Step ρ h w ρ' (h ++ [.row 0 x.cells.length [x]]) w' := by
  have hp := Plus.alloc w (.cells v.cells t)
  have s := Step.push hh (.row 0 x.cells.length [x]) hp
  obtain ⟨h1, h2, h3⟩ := hx.cells hok
  refine ⟨_, _, rfl, .rp _ _ _ _ _ (by simp) ?_, HR.push hh _ hp ⟨v.cells, t, hp.new, by simp, by simp [h1], by simpa using hok, ?_⟩, s⟩
  · intro k sz es he
    rw [push_last] at he
    cases he
    exact ⟨Nat.le_refl _, fun _ => by rw [at_same]; simp⟩
  · intro j u hj
    simp only [flat, List.flatMap_cons, List.flatMap_nil, List.append_nil] at hj
    obtain ⟨c, e1, e2⟩ := h3 j u hj
    exact ⟨c, e1, e2.mono s⟩
end Go.Av

/- append, in the short words. -/
set_option linter.unusedVariables false
set_option linter.unusedSimpArgs false
namespace Go.Av
open Go
variable {P : Program}

theorem choose_list {us : List AV} {R : Nat → AV → Value → Prop} (h : ∀ (j : Nat) (u : AV), us[j]? = some u → ∃ c, R j u c) :
    ∃ cl : List Value, cl.length = us.length ∧ ∀ (j : Nat) (u : AV), us[j]? = some u → ∃ c, cl[j]? = some c ∧ R j u c := by
  induction us generalizing R with
  | nil => exact ⟨[], rfl, fun j u hj => by simp at hj⟩
  | cons x us ih =>
    obtain ⟨c0, h0⟩ := h 0 x (by simp)
    obtain ⟨cl, hl, hc⟩ := ih (R := fun j u c => R (j + 1) u c) (fun j u hj => h (j + 1) u (by simpa using hj))
    refine ⟨c0 :: cl, by simp [hl], fun j u hj => ?_⟩
    cases j with
    | zero => simp at hj; subst hj; exact ⟨c0, by simp, h0⟩
    | succ j => simpa using hc j u (by simpa using hj)
/-- The elements of a slice, as they lie. -/
theorem elems_cells {ρ : Rho} {h : AHeap} {w : World} (hh : HR P ρ h w) {y : AV} {v : Value} (hy : VR ρ h w y v) {ys : List AV} (he : elems h y = some ys) :
    ∃ A c sz, v = .slice A ys.length c ∧ ys.length ≤ c ∧ (∀ x ∈ ys, x.cells.length = sz) ∧ (ys ≠ [] → ∃ b o, A = some ⟨b, o, none⟩ ∧ ∀ (j : Nat) (u : AV), (flat ys)[j]? = some u → ∃ cc, w.cell? ⟨b, o + j, none⟩ = some cc ∧ VR ρ h w u cc) := by
  unfold elems at he
  split at he
  · cases he
    cases hy with
    | sl tight xs A c sz vals hsz ha hv hc ht =>
      refine ⟨A, c, sz, rfl, hc, hsz, fun hne => ?_⟩
      obtain ⟨b, o, e, hs, hcl⟩ := ha hne
      exact ⟨b, o, e, fun j u hj => ⟨_, hcl j u hj, hv j u hj⟩⟩
  · rename_i id ver idx len
    split at he
    · rename_i sz es hr
      cases he
      have hrow := rowAt_eq hr
      obtain ⟨cs, elem, hb, hsz, hle, hokc, hcell⟩ := hh.obj id _ hrow
      cases hy with
      | rf id ver idx len A c hid hl hc =>
        obtain ⟨h1, h2, h3⟩ := (hc _ _ _ hrow).2 rfl
        have hlen : ((es.drop idx).take len).length = len := by simp; omega
        have hu : ∀ x ∈ (es.drop idx).take len, x.cells.length = sz := fun x hx => hsz x (List.mem_of_mem_drop (List.mem_of_mem_take hx))
        refine ⟨A, c, sz, by rw [hlen], by rw [hlen]; exact hl, hu, fun hne => ?_⟩
        have hpos : 0 < len := by
          rcases Nat.eq_zero_or_pos len with h0 | h0
          · exact absurd (by rw [h0]; simp) hne
          · exact h0
        refine ⟨ρ id, idx * sz, h1 (by omega), fun j u hj => ?_⟩
        obtain ⟨i, e, k, e1, e2, e3, e4⟩ := flat_mem hu j u hj
        rw [List.getElem?_take] at e1
        split at e1
        · rw [List.getElem?_drop] at e1
          have hf := flat_get hsz (idx + i) e e1 k e4
          obtain ⟨cc, g1, g2⟩ := hcell ((idx + i) * sz + k) u (by rw [hf]; exact e2)
          refine ⟨cc, ?_, g2⟩
          simp [World.cell?, hb]
          rw [← g1]
          congr 1
          rw [e3, Nat.add_mul]; omega
        · cases e1
    · cases he
  · cases he

theorem run_append_zero (w : World) (t ty e : TypeId) (i : TypeInfo) (ht : P.underlying t = some (.slice e)) (hi : P.info? e = some i) (A B : Option Addr) (n c d : Nat) (hn : n ≤ c) :
    (Builtin.append_ #[t, t] ty #[.slice A n c, .slice B 0 d]).run P w = .ok (.slice A n c) w := by
  cases A <;> cases B <;> simp [Builtin.append_, run_underlying ht, sizeOf, typeInfo, hi, Builtin.lenOf, hn, Builtin.firstCells, loadCells, loadCellsFrom, storeCells]
theorem run_append_room' (w : World) (t ty e : TypeId) (i : TypeInfo) (ht : P.underlying t = some (.slice e)) (hi : P.info? e = some i)
    (g sLen sCap : Nat) (cur : Array Value) (t' : TypeId) (hg : w.heap[g]? = some (.cells cur t' (0, 0)))
    (a : Addr) (m c : Nat) (news : List Value) (hl : news.length = m * i.size) (hnews : ∀ j u, news[j]? = some u → w.cell? (a.add j) = some u) (h1 : ∀ u ∈ news, u.oneCell' = true)
    (hroom : sLen + m ≤ sCap) (hfit : sLen * i.size + news.length ≤ cur.size) :
    (Builtin.append_ #[t, t] ty #[.slice (some ⟨g, 0, none⟩) sLen sCap, .slice (some a) m c]).run P w =
      .ok (.slice (some ⟨g, 0, none⟩) (sLen + m) sCap) (w.setRow g (cur.toList.take (sLen * i.size) ++ news ++ cur.toList.drop (sLen * i.size + news.length)).toArray) := by
  have hf := run_firstCells_some (P := P) w i.size m a m c news hl hnews
  have hst := run_storeCells_at P g (sLen * i.size) t' news 0 cur w hg (by simpa using hfit) h1
  simp only [Nat.add_zero] at hst
  simp [Builtin.append_, run_underlying ht, sizeOf, typeInfo, hi, Builtin.lenOf, hroom, hf, Addr.add_lit, hst]
theorem run_append_any (w : World) (t ty e : TypeId) (i : TypeInfo) (z : Value) (ht : P.underlying t = some (.slice e)) (hi : P.info? e = some i) (hz : i.zero = some z)
    (A : Option Addr) (sLen sCap : Nat) (olds : List Value) (hlo : olds.length = sLen * i.size) (holds : sLen ≠ 0 → ∃ b, A = some b ∧ ∀ j v, olds[j]? = some v → w.cell? (b.add j) = some v) (hA : A = none → sCap = 0)
    (a : Addr) (n c : Nat) (news : List Value) (hl : news.length = n * i.size) (hnews : ∀ j v, news[j]? = some v → w.cell? (a.add j) = some v)
    (hg : sCap < sLen + n) (hn : 0 < n) (hb : 0 < i.bytes) (hfit : (sLen + n) * i.bytes ≤ most) :
    ∃ cap rest, sLen + n ≤ cap ∧ rest.size = (cap - (sLen + n)) * z.cells.size ∧ (Builtin.append_ #[t, t] ty #[.slice A sLen sCap, .slice (some a) n c]).run P w =
      .ok (.slice (some ⟨w.heap.size, 0, none⟩) (sLen + n) cap) (w.drew.alloc (.cells (olds.toArray ++ news.toArray ++ rest) e)) := by
  have hs : sLen + n ≤ 140737488355328 := by
    have := Nat.le_mul_of_pos_right (sLen + n) hb
    unfold most at hfit
    omega
  have hf2 : Builtin.nextslicecap (sLen + n) sCap * i.bytes ≤ 281474976710656 := growslice_fits hg hfit
  cases A with
  | none =>
    have hc0 : sCap = 0 := hA rfl
    have h0 : sLen = 0 := by
      rcases Nat.eq_zero_or_pos sLen with h | h
      · exact h
      · obtain ⟨b, hb', _⟩ := holds (by omega); cases hb'
    subst h0; subst hc0
    have : olds = [] := List.eq_nil_of_length_eq_zero (by simpa using hlo)
    subst this
    simp only [Nat.zero_add] at *
    have hr := run_append_nil (P := P) w t ty e i z ht hi hz a n c news hl hnews hn (by omega) (by rw [nextslicecap_zero hn] at hf2; exact hf2)
    refine ⟨_, Builtin.zeroCells z.cells (grownCap w n 0 e - n), grownCap_ge w n 0 e, ?_, ?_⟩
    · simp [Builtin.zeroCells]
    · rw [hr]; simp
  | some b =>
    have hr := run_append_grow (P := P) w t ty e i z ht hi hz b sLen sCap olds hlo (by
      intro j v hj
      have hne : sLen ≠ 0 := by
        rintro rfl
        have := getElem?_lt hj
        simp at hlo; simp [hlo] at hj
      obtain ⟨b', hb', hc⟩ := holds hne
      cases hb'
      exact hc j v hj) a n c news hl hnews hg (by omega) hf2
    exact ⟨_, _, grownCap_ge w (sLen + n) sCap e, by simp [Builtin.zeroCells], hr⟩

theorem okE_mem {sz : Nat} {xs : List AV} (h : xs.all (okE sz) = true) {x : AV} (hx : x ∈ xs) : x.cells.length = sz ∧ okC x.cells = true := by
  have := List.all_eq_true.1 h x hx
  simpa [okE] using this
/-- A row whose cells lie at the head of a new block. -/
theorem row_new {ρ ρ' : Rho} {h h' : AHeap} {w w' : World} (s : Step ρ h w ρ' h' w') {b : Nat} {e : TypeId} {xs ys : List AV} {sz ver : Nat} {olds news : List Value} {rest : Array Value} (hb : w'.heap[b]? = some (.cells (olds.toArray ++ news.toArray ++ rest) e (0, 0)))
    (hu : ∀ x ∈ xs ++ ys, x.cells.length = sz) (hok : ∀ x ∈ xs ++ ys, okC x.cells = true) (ho : olds.length = (flat xs).length) (hn : news.length = (flat ys).length)
    (hoc : ∀ (j : Nat) (u : AV), (flat xs)[j]? = some u → ∃ c, olds[j]? = some c ∧ VR ρ h w u c) (hnc : ∀ (j : Nat) (u : AV), (flat ys)[j]? = some u → ∃ c, news[j]? = some c ∧ VR ρ h w u c) :
    ObjR P ρ' h' w' b (.row ver sz (xs ++ ys)) := by
  have hl := flat_length hu
  rw [flat_append, List.length_append] at hl
  have hl2 : (xs ++ ys).length = xs.length + ys.length := by simp
  refine ⟨_, e, hb, hu, by rw [← hl]; simp; omega, hok, fun j u hj => ?_⟩
  rw [flat_append] at hj
  rcases Nat.lt_or_ge j (flat xs).length with hlt | hge
  · rw [List.getElem?_append_left hlt] at hj
    obtain ⟨c, e1, e2⟩ := hoc j u hj
    refine ⟨c, ?_, e2.mono s⟩
    rw [Array.getElem?_append_left (by simp; omega), Array.getElem?_append_left (by simp; omega)]
    simpa using e1
  · rw [List.getElem?_append_right hge] at hj
    obtain ⟨c, e1, e2⟩ := hnc _ u hj
    have := getElem?_lt hj
    refine ⟨c, ?_, e2.mono s⟩
    rw [Array.getElem?_append_left (by simp; omega), Array.getElem?_append_right (by simp; omega)]
    simpa [ho] using e1

theorem s_app {ρ : Rho} {h : AHeap} {w : World} (hh : HR P ρ h w) (t ty e : TypeId) (i : TypeInfo) (z : Value) (ht : P.underlying t = some (.slice e)) (hi : P.info? e = some i) (hz : i.zero = some z) (hzs : z.cells.size = i.size) (hsz : 0 < i.size) (hby : 0 < i.bytes)
    {x y : AV} {vx vy : Value} (hx : VR ρ h w x vx) (hy : VR ρ h w y vy) {ys : List AV} (he : elems h y = some ys) {r : AV} {h' : AHeap} (hr : appR h i.size i.bytes x ys = .v r h') :
    ∃ ρ' w' val, (Builtin.append_ #[t, t] ty #[vx, vy]).run P w = .ok val w' ∧ VR ρ' h' w' r val ∧ HR P ρ' h' w' ∧ Step ρ h w ρ' h' w' := by
  obtain ⟨B, d, szy, rfl, hd, hyu, hyc⟩ := elems_cells hh hy he
  have zero : ∀ (A : Option Addr) (n c : Nat), vx = .slice A n c → n ≤ c → ys = [] → x = r → h = h' → ∃ ρ' w' val, (Builtin.append_ #[t, t] ty #[vx, .slice B ys.length d]).run P w = .ok val w' ∧ VR ρ' h' w' r val ∧ HR P ρ' h' w' ∧ Step ρ h w ρ' h' w' := by
    intro A n c hv hn hy0 hxr hhh
    subst hxr; subst hhh; subst hv; subst hy0
    exact ⟨ρ, w, _, run_append_zero w t ty e i ht hi A B n c d hn, hx, hh, Step.refl _ _ _⟩
  unfold appR at hr
  split at hr
  · rename_i tight xs
    cases hx with
    | sl tight xs A c sz vals hxu hxa hxv hxc hxt =>
      split at hr
      · rename_i hy0
        cases hr
        exact zero A xs.length c rfl hxc hy0 rfl rfl
      · rename_i hy0
        split at hr
        · rename_i hcond
          obtain ⟨ht1, hfit, hall⟩ := hcond
          have hc := hxt ht1
          cases hr
          obtain ⟨b, o, hB, hcells⟩ := hyc hy0
          subst hB
          have hyall : ∀ y ∈ ys, y.cells.length = i.size ∧ okC y.cells = true := fun y hy => okE_mem hall (by simp [hy])
          have hxall : ∀ y ∈ xs, y.cells.length = i.size ∧ okC y.cells = true := fun y hy => okE_mem hall (by simp [hy])
          obtain ⟨news, hnl, hnc⟩ := choose_list (R := fun j u c => w.cell? ⟨b, o + j, none⟩ = some c ∧ VR ρ h w u c) hcells
          obtain ⟨olds, hol, hoc⟩ := choose_list (us := flat xs) (R := fun j u c => c = vals j ∧ VR ρ h w u c) (fun j u hj => ⟨_, rfl, hxv j u hj⟩)
          have hnf := flat_length (fun y hy => (hyall y hy).1)
          have hxf := flat_length (fun y hy => (hxall y hy).1)
          have hpos : 0 < ys.length := List.length_pos_iff.2 hy0
          have hA : A = none → c = 0 := by
            rintro rfl
            rcases xs with _ | ⟨x0, xs⟩
            · simpa using hc
            · obtain ⟨b', o', e', _⟩ := hxa (by simp); cases e'
          obtain ⟨cap, rest, hcap, hrest, hrun⟩ := run_append_any w t ty e i z ht hi hz A xs.length c olds (by omega) (by
            intro hne
            obtain ⟨b', o', e', _, hcl⟩ := hxa (by intro e; simp [e] at hne)
            refine ⟨_, e', fun j v hj => ?_⟩
            have hlt := getElem?_lt hj
            obtain ⟨c', g1, g2, _⟩ := hoc j _ (List.getElem?_eq_getElem (show j < (flat xs).length by omega))
            rw [g1] at hj; cases hj
            rw [Addr.add_lit, g2]
            exact hcl j _ (List.getElem?_eq_getElem (show j < (flat xs).length by omega))) hA ⟨b, o, none⟩ ys.length d news (by omega) (by
            intro j v hj
            have hlt := getElem?_lt hj
            obtain ⟨c', g1, g2, _⟩ := hnc j _ (List.getElem?_eq_getElem (show j < (flat ys).length by omega))
            rw [g1] at hj; cases hj
            rw [Addr.add_lit]; exact g2) (by omega) hpos hby hfit
          have hp := Plus.drew w (.cells (olds.toArray ++ news.toArray ++ rest) e)
          have s := Step.push hh (.row 0 i.size (xs ++ ys)) hp
          refine ⟨_, _, _, hrun, ?_, HR.push hh _ hp (row_new s hp.new (fun y hy => (okE_mem hall hy).1) (fun y hy => (okE_mem hall hy).2) hol hnl (fun j u hj => by obtain ⟨c', g1, _, g3⟩ := hoc j u hj; exact ⟨c', g1, g3⟩) (fun j u hj => by obtain ⟨c', g1, _, g3⟩ := hnc j u hj; exact ⟨c', g1, g3⟩)), s⟩
          refine .rf _ _ _ _ _ _ (by simp) hcap ?_
          intro k sz' es' hke
          rw [push_last] at hke
          cases hke
          refine ⟨Nat.le_refl _, fun _ => ⟨fun _ => by rw [at_same]; simp, by simp, ?_⟩⟩
          rw [at_same]
          simp only [blockSize, hp.new, Array.size_append, List.size_toArray, Nat.zero_add, hrest, hzs]
          have : cap * i.size = (xs.length + ys.length) * i.size + (cap - (xs.length + ys.length)) * i.size := by rw [← Nat.add_mul]; congr 1; omega
          rw [this, Nat.add_mul]; omega
        · cases hr
  · rename_i id ver idx len
    split at hr
    · rename_i sz' es hrw
      have hrow := rowAt_eq hrw
      cases hx with
      | rf id ver idx len A c hid hl hxc =>
        obtain ⟨h1, h2, h3⟩ := (hxc _ _ _ hrow).2 rfl
        split at hr
        · rename_i hy0
          cases hr
          exact zero A len c rfl hl hy0 rfl rfl
        · rename_i hy0
          split at hr
          · rename_i hcond
            obtain ⟨hidx, hszz, hle, hfit, hall⟩ := hcond
            subst hidx; subst hszz
            cases hr
            obtain ⟨cs, elem, hb, hrs, hrle, hrok, hcell⟩ := hh.obj id _ hrow
            obtain ⟨b, o, hB, hcells⟩ := hyc hy0
            subst hB
            have hyall : ∀ y ∈ ys, y.cells.length = i.size ∧ okC y.cells = true := fun y hy => okE_mem hall hy
            obtain ⟨news, hnl, hnc⟩ := choose_list (R := fun j u c => w.cell? ⟨b, o + j, none⟩ = some c ∧ VR ρ h w u c) hcells
            have hnf := flat_length (fun y hy => (hyall y hy).1)
            have hpos : 0 < ys.length := List.length_pos_iff.2 hy0
            have htl : (es.take len).length = len := by simp; omega
            have htu : ∀ y ∈ es.take len, y.cells.length = i.size := fun y hy => hrs y (List.mem_of_mem_take hy)
            have htf := flat_length htu
            rw [htl] at htf
            have hnews : ∀ j v, news[j]? = some v → w.cell? ((⟨b, o, none⟩ : Addr).add j) = some v := by
              intro j v hj
              have hlt := getElem?_lt hj
              obtain ⟨c', g1, g2, _⟩ := hnc j _ (List.getElem?_eq_getElem (show j < (flat ys).length by omega))
              rw [g1] at hj; cases hj
              rw [Addr.add_lit]; exact g2
            have htake : ∀ (j : Nat) (u : AV), (flat (es.take len))[j]? = some u → (flat es)[j]? = some u := by
              intro j u hj
              have : flat es = flat (es.take len) ++ flat (es.drop len) := by rw [← flat_append, List.take_append_drop]
              rw [this, List.getElem?_append_left (getElem?_lt hj)]; exact hj
            have hu' : ∀ y ∈ es.take len ++ ys, y.cells.length = i.size := by
              intro y hy
              rcases List.mem_append.1 hy with h' | h'
              · exact htu y h'
              · exact (hyall y h').1
            have hok' : ∀ y ∈ es.take len ++ ys, okC y.cells = true := by
              intro y hy
              rcases List.mem_append.1 hy with h' | h'
              · exact hrok y (List.mem_of_mem_take h')
              · exact (hyall y h').2
            by_cases hroom : len + ys.length ≤ c
            · have hc0 : c ≠ 0 := by omega
              have hA := h1 hc0
              simp only [Nat.zero_mul] at hA
              subst hA
              have hbsz : blockSize w (ρ id) = cs.size := by simp [blockSize, hb]
              have hfits : len * i.size + news.length ≤ cs.size := by
                have : (len + ys.length) * i.size ≤ c * i.size := Nat.mul_le_mul_right _ hroom
                rw [Nat.add_mul] at this
                rw [Nat.zero_add] at h3
                omega
              have hone : ∀ u ∈ news, u.oneCell' = true := by
                intro u hu
                obtain ⟨j, hj⟩ := List.getElem?_of_mem hu
                have hlt := getElem?_lt hj
                obtain ⟨c', g1, _, g3⟩ := hnc j _ (List.getElem?_eq_getElem (show j < (flat ys).length by omega))
                rw [g1] at hj; cases hj
                obtain ⟨i', e', k', f1, f2, _, _⟩ := flat_mem (fun y hy => (hyall y hy).1) j _ (List.getElem?_eq_getElem (show j < (flat ys).length by omega))
                exact g3.oneCell (okC_mem (hyall e' (List.mem_of_getElem? f1)).2 f2)
              have hrun := run_append_room' w t ty e i ht hi (ρ id) len c cs elem hb ⟨b, o, none⟩ ys.length d news (by omega) hnews hone hroom hfits
              have hres := row_set hh hrow hb _ (seg_size cs news (len * i.size) hfits) (ver + 1) (by omega) (es.take len ++ ys) (fun e => absurd e (by omega)) hu'
                (by rw [List.length_append, htl, Nat.add_mul]; omega) hok' (by
                intro k u hk
                rw [seg_get cs news (len * i.size) hfits]
                rw [flat_append] at hk
                rcases Nat.lt_or_ge k (flat (es.take len)).length with hlt | hge
                · rw [List.getElem?_append_left hlt] at hk
                  rw [if_pos (by omega)]
                  exact hcell k u (htake k u hk)
                · rw [List.getElem?_append_right hge] at hk
                  obtain ⟨c', g1, _, g3⟩ := hnc _ u hk
                  have := getElem?_lt hk
                  rw [if_neg (by omega), if_pos (by omega)]
                  exact ⟨c', by rw [← g1, htf], g3⟩)
              refine ⟨ρ, _, _, hrun, ?_, hres.1, hres.2⟩
              refine .rf _ _ _ _ _ _ (by simpa using hid) hroom ?_
              intro k sz2 es2 hke
              rw [set_same h id _ hid] at hke
              cases hke
              refine ⟨Nat.le_refl _, fun _ => ⟨fun _ => by simp, by simp; omega, ?_⟩⟩
              rw [show blockSize (w.setRow (ρ id) _) (ρ id) = blockSize w (ρ id) from by
                rw [hbsz]; simp only [blockSize, setRow_heap w (ρ id) cs _ elem (0, 0) hb]; exact seg_size cs news (len * i.size) hfits]
              exact h3
            · obtain ⟨olds, hol, hoc⟩ := choose_list (us := flat (es.take len)) (R := fun j u c' => w.cell? ⟨ρ id, j, none⟩ = some c' ∧ VR ρ h w u c') (fun j u hj => by
                obtain ⟨v, g1, g2⟩ := hcell j u (htake j u hj)
                exact ⟨v, by simp [World.cell?, hb, g1], g2⟩)
              obtain ⟨cap, rest, hcap, hrest, hrun⟩ := run_append_any w t ty e i z ht hi hz A len c olds (by omega) (by
                intro hne
                have hA := h1 (by omega)
                refine ⟨_, hA, fun j v hj => ?_⟩
                have hlt := getElem?_lt hj
                obtain ⟨c', g1, g2, _⟩ := hoc j _ (List.getElem?_eq_getElem (show j < (flat (es.take len)).length by omega))
                rw [g1] at hj; cases hj
                rw [Addr.add_lit]; simpa using g2) (by
                rintro rfl
                rcases Nat.eq_zero_or_pos c with h0 | h0
                · exact h0
                · have := h1 (by omega); cases this) ⟨b, o, none⟩ ys.length d news (by omega) hnews (by omega) hpos hby hfit
              have hp := Plus.drew w (.cells (olds.toArray ++ news.toArray ++ rest) e)
              have s : Step ρ h w (at_ ρ id w.heap.size) (h.set id (.row (ver + 1) i.size (es.take len ++ ys))) (w.drew.alloc (.cells (olds.toArray ++ news.toArray ++ rest) e)) := by
                refine Step.change hh id (by simp) (fun j hj _ => set_other h id _ j hj) (fun j hj => at_other ρ id _ j hj) (fun b hb _ => hp.old b hb) ?_ ?_ (.inr (.inl (by rw [at_same]; exact Nat.le_refl _))) hp.size hp.os hp.tape hp.output
                · intro o' ho' hl' _
                  rw [set_same h id _ hid] at ho'
                  cases ho'
                  exact ⟨_, hrow, ⟨by omega, rfl⟩, fun e => absurd e (by omega), fun e => by simp [AObj.stay] at e⟩
                · intro j o' hj hge ho'
                  rw [List.getElem?_eq_none (by simp; omega)] at ho'
                  cases ho'
              refine ⟨_, _, _, hrun, ?_, ?_, s⟩
              · refine .rf _ _ _ _ _ _ (by simpa using hid) hcap ?_
                intro k sz2 es2 hke
                rw [set_same h id _ hid] at hke
                cases hke
                refine ⟨Nat.le_refl _, fun _ => ⟨fun _ => by rw [at_same]; simp, by simp; omega, ?_⟩⟩
                rw [at_same]
                simp only [blockSize, hp.new, Array.size_append, List.size_toArray, Nat.zero_add, hrest, hzs]
                have : cap * i.size = (len + ys.length) * i.size + (cap - (len + ys.length)) * i.size := by rw [← Nat.add_mul]; congr 1; omega
                rw [this, Nat.add_mul]; omega
              · refine HR.change hh s id (fun j hj => set_other h id _ j hj) (fun j hj => at_other ρ id _ j hj) (fun j p hj hjp hl' => hp.old _ ((hh.obj j p hjp).lt hl')) (by rw [hrow]; simp) ?_ ?_ ?_
                · intro o' ho'
                  rw [set_same h id _ hid] at ho'
                  cases ho'
                  rw [at_same]
                  exact row_new s hp.new hu' hok' hol hnl (fun j u hj => by obtain ⟨c', g1, _, g3⟩ := hoc j u hj; exact ⟨c', g1, g3⟩) (fun j u hj => by obtain ⟨c', g1, _, g3⟩ := hnc j u hj; exact ⟨c', g1, g3⟩)
                · intro j p hj hjp hl'
                  rw [at_same]
                  exact Nat.ne_of_lt ((hh.obj j p hjp).lt hl')
                · intro o' _ _ hx
                  rw [at_same] at hx
                  have := hh.xl _ hx
                  omega
          · cases hr
    · cases hr
  · cases hr
end Go.Av

/- Literals, lookups, slices of slices: each operation in the short words is what the machine does. -/
set_option linter.unusedVariables false
set_option linter.unusedSimpArgs false
namespace Go.Av
open Go
variable {P : Program}

theorem VR_sc {ρ : Rho} {h : AHeap} {w : World} {v : Value} {x : AV} (hx : sc v = some x) : VR ρ h w x v := by
  unfold sc at hx
  split at hx <;> cases hx
  · exact .int _ _
  · exact .bool _
  · exact .str _
  · exact .nilp
  · exact .sl true [] none 0 0 (fun _ => undef) (by simp) (by simp) (by simp [flat]) (by simp) (by simp)
  · exact .nilmap
  · exact .nilfn
theorem VR_scs {ρ : Rho} {h : AHeap} {w : World} : ∀ {l : List Value} {xs : List AV}, scs l = some xs → xs.length = l.length ∧ ∀ (j : Nat) (u : AV), xs[j]? = some u → VR ρ h w u (l.getD j undef)
  | [], xs, hx => by simp [scs] at hx; subst hx; simp
  | v :: r, xs, hx => by
    unfold scs at hx
    split at hx
    · rename_i a l ha hl
      cases hx
      obtain ⟨h1, h2⟩ := VR_scs (ρ := ρ) (h := h) (w := w) hl
      refine ⟨by simp [h1], fun j u hj => ?_⟩
      cases j with
      | zero => simp at hj; subst hj; exact VR_sc ha
      | succ j => simpa using h2 j u (by simpa using hj)
    · cases hx
theorem VR_cv {ρ : Rho} {h : AHeap} {w : World} (v : Value) : VR ρ h w (cv v) v := by
  unfold cv
  split
  · rename_i cs
    split
    · rename_i l hl
      obtain ⟨h1, h2⟩ := VR_scs (ρ := ρ) (h := h) (w := w) hl
      exact .agg _ _ (by simpa using h1) (fun j u hj => by simpa [Array.getD_eq_getD_getElem?] using h2 j u hj)
    · exact .any _
  · cases hs : sc v with
    | none => exact .any _
    | some x => exact VR_sc hs
theorem VR_ev {ρ : Rho} {h : AHeap} {w : World} {s : List (Nat × AV)} {a : Act} (hs : ∀ i, VR ρ h w (alook s i) (a.tmps.getD i undef)) (x : Operand) : VR ρ h w (ev s (cx x)) (a.eval x) := by
  cases x with
  | tmp t => exact hs t
  | const v => exact VR_cv v
  | global g => exact .any _
  | func f => exact .fn _ [] [] #[] #[] rfl rfl (by simp) (by simp)
def VRs (ρ : Rho) (h : AHeap) (w : World) (xs : List AV) (vs : List Value) : Prop := vs.length = xs.length ∧ ∀ (j : Nat) (u : AV), xs[j]? = some u → VR ρ h w u (vs.getD j undef)
theorem VRs_evs {ρ : Rho} {h : AHeap} {w : World} {s : List (Nat × AV)} {a : Act} (hs : ∀ i, VR ρ h w (alook s i) (a.tmps.getD i undef)) (l : List Operand) : VRs ρ h w ((l.map cx).map (ev s)) (l.map a.eval) := by
  refine ⟨by simp, fun j u hj => ?_⟩
  simp only [List.map_map, List.getElem?_map] at hj
  cases hl : l[j]? with
  | none => simp [hl] at hj
  | some x =>
    simp [hl] at hj
    subst hj
    simpa [List.getD, hl] using VR_ev hs x

/-- Cells that are written over. -/
theorem foldl_set (off : Nat) : ∀ (l : List Value) (k : Nat) (cs : Array Value), (l.zipIdx k).foldl (fun cs (c, j) => cs.setIfInBounds (off + j) c) cs =
    ((l.zipIdx k).foldl (fun cs (c, j) => cs.setIfInBounds (off + j) c) cs) := fun _ _ _ => rfl
theorem fold_get (off : Nat) : ∀ (l : List Value) (k : Nat) (cs : Array Value), off + k + l.length ≤ cs.size → ∀ m : Nat,
    ((l.zipIdx k).foldl (fun cs (x : Value × Nat) => cs.setIfInBounds (off + x.2) x.1) cs)[m]? = if off + k ≤ m ∧ m < off + k + l.length then l[m - (off + k)]? else cs[m]?
  | [], k, cs, _, m => by simp; intro h1 h2; omega
  | v :: r, k, cs, hl, m => by
    simp only [List.zipIdx_cons, List.foldl_cons]
    rw [fold_get off r (k + 1) (cs.setIfInBounds (off + k) v) (by simp at hl ⊢; omega) m]
    simp only [List.length_cons] at hl ⊢
    by_cases h1 : off + (k + 1) ≤ m ∧ m < off + (k + 1) + r.length
    · rw [if_pos h1, if_pos (by omega), show m - (off + k) = (m - (off + (k + 1))) + 1 by omega, List.getElem?_cons_succ]
    · rw [if_neg h1]
      by_cases h2 : m = off + k
      · subst h2
        rw [if_pos (by omega), Array.getElem?_setIfInBounds_self_of_lt (by omega)]
        simp
      · rw [if_neg (by omega), Array.getElem?_setIfInBounds_ne (by omega)]
theorem fold_size (off : Nat) : ∀ (l : List (Value × Nat)) (cs : Array Value), (l.foldl (fun cs (x : Value × Nat) => cs.setIfInBounds (off + x.2) x.1) cs).size = cs.size
  | [], cs => rfl
  | x :: r, cs => by rw [List.foldl_cons, fold_size off r]; simp
def CellsR (ρ : Rho) (h : AHeap) (w : World) (cs : List AV) (vals : Array Value) : Prop := cs.length = vals.size ∧ ∀ (j : Nat) (u : AV), cs[j]? = some u → VR ρ h w u (vals.getD j undef)
theorem fill_ok {ρ : Rho} {h : AHeap} {w : World} (place : Nat → Option (Nat × Nat)) : ∀ (ps : List (Nat × Nat × AV × Value)) (idx : List Nat) (cs : List AV) (vals : Array Value) (r : List AV),
    idx.length = ps.length → (∀ (j : Nat) p i, ps[j]? = some p → idx[j]? = some i → place i = some (p.1, p.2.1) ∧ VR ρ h w p.2.2.1 p.2.2.2) →
    CellsR ρ h w cs vals → afill cs (ps.map fun p => (p.1, p.2.1, p.2.2.1)) = some r → ∃ out, Instr.fill place vals (idx.zip (ps.map fun p => p.2.2.2)) = some out ∧ CellsR ρ h w r out
  | [], idx, cs, vals, r, hl, _, hc, hr => by
    simp [afill] at hr; subst hr
    have : idx = [] := List.eq_nil_of_length_eq_zero (by simpa using hl)
    subst this
    exact ⟨vals, by simp [Instr.fill], hc⟩
  | (off, sz, x, v) :: ps, idx, cs, vals, r, hl, hp, hc, hr => by
    cases idx with
    | nil => simp at hl
    | cons i idx =>
      simp only [List.map_cons, afill] at hr
      split at hr
      · rename_i hcond
        obtain ⟨hok, hfit⟩ := hcond
        obtain ⟨hpl, hv⟩ := hp 0 (off, sz, x, v) i (by simp) (by simp)
        dsimp only at hpl hv
        simp only [okE, Bool.and_eq_true, beq_iff_eq] at hok
        obtain ⟨h1, h2, h3⟩ := hv.cells hok.2
        have hsz : v.cells.size = sz := by omega
        have hcr : CellsR ρ h w (splice cs off x.cells) (v.cells.zipIdx.foldl (fun cs (y : Value × Nat) => cs.setIfInBounds (off + y.2) y.1) vals) := by
          rw [← Array.foldl_toList, Array.toList_zipIdx]
          refine ⟨by rw [splice_length (by omega), fold_size, hc.1], fun j u hj => ?_⟩
          rw [splice_get (by omega)] at hj
          rw [Array.getD_eq_getD_getElem?, fold_get off v.cells.toList 0 vals (by simp; have := hc.1; omega)]
          simp only [Nat.add_zero, Array.length_toList]
          by_cases c1 : j < off
          · rw [if_pos c1] at hj
            rw [if_neg (by omega), ← Array.getD_eq_getD_getElem?]
            exact hc.2 j u hj
          · rw [if_neg c1] at hj
            by_cases c2 : j < off + x.cells.length
            · rw [if_pos c2] at hj
              rw [if_pos (by omega)]
              obtain ⟨c, e1, e2⟩ := h3 _ u hj
              simpa [e1] using e2
            · rw [if_neg c2] at hj
              rw [if_neg (by omega), ← Array.getD_eq_getD_getElem?]
              exact hc.2 j u hj
        obtain ⟨out, e1, e2⟩ := fill_ok place ps idx _ _ r (by simpa using hl) (fun j p i' h1' h2' => hp (j + 1) p i' (by simpa using h1') (by simpa using h2')) hcr hr
        refine ⟨out, ?_, e2⟩
        simp only [List.map_cons, List.zip_cons_cons, Instr.fill, hpl]
        rw [if_neg (by have := hc.1; simp [hsz]; omega)]
        exact e1
      · cases hr
end Go.Av

/- Each operation in the short words is what the machine does: all of them. -/
set_option linter.unusedVariables false
set_option linter.unusedSimpArgs false
namespace Go.Av
open Go
variable {P : Program}

def Enters (P : Program) (f : FuncId) : Prop := ∀ args w, (callFunc f args).run P w = .ok (.enter f args) w
/-- What the machine does is what the short step says. -/
def Good (P : Program) (ρ : Rho) (h : AHeap) (w : World) (s : Sem Next) : ARes → Prop
  | .v x h' => ∃ ρ' w' val, s.run P w = .ok (.value val) w' ∧ VR ρ' h' w' x val ∧ HR P ρ' h' w' ∧ Step ρ h w ρ' h' w'
  | .skip h' => ∃ ρ' w', s.run P w = .ok .skip w' ∧ HR P ρ' h' w' ∧ Step ρ h w ρ' h' w'
  | .call f args => ∃ vals, VRs ρ h w args vals ∧ (Enters P f → s.run P w = .ok (.enter f vals.toArray) w)
  | .yield id args => ∃ l vals, VRs ρ h w args vals ∧ id < h.length ∧ (∀ L, h[id]? = some (.loop L) → l = ρ id) ∧ s.run P w = (Instr.yield l vals.toArray).run P w
  | .fail => True
variable {ρ : Rho} {h : AHeap} {w : World}
theorem Good.val (hh : HR P ρ h w) {s : Sem Next} {x : AV} {val : Value} (hr : s.run P w = .ok (.value val) w) (hv : VR ρ h w x val) : Good P ρ h w s (.v x h) :=
  ⟨ρ, w, val, hr, hv, hh, Step.refl _ _ _⟩
theorem Good.rv (hh : HR P ρ h w) {s : Sem Next} {o : Option AV} (H : ∀ x, o = some x → ∃ val, s.run P w = .ok (.value val) w ∧ VR ρ h w x val) : Good P ρ h w s (Av.rv h o) := by
  cases o with
  | none => trivial
  | some x => obtain ⟨val, h1, h2⟩ := H x rfl; exact Good.val hh h1 h2
theorem Good.of_val {s : Sem Value} {r : ARes} (H : match r with
    | .v x h' => ∃ ρ' w' val, s.run P w = .ok val w' ∧ VR ρ' h' w' x val ∧ HR P ρ' h' w' ∧ Step ρ h w ρ' h' w'
    | .fail => True
    | _ => False) : Good P ρ h w (do pure (.value (← s))) r := by
  cases r with
  | v x h' => obtain ⟨ρ', w', val, h1, h2⟩ := H; exact ⟨ρ', w', val, by simp [h1], h2⟩
  | fail => trivial
  | skip h' => exact H.elim
  | call f args => exact H.elim
  | yield id args => exact H.elim

theorem g_binInt {op : BinOp} {k k' : IntKind} {a b : Int} {r : AV} (hr : abin op (.int k a) (.int k' b) = some r) (t : TypeId) : ∃ val, (binOp op t (.int k a) (.int k' b)).run P w = .ok val w ∧ VR ρ h w r val := by
  unfold abin at hr
  cases op <;> simp only at hr
  case shl => split at hr <;> cases hr; rename_i hb; exact ⟨_, by simp [binOp, Op.shift, hb], .int _ _⟩
  case shr => split at hr <;> cases hr; rename_i hb; exact ⟨_, by simp [binOp, Op.shift, hb], .int _ _⟩
  all_goals
    split at hr
    · cases hr
    · rename_i hk
      have hk : k = k' := Classical.not_not.1 hk
      subst hk
      first
        | (cases hr; refine ⟨_, ?_, .int _ _⟩; first | (simp [binOp, Op.intArith]; done) | (simp only [binOp, ne_eq, not_true_eq_false, if_false, Op.intBits]; rfl))
        | (cases hr; refine ⟨_, ?_, .bool _⟩; simp [binOp, Op.intCmp]; done)
        | (split at hr <;> cases hr; rename_i hb; refine ⟨_, ?_, .int _ _⟩; simp [binOp, Op.intDiv, hb]; done)
        | cases hr
theorem g_binStr {op : BinOp} {a b : ByteArray} {r : AV} (hr : abin op (.str a) (.str b) = some r) (t : TypeId) : ∃ val, (binOp op t (.string a) (.string b)).run P w = .ok val w ∧ VR ρ h w r val := by
  unfold abin at hr
  cases op <;> simp only at hr
  case add =>
    split at hr
    · cases hr
    · rename_i hb
      cases hr
      exact ⟨_, by simp only [binOp, Op.stringOp]; rw [if_neg hb]; rfl, .str _⟩
  all_goals first | (cases hr; done) | (cases hr; exact ⟨_, by simp [binOp, Op.stringOp], .bool _⟩)
/-- What a value's cells are for the comparison of its type. -/
def EqV (ρ : Rho) (h : AHeap) (w : World) (ks : List Nat) (xs : List AV) (v : Value) (isS : Bool) : Prop :=
  match isS with
  | true => ∃ cs, v = .agg cs ∧ CellsR ρ h w xs cs
  | false => ∃ u, xs = [u] ∧ VR ρ h w u v
theorem aeqs_len : ∀ {ks : List Nat} {xs ys : List AV} {b : Bool}, aeqs ks xs ys = some b → xs.length = ks.length ∧ ys.length = ks.length
  | [], xs, ys, b, h => by
    cases xs <;> cases ys <;> simp_all [aeqs]
  | t :: ts, xs, ys, b, h => by
    cases xs with
    | nil => simp [aeqs] at h
    | cons x xs =>
      cases ys with
      | nil => simp [aeqs] at h
      | cons y ys =>
        simp only [aeqs] at h
        split at h
        · rename_i a b' h1 h2
          obtain ⟨e1, e2⟩ := aeqs_len h2
          simp [e1, e2]
        · cases h
theorem aeqs_append : ∀ {k1 k2 : List Nat} {xs ys : List AV} {b : Bool}, aeqs (k1 ++ k2) xs ys = some b →
    ∃ b1 b2, aeqs k1 (xs.take k1.length) (ys.take k1.length) = some b1 ∧ aeqs k2 (xs.drop k1.length) (ys.drop k1.length) = some b2 ∧ b = (b1 && b2)
  | [], k2, xs, ys, b, h => ⟨true, b, by simp [aeqs], by simpa using h, by simp⟩
  | t :: k1, k2, xs, ys, b, h => by
    cases xs with
    | nil => simp [aeqs] at h
    | cons x xs =>
      cases ys with
      | nil => simp [aeqs] at h
      | cons y ys =>
        simp only [List.cons_append, aeqs] at h
        split at h
        · rename_i a b' h1 h2
          cases h
          obtain ⟨b1, b2, e1, e2, e3⟩ := aeqs_append h2
          refine ⟨a && b1, b2, ?_, by simpa using e2, by rw [e3, Bool.and_assoc]⟩
          simp [aeqs, h1, e1]
        · cases h
theorem CellsR.get {xs : List AV} {cs : Array Value} (hc : CellsR ρ h w xs cs) {j : Nat} {u : AV} (hj : xs[j]? = some u) : ∃ v, cs[j]? = some v ∧ VR ρ h w u v := by
  have hlt := getElem?_lt hj
  have := hc.2 j u hj
  have h2 : j < cs.size := by rw [← hc.1]; exact hlt
  rw [Array.getD_eq_getD_getElem?, Array.getElem?_eq_getElem h2] at this
  exact ⟨_, Array.getElem?_eq_getElem h2, this⟩
theorem isAgg_struct {t : TypeId} {fs : Array Field} (ht : P.underlying t = some (.struct fs)) (w : World) : (isAgg t).run P w = .ok true w := by simp [isAgg, run_underlying ht]
theorem isAgg_array {t e : TypeId} {n : Nat} (ht : P.underlying t = some (.array n e)) (w : World) : (isAgg t).run P w = .ok true w := by simp [isAgg, run_underlying ht]
/-- A type whose values have many cells. -/
def AggT (P : Program) (t : TypeId) : Prop := (∃ fs, P.underlying t = some (.struct fs)) ∨ (∃ n e, P.underlying t = some (.array n e))
theorem AggT.run {t : TypeId} (ht : AggT P t) (w : World) : (isAgg t).run P w = .ok true w := by
  rcases ht with ⟨fs, h⟩ | ⟨n, e, h⟩
  · exact isAgg_struct h w
  · exact isAgg_array h w
/-- Two values that can be compared, by their cells. -/
def EqArg (P : Program) (ρ : Rho) (h : AHeap) (w : World) (t : TypeId) (xs ys : List AV) (vx vy : Value) : Prop :=
  (∃ u v, xs = [u] ∧ ys = [v] ∧ VR ρ h w u vx ∧ VR ρ h w v vy ∧ ¬ AggT P t) ∨ (∃ cx cy, AggT P t ∧ vx = .agg cx ∧ vy = .agg cy ∧ CellsR ρ h w xs cx ∧ CellsR ρ h w ys cy)
theorem CellsR.part {xs : List AV} {cs : Array Value} (hc : CellsR ρ h w xs cs) (p n : Nat) (hl : p + n ≤ xs.length) : CellsR ρ h w ((xs.drop p).take n) (cs.extract p (p + n)) := by
  have hxl := hc.1
  refine ⟨by simp; omega, fun j u hj => ?_⟩
  rw [List.getElem?_take] at hj
  split at hj
  · rw [List.getElem?_drop] at hj
    obtain ⟨v, g1, g2⟩ := hc.get hj
    rw [Array.getD_eq_getD_getElem?, Array.getElem?_extract, if_pos (by omega), g1]
    exact g2
  · cases hj
theorem eqN_plain {d : Nat} {t : TypeId} {n : List Nat} (hn : eqN P d t = some n) (hns : ¬ AggT P t) : n.length = 1 ∧ (isAgg t).run P w = .ok false w := by
  cases d with
  | zero => simp [eqN] at hn
  | succ d =>
    unfold eqN at hn
    split at hn
    · rename_i hu'; cases hn; exact ⟨rfl, by simp [isAgg, run_underlying hu']⟩
    · rename_i hu'; cases hn; exact ⟨rfl, by simp [isAgg, run_underlying hu']⟩
    · rename_i hu'; cases hn; exact ⟨rfl, by simp [isAgg, run_underlying hu']⟩
    · rename_i fs hu'; exact absurd (.inl ⟨fs, hu'⟩) hns
    · rename_i k e hu'; exact absurd (.inr ⟨k, e, hu'⟩) hns
    · cases hn
theorem partEq {d D : Nat} {t : TypeId} {n : List Nat} (hn : eqN P d t = some n) {i : TypeInfo} (hif : P.info? t = some i) (hin : i.size = n.length) {xs ys : List AV} {cx cy : Array Value}
    (hcx : CellsR ρ h w xs cx) (hcy : CellsR ρ h w ys cy) (p : Nat) (lx : p + n.length ≤ xs.length) (ly : p + n.length ≤ ys.length) {b : Bool}
    (H : ∀ vx vy, EqArg P ρ h w t ((xs.drop p).take n.length) ((ys.drop p).take n.length) vx vy → (Op.equalIn D t vx vy).run P w = .ok b w) :
    ∃ px py, (part t cx p).run P w = .ok px w ∧ (part t cy p).run P w = .ok py w ∧ (Op.equalIn D t px py).run P w = .ok b w := by
  by_cases hs : AggT P t
  · refine ⟨.agg (cx.extract p (p + i.size)), .agg (cy.extract p (p + i.size)), by simp [Go.part, hs.run, run_size hif], by simp [Go.part, hs.run, run_size hif], ?_⟩
    refine H _ _ (.inr ⟨_, _, hs, rfl, rfl, ?_, ?_⟩)
    · rw [hin]; exact hcx.part _ _ lx
    · rw [hin]; exact hcy.part _ _ ly
  · obtain ⟨hl1, hag⟩ := eqN_plain (w := w) hn hs
    have g1 : p < xs.length := by omega
    have g2 : p < ys.length := by omega
    obtain ⟨px, p1, p2⟩ := hcx.get (List.getElem?_eq_getElem g1)
    obtain ⟨py, p3, p4⟩ := hcy.get (List.getElem?_eq_getElem g2)
    refine ⟨px, py, by simp [Go.part, hag, p1], by simp [Go.part, hag, p3], ?_⟩
    refine H _ _ (.inl ⟨xs[p], ys[p], ?_, ?_, p2, p4, hs⟩)
    · rw [hl1, List.drop_eq_getElem_cons g1]; rfl
    · rw [hl1, List.drop_eq_getElem_cons g2]; rfl
theorem g_eqN : ∀ (d : Nat) (t : TypeId) (ks : List Nat), eqN P d t = some ks → ∀ (D : Nat), d ≤ D → ∀ (xs ys : List AV) (vx vy : Value) (b : Bool), aeqs ks xs ys = some b →
    EqArg P ρ h w t xs ys vx vy → (Op.equalIn D t vx vy).run P w = .ok b w
  | 0, t, ks, hk, D, hD, xs, ys, vx, vy, b, hb, hv => by simp [eqN] at hk
  | d + 1, t, ks, hk, D, hD, xs, ys, vx, vy, b, hb, hv => by
    obtain ⟨D, rfl⟩ : ∃ m, D = m + 1 := ⟨D - 1, by omega⟩
    have one : ∀ n, ks = [n] → ¬ AggT P t → ∃ u v, aeq1 n u v = some b ∧ VR ρ h w u vx ∧ VR ρ h w v vy := by
      rintro n rfl hns
      rcases hv with ⟨u, v, rfl, rfl, h1, h2, _⟩ | ⟨cx, cy, h1, _⟩
      · simp only [aeqs] at hb
        split at hb
        · rename_i a b' e1 e2
          cases e2; cases hb
          exact ⟨u, v, by simpa using e1, h1, h2⟩
        · cases hb
      · exact absurd h1 hns
    unfold eqN at hk
    split at hk
    · rename_i k hu
      cases hk
      obtain ⟨u, v, e, h1, h2⟩ := one 0 rfl (by rintro (⟨_, h⟩ | ⟨_, _, h⟩) <;> rw [hu] at h <;> cases h)
      cases h1 <;> cases h2 <;> simp [aeq1] at e
      obtain ⟨rfl, rfl⟩ := e
      simp [Op.equalIn, run_underlying hu]
    · rename_i hu
      cases hk
      obtain ⟨u, v, e, h1, h2⟩ := one 1 rfl (by rintro (⟨_, h⟩ | ⟨_, _, h⟩) <;> rw [hu] at h <;> cases h)
      cases h1 <;> cases h2 <;> simp [aeq1] at e
      subst e
      simp [Op.equalIn, run_underlying hu]
    · rename_i hu
      cases hk
      obtain ⟨u, v, e, h1, h2⟩ := one 2 rfl (by rintro (⟨_, h⟩ | ⟨_, _, h⟩) <;> rw [hu] at h <;> cases h)
      cases h1 <;> cases h2 <;> simp [aeq1] at e
      subst e
      simp [Op.equalIn, run_underlying hu, beq_toListBytes]
    · rename_i fs hu
      split at hk
      · cases hk
      · rename_i hst
        rcases hv with ⟨u, v, _, _, _, _, h1⟩ | ⟨cx, cy, h1, rfl, rfl, hcx, hcy⟩
        · exact absurd (.inl ⟨fs, hu⟩) h1
        · have hfo : P.fieldsOf t = fs := by simp [Program.fieldsOf, hu]
          rw [run_equalIn_struct w D t cx cy (by rw [hfo]; exact hu) (by simpa using hst), hfo]
          have key : ∀ (fl : List Field) (acc ks : List Nat), eqFs P (eqN P d) fl acc = some ks → ∀ b, (∃ k2, ks = acc ++ k2 ∧ aeqs k2 (xs.drop acc.length) (ys.drop acc.length) = some b) →
              (Op.eqFields D cx cy fl).run P w = .ok b w := by
            intro fl
            induction fl with
            | nil =>
              intro acc ks hk b hb
              simp [eqFs] at hk
              subst hk
              obtain ⟨k2, e1, e2⟩ := hb
              have : k2 = [] := by simpa using e1
              subst this
              cases hx : xs.drop acc.length <;> cases hy : ys.drop acc.length <;> rw [hx, hy] at e2 <;> simp [aeqs] at e2
              subst e2
              simp [Op.eqFields]
            | cons f fl ih =>
              intro acc ks hk b hb
              simp only [eqFs] at hk
              split at hk
              · cases hk
              · rename_i hname
                split at hk
                · cases hk
                · rename_i hoff
                  have hoff : f.offset = acc.length := Classical.not_not.1 hoff
                  split at hk
                  · rename_i n hn
                    split at hk
                    · rename_i hinf
                      obtain ⟨k2, e1, e2⟩ := hb
                      have hpre : ∃ k3, ks = (acc ++ n) ++ k3 := by
                        have : ∀ (fl : List Field) (acc ks : List Nat), eqFs P (eqN P d) fl acc = some ks → ∃ k3, ks = acc ++ k3 := by
                          intro fl
                          induction fl with
                          | nil => intro acc ks h; simp [eqFs] at h; exact ⟨[], by simp [h]⟩
                          | cons g gl ihg =>
                            intro acc ks h
                            simp only [eqFs] at h
                            repeat' split at h
                            all_goals first | (cases h; done) | skip
                            obtain ⟨k3, e⟩ := ihg _ _ h
                            exact ⟨_, by rw [e, List.append_assoc]⟩
                        exact this _ _ _ hk
                      obtain ⟨k3, e3⟩ := hpre
                      have e4 : k2 = n ++ k3 := by rw [e1] at e3; simpa using e3
                      subst e4
                      obtain ⟨b1, b2, f1, f2, f3⟩ := aeqs_append e2
                      obtain ⟨lx, ly⟩ := aeqs_len f1
                      simp only [List.length_take, List.length_drop] at lx ly
                      cases hif : P.info? f.type with
                      | none => simp [hif] at hinf
                      | some i =>
                        have hin : i.size = n.length := by simpa [hif] using hinf
                        have hrest := ih (acc ++ n) ks hk b2 ⟨k3, e3, by rw [List.length_append, ← List.drop_drop, ← List.drop_drop]; exact f2⟩
                        have hlen : n ≠ [] → acc.length + n.length ≤ xs.length ∧ acc.length + n.length ≤ ys.length := by
                          intro hne
                          have : 0 < n.length := List.length_pos_iff.2 hne
                          omega
                        have hpart : ∃ px py, (part f.type cx f.offset).run P w = .ok px w ∧ (part f.type cy f.offset).run P w = .ok py w ∧ (Op.equalIn D f.type px py).run P w = .ok b1 w := by
                          rw [hoff]
                          by_cases hne : n = []
                          · subst hne
                            have hag : AggT P f.type := by
                              apply Classical.byContradiction
                              intro hc
                              have := (eqN_plain (w := w) hn hc).1
                              simp at this
                            refine ⟨.agg (cx.extract acc.length (acc.length + i.size)), .agg (cy.extract acc.length (acc.length + i.size)), by simp [Go.part, hag.run, run_size hif], by simp [Go.part, hag.run, run_size hif], ?_⟩
                            refine g_eqN d f.type [] hn D (by omega) _ _ _ _ b1 f1 (.inr ⟨_, _, hag, rfl, rfl, ?_, ?_⟩)
                            · refine ⟨by simp at hin; simp [hin]; omega, fun j u hj => by simp at hj⟩
                            · refine ⟨by simp at hin; simp [hin]; omega, fun j u hj => by simp at hj⟩
                          · exact partEq hn hif hin hcx hcy acc.length (hlen hne).1 (hlen hne).2 (fun vx vy hv => g_eqN d f.type n hn D (by omega) _ _ vx vy b1 f1 hv)
                        obtain ⟨px, py, q1, q2, q3⟩ := hpart
                        simp only [Op.eqFields, ne_eq, hname, not_false_eq_true, if_true, Sem.run_bind, q1, q2, q3, Result.andThen_ok]
                        cases b1 with
                        | false => simp [f3]
                        | true => simpa [f3] using hrest
                    · cases hk
                  · cases hk
          exact key fs.toList [] ks hk b ⟨ks, by simp, by simpa using hb⟩
    · rename_i n e hu
      split at hk
      · rename_i ke hke
        split at hk
        · rename_i hinf
          cases hk
          cases hif : P.info? e with
          | none => simp [hif] at hinf
          | some i =>
            have hin : i.size = ke.length := by simpa [hif] using hinf
            rcases hv with ⟨u, v, _, _, _, _, h1⟩ | ⟨cx, cy, h1, rfl, rfl, hcx, hcy⟩
            · exact absurd (.inr ⟨n, e, hu⟩) h1
            · rw [run_equalIn_array w D cx cy hu hif]
              have hce : P.cellsOf e = ke.length := by
                simp [Program.cellsOf, hif, hin]
              rw [hce]
              have key : ∀ (m j : Nat) (b : Bool), aeqs (List.replicate m ke).flatten (xs.drop (j * ke.length)) (ys.drop (j * ke.length)) = some b →
                  (Op.eqItems D e ke.length cx cy (List.range' j m)).run P w = .ok b w := by
                intro m
                induction m with
                | zero =>
                  intro j b hb
                  simp only [List.replicate_zero, List.flatten_nil] at hb
                  cases hx : xs.drop (j * ke.length) <;> cases hy : ys.drop (j * ke.length) <;> rw [hx, hy] at hb <;> simp [aeqs] at hb
                  subst hb
                  simp [Op.eqItems]
                | succ m ih =>
                  intro j b hb
                  rw [List.replicate_succ, List.flatten_cons] at hb
                  obtain ⟨b1, b2, f1, f2, f3⟩ := aeqs_append hb
                  obtain ⟨lx, ly⟩ := aeqs_len f1
                  simp only [List.length_take, List.length_drop] at lx ly
                  have hrest := ih (j + 1) b2 (by rw [Nat.add_mul, Nat.one_mul, ← List.drop_drop, ← List.drop_drop]; exact f2)
                  have hpart : ∃ px py, (part e cx (j * ke.length)).run P w = .ok px w ∧ (part e cy (j * ke.length)).run P w = .ok py w ∧ (Op.equalIn D e px py).run P w = .ok b1 w := by
                    by_cases hne : ke = []
                    · subst hne
                      have hag : AggT P e := by
                        apply Classical.byContradiction
                        intro hc
                        have := (eqN_plain (w := w) hke hc).1
                        simp at this
                      simp only [List.length_nil, Nat.mul_zero]
                      refine ⟨.agg (cx.extract 0 (0 + i.size)), .agg (cy.extract 0 (0 + i.size)), by simp [Go.part, hag.run, run_size hif], by simp [Go.part, hag.run, run_size hif], ?_⟩
                      refine g_eqN d e [] hke D (by omega) _ _ _ _ b1 f1 (.inr ⟨_, _, hag, rfl, rfl, ?_, ?_⟩)
                      · exact ⟨by simp at hin; simp [hin], fun j u hj => by simp at hj⟩
                      · exact ⟨by simp at hin; simp [hin], fun j u hj => by simp at hj⟩
                    · have : 0 < ke.length := List.length_pos_iff.2 hne
                      exact partEq hke hif hin hcx hcy (j * ke.length) (by omega) (by omega) (fun vx vy hv => g_eqN d e ke hke D (by omega) _ _ vx vy b1 f1 hv)
                  obtain ⟨px, py, q1, q2, q3⟩ := hpart
                  rw [List.range'_succ]
                  simp only [Op.eqItems, Sem.run_bind, q1, q2, q3, Result.andThen_ok]
                  cases b1 with
                  | false => simp [f3]
                  | true => simpa [f3] using hrest
              rw [List.range_eq_range']
              exact key n 0 b (by simpa using hb)
        · cases hk
      · cases hk
    · cases hk
end Go.Av

/- Each operation in the short words is what the machine does: all of them together. -/
set_option linter.unusedVariables false
set_option linter.unusedSimpArgs false
namespace Go.Av
open Go
variable {P : Program} {ρ : Rho} {h : AHeap} {w : World} {s : List (Nat × AV)} {a : Act}

abbrev Slots (ρ : Rho) (h : AHeap) (w : World) (s : List (Nat × AV)) (a : Act) : Prop := ∀ i, VR ρ h w (alook s i) (a.tmps.getD i undef)

theorem g_take {n : Option Nat} {t : TypeId} (hk : ldk P t = some n) {cs : List AV} {vals : Array Value} (hc : CellsR ρ h w cs vals) {off : Nat} {x : AV} (hx : takeAs n (cs.drop off) = some x) :
    ∃ val, (part t vals off).run P w = .ok val w ∧ VR ρ h w x val := by
  have hl := ldk_some hk w
  cases n with
  | none =>
    simp only [takeAs, List.head?_drop] at hx
    obtain ⟨v, h1, h2⟩ := hc.get hx
    exact ⟨v, by simp [part, hl, h1], h2⟩
  | some n =>
    simp only [takeAs, List.length_drop] at hx
    split at hx
    · rename_i hle
      cases hx
      refine ⟨.agg (vals.extract off (off + n)), by simp [part, hl.1, hl.2], .agg _ _ ?_ ?_⟩
      · have := hc.1; simp; omega
      · intro j u hj
        rw [List.getElem?_take] at hj
        split at hj
        · rw [List.getElem?_drop] at hj
          obtain ⟨v, h1, h2⟩ := hc.get hj
          have := getElem?_lt hj
          have hcl := hc.1
          rw [Array.getD_eq_getD_getElem?, Array.getElem?_extract, if_pos (by omega), h1]
          exact h2
        · cases hj
    · cases hx

theorem run_keyOf' (k : IntKind) (n : Int) (kt : TypeId) (k' : IntKind) (hk : P.underlying kt = some (.int k')) (w : World) (b : Bool) (m : Nat) : (Instr.checkKey b (m + 1) kt (.int k n)).run P w = .ok () w := by
  simp [Instr.checkKey, run_underlying hk]
theorem run_keyOf (k : IntKind) (n : Int) (kt : TypeId) (hk : ∃ k', P.underlying kt = some (.int k')) (w : World) (b : Bool) : (Instr.checkKey b 10000 kt (.int k n)).run P w = .ok () w := by
  obtain ⟨k', hk⟩ := hk
  exact run_keyOf' k n kt k' hk w b 9999
theorem mfind_ok {k : IntKind} {n : Int} {kt : TypeId} (hk : ∃ k', P.underlying kt = some (.int k')) : ∀ (es : List (AV × AV)) (ces : List MapEntry) (i : Nat) (r : Option (Nat × AV)), es.length = ces.length →
    (∀ (j : Nat) (x u : AV), es[j]? = some (x, u) → VR ρ h w x (ces.getD j default).key ∧ VR ρ h w u (ces.getD j default).val) → mfind k n es i = some r →
    ∃ r', Instr.findNow (.int k) (.int k n) ces i = some r' ∧ (match r, r' with
      | none, none => True
      | some (j, u), some (j', v) => j = j' ∧ VR ρ h w u v ∧ i ≤ j ∧ es[j - i]? = some (.int k n, u) ∧ (ces.getD (j - i) default).key = .int k n
      | _, _ => False)
  | [], ces, i, r, hl, hv, hr => by
    have : ces = [] := List.eq_nil_of_length_eq_zero (by simpa using hl.symm)
    subst this
    simp [mfind] at hr
    subst hr
    exact ⟨none, by simp [Instr.findNow], trivial⟩
  | (x, u) :: es, [], i, r, hl, hv, hr => by simp at hl
  | (x, u) :: es, c :: ces, i, r, hl, hv, hr => by
    obtain ⟨v1, v2⟩ := hv 0 x u (by simp)
    simp only [List.getD_cons_zero] at v1 v2
    cases x <;> simp only [mfind] at hr <;> try (cases hr; done)
    rename_i k' m
    split at hr
    · rename_i hkk
      subst hkk
      cases hck : c.key <;> rw [hck] at v1 <;> cases v1
      split at hr
      · rename_i hnm
        subst hnm
        cases hr
        refine ⟨some (i, c.val), by simp [Instr.findNow, Instr.sameNow, hck], rfl, v2, Nat.le_refl _, by simp, by simp [hck]⟩
      · rename_i hnm
        obtain ⟨r', h1, h2⟩ := mfind_ok hk es ces (i + 1) r (by simpa using hl) (fun j x u hj => by simpa using hv (j + 1) x u (by simpa using hj)) hr
        refine ⟨r', ?_, ?_⟩
        · have : (n == m) = false := by simpa using hnm
          simp [Instr.findNow, Instr.sameNow, hck, this, h1]
        · cases r with
          | none => cases r' <;> simp_all
          | some p =>
            cases r' with
            | none => exact h2.elim
            | some q =>
              obtain ⟨j, u⟩ := p
              obtain ⟨j', v⟩ := q
              obtain ⟨g1, g2, g3, g4, g5⟩ := h2
              refine ⟨g1, g2, by omega, ?_, ?_⟩
              · rw [show j - i = (j - (i + 1)) + 1 by omega, List.getElem?_cons_succ]; exact g4
              · rw [show j - i = (j - (i + 1)) + 1 by omega, List.getD_cons_succ]; exact g5
    · cases hr
theorem findNow_kind (k k' : IntKind) (v : Value) : ∀ (l : List MapEntry) (i : Nat), Instr.findNow (.int k) v l i = Instr.findNow (.int k') v l i
  | [], i => rfl
  | e :: l, i => by
    have : Instr.sameNow (.int k) v e.key = Instr.sameNow (.int k') v e.key := by
      cases v <;> cases e.key <;> rfl
    simp only [Instr.findNow, this, findNow_kind k k' v l]

theorem optInt_ok (hs : Slots ρ h w s a) {d r : Int} (lo : Option Operand) (hr : optInt s d (lo.map cx) = some r) : match lo.map a.eval with
    | none => r = d
    | some v => ∃ k, v = .int k r := by
  cases lo with
  | none => simpa [optInt] using hr.symm
  | some x =>
    simp only [Option.map_some, optInt] at hr
    have hv := VR_ev hs x
    split at hr
    · rename_i k n he
      cases hr
      rw [he] at hv
      cases hv2 : a.eval x <;> rw [hv2] at hv <;> cases hv
      simp [hv2]
    · cases hr
theorem run_bounds (isS : Bool) (len cap : Nat) (lo hi mx : Option Value) (l e m : Int) (hl : match lo with | none => l = 0 | some v => ∃ k, v = .int k l) (he : match hi with | none => e = len | some v => ∃ k, v = .int k e)
    (hm : match mx with | none => m = cap | some v => (∃ k, v = .int k m) ∧ hi.isSome) (h0 : 0 ≤ l) (h1 : l ≤ e) (h2 : e ≤ m) (h3 : m ≤ cap) : (Instr.sliceBounds isS len cap lo hi mx).run P w = .ok (l.toNat, e.toNat, m.toNat) w := by
  have b : ∀ (k : IntKind) (x : Int) (y : Nat) (c : BoundsCode), 0 ≤ x → x ≤ y → (Instr.sliceBound (.int k x) y c).run P w = .ok x.toNat w := by
    intro k x y c hx hy
    simp only [Instr.sliceBound, asIntOf, Sem.run_bind, Sem.run_pure, Result.andThen_ok]
    rw [if_pos ⟨hx, hy⟩]; rfl
  unfold Instr.sliceBounds
  cases mx with
  | none =>
    dsimp only at hm; subst hm
    cases hi with
    | none =>
      dsimp only at he; subst he
      cases lo with
      | none => dsimp only at hl; subst hl; simp
      | some v => obtain ⟨k, rfl⟩ := hl; simp [b k l len _ h0 h1]
    | some u =>
      obtain ⟨ku, rfl⟩ := he
      cases lo with
      | none => dsimp only at hl; subst hl; simp [b ku e cap _ (by omega) h2]
      | some v => obtain ⟨k, rfl⟩ := hl; simp [b ku e cap _ (by omega) h2, b k l e.toNat _ h0 (by omega)]
  | some q =>
    obtain ⟨⟨kq, rfl⟩, hi2⟩ := hm
    cases hi with
    | none => cases hi2
    | some u =>
      obtain ⟨ku, rfl⟩ := he
      cases lo with
      | none => dsimp only at hl; subst hl; simp [b kq m cap _ (by omega) h3, b ku e m.toNat _ (by omega) (by omega)]
      | some v => obtain ⟨k, rfl⟩ := hl; simp [b kq m cap _ (by omega) h3, b ku e m.toNat _ (by omega) (by omega), b k l e.toNat _ h0 (by omega)]

theorem sub_get {xs : List AV} {sz : Nat} (hu : ∀ x ∈ xs, x.cells.length = sz) (l n j : Nat) (u : AV) (hj : (flat ((xs.drop l).take n))[j]? = some u) : (flat xs)[l * sz + j]? = some u := by
  have hu2 : ∀ x ∈ (xs.drop l).take n, x.cells.length = sz := fun x hx => hu x (List.mem_of_mem_drop (List.mem_of_mem_take hx))
  obtain ⟨i, e, k, h1, h2, h3, h4⟩ := flat_mem hu2 j u hj
  rw [List.getElem?_take] at h1
  split at h1
  · rw [List.getElem?_drop] at h1
    have := flat_get hu (l + i) e h1 k h4
    rw [h3, show l * sz + (i * sz + k) = (l + i) * sz + k by rw [Nat.add_mul]; omega, this]
    exact h2
  · cases h1
theorem g_slc (hh : HR P ρ h w) (hs : Slots ρ h w s a) {t e : TypeId} {i : TypeInfo} (ht : P.underlying t = some (.slice e)) (hi : P.info? e = some i) (x : Operand) (lo hi' mx : Option Operand) {r : AV} {h' : AHeap}
    (hr : aslc h s i.size (ev s (cx x)) (lo.map cx) (hi'.map cx) (mx.map cx) = .v r h') : ∃ val, (Instr.sliceAt t (a.eval x) (lo.map a.eval) (hi'.map a.eval) (mx.map a.eval)).run P w = .ok val w ∧ VR ρ h w r val ∧ h' = h := by
  have hv := VR_ev hs x
  have red : ∀ (v : Value) (A B C : Option Value), (Instr.sliceAt t v A B C).run P w = (Instr.slice t v A B C).run P w := by
    intro v A B C; simp [Instr.sliceAt, run_underlying ht]
  rw [red]
  unfold aslc at hr
  split at hr
  · rename_i tight xs hx
    rw [hx] at hv
    cases hvx : a.eval x <;> rw [hvx] at hv <;> cases hv
    rename_i A c sz vals hxsz hxv hxa hxc hxt
    split at hr
    · rename_i l e' hl he
      have hl2 := optInt_ok hs lo hl
      have he2 := optInt_ok hs hi' he
      split at hr
      · rename_i hb
        obtain ⟨b0, b1, b2⟩ := hb
        have main : ∀ (m : Int) (tt : Bool), (match mx.map a.eval with | none => m = c | some v => (∃ k, v = .int k m) ∧ (hi'.map a.eval).isSome) → e' ≤ m → m ≤ c → (tt = true → m = e') → (∀ y ∈ xs, y.cells.length = i.size) →
            ∃ val, (Instr.slice t (.slice A xs.length c) (lo.map a.eval) (hi'.map a.eval) (mx.map a.eval)).run P w = .ok val w ∧ VR ρ h w (.sl tt ((xs.drop l.toNat).take (e' - l).toNat)) val := by
          intro m tt hm h2 h3 htt hu
          have hbd := run_bounds (P := P) (w := w) true xs.length c (lo.map a.eval) (hi'.map a.eval) (mx.map a.eval) l e' m hl2 he2 hm b0 b1 h2 h3
          refine ⟨.slice (if m.toNat = l.toNat then A else A.map (·.add (l.toNat * i.size))) (e'.toNat - l.toNat) (m.toNat - l.toNat), by simp [Instr.slice, run_underlying ht, hbd, run_size hi], ?_⟩
          have hlen : ((xs.drop l.toNat).take (e' - l).toNat).length = e'.toNat - l.toNat := by simp; omega
          rw [← hlen]
          refine .sl tt _ _ _ i.size (fun j => vals (l.toNat * i.size + j)) (fun y hy => hu y (List.mem_of_mem_drop (List.mem_of_mem_take hy))) ?_ (fun j u hj => hxv _ u (sub_get hu _ _ j u hj)) (by rw [hlen]; omega) (fun h => by rw [hlen]; have := htt h; omega)
          intro hne
          have hpos : 0 < ((xs.drop l.toNat).take (e' - l).toNat).length := List.length_pos_iff.2 hne
          obtain ⟨b, o, rfl, hst, hcl⟩ := hxa (by rintro rfl; simp at hne)
          refine ⟨b, o + l.toNat * i.size, ?_, hst, fun j u hj => ?_⟩
          · rw [if_neg (by omega)]; simp [Addr.add_lit]
          · rw [Nat.add_assoc]; exact hcl _ u (sub_get hu _ _ j u hj)
        split at hr
        · rename_i hmx
          cases mx with
          | some q => cases hmx
          | none =>
            split at hr
            · rename_i hall
              cases hr
              have hu : ∀ y ∈ xs, y.cells.length = i.size := fun y hy => by simpa using List.all_eq_true.1 hall y hy
              obtain ⟨val, g1, g2⟩ := main c (tight && decide (e' = xs.length)) rfl (by omega) (Int.le_refl _) (by
                intro h; simp at h; have := hxt h.1; omega) hu
              exact ⟨val, g1, g2, rfl⟩
            · cases hr
        · rename_i q hmx
          cases mx with
          | none => cases hmx
          | some mq =>
            simp only [Option.map_some, Option.some.injEq] at hmx
            subst hmx
            split at hr
            · rename_i km m hmv
              split at hr
              · rename_i hcond
                obtain ⟨his, hme, hall⟩ := hcond
                subst hme
                cases hr
                have hu : ∀ y ∈ xs, y.cells.length = i.size := fun y hy => by simpa using List.all_eq_true.1 hall y hy
                have hvm := VR_ev hs mq
                rw [hmv] at hvm
                cases hvm2 : a.eval mq <;> rw [hvm2] at hvm <;> cases hvm
                cases hi' with
                | none => cases his
                | some hq =>
                  obtain ⟨val, g1, g2⟩ := main m true (by simp [hvm2]) (Int.le_refl _) (by omega) (fun _ => rfl) hu
                  exact ⟨val, by simpa using g1, g2, rfl⟩
              · cases hr
            · cases hr
      · cases hr
    · cases hr
  · rename_i id ver idx len hx
    rw [hx] at hv
    cases hvx : a.eval x <;> rw [hvx] at hv <;> cases hv
    rename_i A c hid hle hxc
    split at hr
    · rename_i sz' es hrw hmx
      cases mx with
      | some q => cases hmx
      | none =>
        split at hr
        · rename_i l e' hl he
          have hl2 := optInt_ok hs lo hl
          have he2 := optInt_ok hs hi' he
          split at hr
          · rename_i hb
            obtain ⟨b0, b1, b2, b3⟩ := hb
            cases hr
            have hrow := rowAt_eq hrw
            obtain ⟨g1, g2, g3⟩ := (hxc _ _ _ hrow).2 rfl
            have hbd := run_bounds (P := P) (w := w) true len c (lo.map a.eval) (hi'.map a.eval) none l e' c hl2 he2 rfl b0 b1 (by omega) (Int.le_refl _)
            refine ⟨.slice (if ((c : Nat) : Int).toNat = l.toNat then A else A.map (·.add (l.toNat * i.size))) (e'.toNat - l.toNat) (((c : Nat) : Int).toNat - l.toNat), by simp [Instr.slice, run_underlying ht, hbd, run_size hi], ?_, rfl⟩
            rw [show e'.toNat - l.toNat = (e' - l).toNat by omega]
            refine .rf _ _ _ _ _ _ hid (by omega) ?_
            intro k sz2 es2 hke
            rw [hrow] at hke; cases hke
            refine ⟨Nat.le_refl _, fun _ => ⟨fun hne => ?_, by omega, ?_⟩⟩
            · rw [if_neg (by omega), g1 (by omega), ← b3]
              simp [Addr.add_lit, Nat.add_mul]
            · rw [show idx + l.toNat + (((c : Nat) : Int).toNat - l.toNat) = idx + c by omega]
              exact g3
          · cases hr
        · cases hr
    · cases hr
  · cases hr
end Go.Av

/- The one theorem on operations: what the short step says, the machine does. -/
set_option linter.unusedVariables false
set_option linter.unusedSimpArgs false
namespace Go.Av
open Go
variable {P : Program} {ρ : Rho} {h : AHeap} {w : World} {s : List (Nat × AV)} {a : Act}

theorem Good.fail (sm : Sem Next) : Good P ρ h w sm .fail := trivial
/-- 'match' on an operand's short form. -/
theorem okC_fresh {b : Nat} (hh : HR P ρ h w) (hb : b = w.heap.size) {w' : World} {ob : Obj} (hp : Plus w w' ob) : Still ρ h w' b := by
  subst hb
  refine ⟨(heap_lt hp.new), ?_⟩
  rintro (⟨i, o, h1, h2, h3⟩ | hx)
  · have := (hh.obj i o h1).lt h2
    omega
  · have := hh.xl _ hx
    omega
/-- A block that nobody of ours has. -/
theorem Step.extra {w' : World} {ob : Obj} (hh : HR P ρ h w) (hp : Plus w w' ob) : Step ρ h w ρ h w' := by
  refine ⟨Nat.le_refl _, fun i o ho hl _ => ⟨o, ho, AObj.to_refl hl, AObj.same_refl o, fun _ => ⟨rfl, blockSize_of (hp.old _ ((hh.obj i o ho).lt hl))⟩⟩, fun b hb => ⟨hp.old b hb.lt, ⟨Nat.lt_of_lt_of_le hb.lt hp.size, hb.free⟩⟩, hp.size, hp.os, hp.tape, hp.output, rfl, fun b hb => hp.old b (hh.xl b hb)⟩
theorem HR.extra {w' : World} {ob : Obj} (hh : HR P ρ h w) (hp : Plus w w' ob) : HR P ρ h w' := by
  refine ⟨fun i o ho => ?_, hh.inj, hh.xo, fun b hb => Nat.lt_of_lt_of_le (hh.xl b hb) hp.size⟩
  cases hl : o.live with
  | true => exact (hh.obj i o ho).mono (Step.extra hh hp) (hp.old _ ((hh.obj i o ho).lt hl)) (fun d hd => ⟨hd, rfl⟩)
  | false => cases o <;> simp_all [AObj.live]; trivial

theorem afill_parts (sz : Nat) : ∀ (xs : List AV) (k : Nat) (done : List AV) (m : Nat), (∀ x ∈ xs, okE sz x = true) → (∀ x ∈ done, x.cells.length = sz) → done.length = k → m = xs.length →
    afill (flat done ++ List.replicate (m * sz) .any) ((xs.zipIdx k).map fun p => (p.2 * sz, sz, p.1)) = some (flat (done ++ xs))
  | [], k, done, m, _, _, _, hm => by subst hm; simp [afill]
  | x :: xs, k, done, m, hx, hd, hk, hm => by
    subst hm
    have hx0 := hx x (by simp)
    have hxl : x.cells.length = sz := by simp [okE] at hx0; exact hx0.1
    have hfl := flat_length hd
    simp only [List.zipIdx_cons, List.map_cons, afill]
    rw [if_pos ⟨hx0, by rw [List.length_append, hfl, hk, List.length_replicate, List.length_cons, Nat.add_mul]; omega⟩]
    have hsp : splice (flat done ++ List.replicate ((x :: xs).length * sz) .any) (k * sz) x.cells = flat (done ++ [x]) ++ List.replicate (xs.length * sz) .any := by
      unfold splice
      rw [List.take_append_of_le_length (by rw [hfl, hk]; exact Nat.le_refl _), List.take_of_length_le (by rw [hfl, hk]; exact Nat.le_refl _), List.drop_append, hfl, hk, flat_append]
      rw [List.drop_of_length_le (by rw [hfl, hk]; omega)]
      simp only [List.nil_append, List.drop_replicate, List.append_assoc, flat, List.flatMap_cons, List.flatMap_nil, List.append_nil, List.length_cons]
      rw [show (xs.length + 1) * sz - (k * sz + x.cells.length - k * sz) = xs.length * sz by rw [Nat.add_mul]; omega]
    rw [hsp, afill_parts sz xs (k + 1) (done ++ [x]) xs.length (fun y hy => hx y (by simp [hy])) (by
      intro y hy; rcases List.mem_append.1 hy with h1 | h1
      · exact hd y h1
      · simp at h1; rw [h1]; exact hxl) (by simp [hk]) rfl]
    simp
theorem zip_range (l : List Value) : ∀ k, (List.range' k l.length).zip l = (l.zipIdx k).map fun p => (p.2, p.1) := by
  induction l with
  | nil => intro k; simp
  | cons x l ih => intro k; simp [List.range'_succ, ih (k + 1)]

theorem g_bsl (hh : HR P ρ h w) (hs : Slots ρ h w s a) {t e : TypeId} {i : TypeInfo} (ht : P.underlying t = some (.slice e)) (hi : P.info? e = some i) (parts : Array (Nat × Operand)) (n : Nat)
    (hidx : parts.toList.map (·.1) = List.range n) (h24 : n * i.size ≤ 16777216) (hsz : 0 < i.size) (hz : i.zero.map (·.cells.size) = some i.size) (hall : ((parts.toList.map fun p => cx p.2).map (ev s)).all (okE i.size) = true) :
    ∃ ρ' w' val, (Instr.buildSlice t n (parts.map fun (j, x) => (j, a.eval x))).run P w = .ok val w' ∧ VR ρ' h w' (.sl true ((parts.toList.map fun p => cx p.2).map (ev s))) val ∧ HR P ρ' h w' ∧ Step ρ h w ρ' h w' := by
  obtain ⟨xs, hxs⟩ : ∃ xs, xs = (parts.toList.map fun p => cx p.2).map (ev s) := ⟨_, rfl⟩
  obtain ⟨vs, hvs⟩ : ∃ vs, vs = parts.toList.map fun p => a.eval p.2 := ⟨_, rfl⟩
  have hln : parts.toList.length = n := by have := congrArg List.length hidx; simpa using this
  have hxl : xs.length = n := by rw [hxs]; simp; exact hln
  have hvl : vs.length = n := by rw [hvs]; simp; exact hln
  have hv : VRs ρ h w xs vs := by
    have := VRs_evs hs (parts.toList.map (·.2))
    rw [hxs, hvs]
    simpa [List.map_map, Function.comp_def] using this
  rw [← hxs] at hall ⊢
  cases hzz : i.zero with
  | none => simp [hzz] at hz
  | some z =>
    have hzs : z.cells.size = i.size := by simpa [hzz] using hz
    obtain ⟨c0, hc0⟩ : ∃ c0 : Array Value, c0 = (Array.range (n * i.size)).map (fun k => z.cells[k % z.cells.size]!) := ⟨_, rfl⟩
    have hcr : CellsR ρ h w (List.replicate (n * i.size) .any) c0 := ⟨by rw [hc0]; simp, fun j u hj => by
      have := List.getElem?_replicate (a := AV.any) (n := n * i.size) (i := j)
      rw [this] at hj; split at hj <;> cases hj; exact .any _⟩
    have hfill := afill_parts i.size xs 0 [] n (fun x hx => List.all_eq_true.1 hall x hx) (by simp) rfl hxl.symm
    simp only [flat, List.flatMap_nil, List.nil_append] at hfill
    obtain ⟨ps, hps⟩ : ∃ ps : List (Nat × Nat × AV × Value), ps = ((xs.zip vs).zipIdx.map fun p => (p.2 * i.size, i.size, p.1.1, p.1.2)) := ⟨_, rfl⟩
    have hps1 : ps.map (fun p => (p.1, p.2.1, p.2.2.1)) = (xs.zipIdx 0).map fun p => (p.2 * i.size, i.size, p.1) := by
      rw [hps, List.map_map]
      apply List.ext_getElem?
      intro j
      simp only [List.getElem?_map, List.getElem?_zipIdx, List.getElem?_zip_eq_some]
      by_cases hj : j < n
      · have e1 : (xs.zip vs)[j]? = some (xs[j], vs[j]) := by rw [List.getElem?_zip_eq_some]; simp
        simp [e1, List.getElem?_eq_getElem (show j < xs.length by omega)]
      · simp [List.getElem?_eq_none (show (xs.zip vs).length ≤ j by simp; omega), List.getElem?_eq_none (show xs.length ≤ j by omega)]
    have hps2 : ps.map (fun p => p.2.2.2) = vs := by
      rw [hps, List.map_map]
      apply List.ext_getElem?
      intro j
      simp only [List.getElem?_map, List.getElem?_zipIdx]
      by_cases hj : j < n
      · have e1 : (xs.zip vs)[j]? = some (xs[j], vs[j]) := by rw [List.getElem?_zip_eq_some]; simp
        simp [e1]
      · simp [List.getElem?_eq_none (show (xs.zip vs).length ≤ j by simp; omega), List.getElem?_eq_none (show vs.length ≤ j by omega)]
    obtain ⟨out, hout, hcro⟩ := fill_ok (ρ := ρ) (h := h) (w := w) (fun j => some (j * i.size, i.size)) ps (List.range n) _ c0 _ (by rw [hps]; simp [hxl, hvl]) (by
      intro j p k hp hk
      rw [hps] at hp
      simp only [List.getElem?_map, List.getElem?_zipIdx] at hp
      have hj : j < n := by have := getElem?_lt hk; simpa using this
      have e1 : (xs.zip vs)[j]? = some (xs[j], vs[j]) := by rw [List.getElem?_zip_eq_some]; simp
      rw [e1] at hp
      simp at hp
      subst hp
      have : k = j := by rw [List.getElem?_range hj] at hk; simpa using hk.symm
      subst this
      refine ⟨rfl, ?_⟩
      have := hv.2 k xs[k] (List.getElem?_eq_getElem (by omega))
      simpa [List.getD, List.getElem?_eq_getElem (show k < vs.length by omega)] using this) hcr (by rw [hps1]; exact hfill)
    rw [hps2, ← hvl] at hout
    have hzip : (List.range vs.length).zip vs = (parts.map fun (j, x) => (j, a.eval x)).toList := by
      rw [Array.toList_map]
      apply List.ext_getElem?
      intro j
      by_cases hj : j < n
      · have e1 : ((List.range vs.length).zip vs)[j]? = some (j, vs[j]'(by omega)) := by rw [List.getElem?_zip_eq_some]; exact ⟨List.getElem?_range (by omega), List.getElem?_eq_getElem (by omega)⟩
        rw [e1]
        have e2 : parts.toList[j]? = some (parts.toList[j]'(by omega)) := List.getElem?_eq_getElem (by omega)
        have e3 : (parts.toList[j]'(by omega)).1 = j := by
          have := congrArg (·[j]?) hidx
          simp only [List.getElem?_map, e2, Option.map_some] at this
          rw [List.getElem?_range hj] at this
          simpa using this
        simp only [List.getElem?_map, e2, Option.map_some, Option.some.injEq]
        refine Prod.ext e3.symm ?_
        have : vs[j]? = (parts.toList.map fun p => a.eval p.2)[j]? := by rw [hvs]
        rw [List.getElem?_map, e2, List.getElem?_eq_getElem (by omega)] at this
        simpa using this
      · rw [List.getElem?_eq_none (by rw [List.length_zip, List.length_range, hvl]; omega), List.getElem?_eq_none (by rw [List.length_map, hln]; omega)]
    rw [hzip] at hout
    have hp := Plus.alloc w (.cells out e)
    have s1 := Step.extra hh hp
    refine ⟨ρ, w.alloc (.cells out e), .slice (some ⟨w.heap.size, 0, none⟩) n n, ?_, ?_, HR.extra hh hp, s1⟩
    · have hz0 : n * i.size = 0 → c0 = #[] := by intro h0; rw [hc0, h0]; simp
      have n24 : ¬ (16777216 < n * i.size) := by omega
      by_cases h0 : n * i.size = 0
      · have e0 : c0 = Array.map (fun _ => (default : Value)) (Array.range 0) := by rw [hz0 h0]; simp
        rw [e0] at hout
        have hout' : Instr.fill (fun j => some (j * i.size, i.size)) (Array.map (fun _ => (default : Value)) (Array.range 0)) (List.map (fun x => (x.fst, a.eval x.snd)) parts.toList) = some out := by rw [← hout]; simp
        simp [Instr.buildSlice, run_underlying ht, run_size hi, n24, h0, newRow]
        rw [hout']
        simp
      · rw [hc0] at hout
        have hout' : Instr.fill (fun j => some (j * i.size, i.size)) (Array.map (fun k => z.cells[k % z.cells.size]!) (Array.range (n * i.size))) (List.map (fun x => (x.fst, a.eval x.snd)) parts.toList) = some out := by rw [← hout]; simp
        simp [Instr.buildSlice, run_underlying ht, run_size hi, n24, h0, newRow, zeroValue, run_info hi, hzz]
        rw [hout']
        simp
    · have hu : ∀ x ∈ xs, x.cells.length = i.size := fun x hx => (okE_mem hall hx).1
      rw [← hxl]
      refine .sl true xs _ _ i.size (fun j => out.getD j undef) hu (fun _ => ⟨w.heap.size, 0, rfl, okC_fresh hh rfl hp, fun j u hj => ?_⟩) (fun j u hj => (hcro.2 j u (by simpa [flat] using hj)).mono s1) (Nat.le_refl _) (fun _ => rfl)
      obtain ⟨v, g1, _⟩ := hcro.get (j := j) (u := u) (by simpa [flat] using hj)
      unfold World.cell?
      rw [hp.new]
      simp [g1, Array.getD_eq_getD_getElem?]
end Go.Av

/- The one theorem on operations: what the short step says, the machine does. -/
set_option linter.unusedVariables false
set_option linter.unusedSimpArgs false
namespace Go.Av
open Go
variable {P : Program} {ρ : Rho} {h : AHeap} {w : World} {s : List (Nat × AV)} {a : Act}

theorem VR.mono' {ρ' : Rho} {h' : AHeap} {w' : World} {x : AV} {v : Value} (hv : VR ρ h w x v) (st : Step ρ h w ρ' h' w') : VR ρ' h' w' x v := hv.mono st
theorem Good.v1 (hh : HR P ρ h w) {sm : Sem Value} {x : AV} {val : Value} (h1 : sm.run P w = .ok val w) (h2 : VR ρ h w x val) : Good P ρ h w (do pure (.value (← sm))) (.v x h) :=
  Good.of_val ⟨ρ, w, val, h1, h2, hh, Step.refl _ _ _⟩
theorem Good.rv1 (hh : HR P ρ h w) {sm : Sem Value} {o : Option AV} (H : ∀ x, o = some x → ∃ val, sm.run P w = .ok val w ∧ VR ρ h w x val) : Good P ρ h w (do pure (.value (← sm))) (Av.rv h o) := by
  cases o with
  | none => trivial
  | some x => obtain ⟨val, h1, h2⟩ := H x rfl; exact Good.v1 hh h1 h2

theorem gd_move (hh : HR P ρ h w) (hs : Slots ρ h w s a) (x : Operand) : Good P ρ h w (pure (.value (a.eval x))) (.v (ev s (cx x)) h) :=
  Good.val hh rfl (VR_ev hs x)
theorem gd_pick (hh : HR P ρ h w) (hs : Slots ρ h w s a) (c x y : Operand) : Good P ρ h w (do pure (.value (if ← asBool (a.eval c) then a.eval x else a.eval y))) (astep s h (.pick (cx c) (cx x) (cx y))) := by
  simp only [astep]
  have hc := VR_ev hs c
  split
  · rename_i t ht
    rw [ht] at hc
    cases hv : a.eval c <;> rw [hv] at hc <;> cases hc
    refine Good.val hh (by simp [asBool]; rfl) ?_
    split
    · exact VR_ev hs x
    · exact VR_ev hs y
  · trivial
theorem gd_alloc (hh : HR P ρ h w) {t : TypeId} {z : Value} (hz : (P.info? t).bind (·.zero) = some z) : Good P ρ h w (do pure (.value (← Instr.alloc t true (.tuple #[])))) (astep s h (.alloc (cv z))) := by
  simp only [astep]
  split
  · rename_i hok
    cases hi : P.info? t with
    | none => simp [hi] at hz
    | some i =>
      have hz : i.zero = some z := by simpa [hi] using hz
      obtain ⟨ρ', w', h1, h2, h3, h4⟩ := s_newVar hh t (VR_cv z) hok
      exact Good.of_val ⟨ρ', w', _, by simp [Instr.alloc, zeroValue, run_info hi, hz, h1], h2, h3, h4⟩
  · trivial
theorem gd_box (hh : HR P ρ h w) (hs : Slots ρ h w s a) (t : TypeId) (x : Operand) : Good P ρ h w (do pure (.value (← Instr.box t (a.eval x)))) (astep s h (.box (cx x))) := by
  simp only [astep]
  split
  · rename_i hok
    obtain ⟨ρ', w', h1, h2, h3, h4⟩ := s_newVar hh t (VR_ev hs x) hok
    exact Good.of_val ⟨ρ', w', _, by simp [Instr.box, h1], h2, h3, h4⟩
  · trivial
theorem CellsR_of {x : AV} {v : Value} (hv : VR ρ h w x v) {cs : List AV} (he : x = .agg cs) : ∃ vals, v = .agg vals ∧ CellsR ρ h w cs vals := by
  subst he
  cases hv with
  | agg cs vals hl hv => exact ⟨vals, rfl, hl, hv⟩
theorem cParts_ok {fs : Array Field} : ∀ {l : List (Nat × Operand)} {ps : List (Nat × Nat × Opd)}, cParts P fs l = some ps → ps.length = l.length ∧
    ∀ (j : Nat) (p : Nat × Nat × Opd), ps[j]? = some p → ∃ i x f k, l[j]? = some (i, x) ∧ fs[i]? = some f ∧ P.info? f.type = some k ∧ p = (f.offset, k.size, cx x)
  | [], ps, hp => by simp [cParts] at hp; subst hp; simp
  | (i, x) :: r, ps, hp => by
    unfold cParts at hp
    split at hp
    · cases hp
    · rename_i f hf
      split at hp
      · rename_i k l hk hl
        cases hp
        obtain ⟨h1, h2⟩ := cParts_ok hl
        refine ⟨by simp [h1], fun j p hj => ?_⟩
        cases j with
        | zero => simp at hj; exact ⟨i, x, f, k, by simp, hf, hk, hj.symm⟩
        | succ j => simpa using h2 j p (by simpa using hj)
      · cases hp
theorem mapM_all {fs : List Field} (hall : fs.all (fun f => (P.info? f.type).isSome) = true) : ∃ places, fs.mapM (fun f => (P.info? f.type).map fun i => (f.offset, i.size)) = some places ∧ ∀ (j : Nat) f k, fs[j]? = some f → P.info? f.type = some k → places[j]? = some (f.offset, k.size) := by
  induction fs with
  | nil => exact ⟨[], by simp, by simp⟩
  | cons f fs ih =>
    simp only [List.all_cons, Bool.and_eq_true] at hall
    obtain ⟨places, e1, e2⟩ := ih hall.2
    cases hk : P.info? f.type with
    | none => simp [hk] at hall
    | some k =>
      refine ⟨(f.offset, k.size) :: places, by simp [List.mapM_cons, hk, e1], fun j g k' hj hk' => ?_⟩
      cases j with
      | zero => simp at hj; subst hj; rw [hk] at hk'; cases hk'; simp
      | succ j => simpa using e2 j g k' (by simpa using hj) hk'
theorem zip_map_fst {l : List (Nat × Operand)} {f : Operand → Value} {vs : List Value} (hv : vs = l.map (fun p => f p.2)) : (l.map (·.1)).zip vs = l.map (fun p => (p.1, f p.2)) := by
  subst hv
  induction l with
  | nil => rfl
  | cons p l ih => simp [ih]
theorem gd_fill (hh : HR P ρ h w) (hs : Slots ρ h w s a) {t : TypeId} {l : List AV} {vals0 : Array Value} (hc : CellsR ρ h w l vals0) (place : Nat → Option (Nat × Nat)) (parts : Array (Nat × Operand)) (ps : List (Nat × Nat × Opd)) (hl : ps.length = parts.toList.length)
    (hp : ∀ (j : Nat) (p : Nat × Nat × Opd), ps[j]? = some p → ∃ i x, parts.toList[j]? = some (i, x) ∧ place i = some (p.1, p.2.1) ∧ p.2.2 = cx x) {r : List AV} (hr : afill l (ps.map fun p => (p.1, p.2.1, ev s p.2.2)) = some r) :
    ∃ out, Instr.fill place vals0 (parts.map fun (i, x) => (i, a.eval x)).toList = some out ∧ CellsR ρ h w r out := by
  obtain ⟨vs, hvs⟩ : ∃ vs, vs = parts.toList.map fun p => a.eval p.2 := ⟨_, rfl⟩
  obtain ⟨qs, hqs⟩ : ∃ qs : List (Nat × Nat × AV × Value), qs = (ps.zip vs).map fun p => (p.1.1, p.1.2.1, ev s p.1.2.2, p.2) := ⟨_, rfl⟩
  have hvl : vs.length = ps.length := by rw [hvs, List.length_map, hl]
  have get : ∀ j, (hj : j < ps.length) → (ps.zip vs)[j]? = some (ps[j], vs[j]'(by omega)) := fun j hj => by
    rw [List.getElem?_zip_eq_some]; exact ⟨List.getElem?_eq_getElem hj, List.getElem?_eq_getElem (by omega)⟩
  have q1 : qs.map (fun p => (p.1, p.2.1, p.2.2.1)) = ps.map fun p => (p.1, p.2.1, ev s p.2.2) := by
    rw [hqs, List.map_map]
    apply List.ext_getElem?
    intro j
    simp only [List.getElem?_map]
    by_cases hj : j < ps.length
    · rw [get j hj, List.getElem?_eq_getElem hj]; rfl
    · rw [List.getElem?_eq_none (by rw [List.length_zip]; omega), List.getElem?_eq_none (by omega)]; rfl
  have q2 : qs.map (fun p => p.2.2.2) = vs := by
    rw [hqs, List.map_map]
    apply List.ext_getElem?
    intro j
    simp only [List.getElem?_map]
    by_cases hj : j < ps.length
    · rw [get j hj, List.getElem?_eq_getElem (show j < vs.length by omega)]; rfl
    · rw [List.getElem?_eq_none (by rw [List.length_zip]; omega), List.getElem?_eq_none (by omega)]; rfl
  obtain ⟨out, e1, e2⟩ := fill_ok (ρ := ρ) (h := h) (w := w) place qs (parts.toList.map (·.1)) l vals0 r (by rw [hqs]; simp [hvl, hl]) (by
    intro j p i hj hi
    have hlt : j < ps.length := by have := getElem?_lt hi; rw [List.length_map] at this; omega
    rw [hqs, List.getElem?_map, get j hlt] at hj
    simp at hj
    subst hj
    obtain ⟨i', x, g1, g2, g3⟩ := hp j _ (List.getElem?_eq_getElem hlt)
    rw [List.getElem?_map, g1] at hi
    simp at hi
    subst hi
    refine ⟨g2, ?_⟩
    dsimp only
    rw [g3]
    have : vs[j]? = some (a.eval x) := by rw [hvs, List.getElem?_map, g1]; rfl
    rw [List.getElem?_eq_getElem (by omega)] at this
    rw [Option.some.inj this]
    exact VR_ev hs x) hc (by rw [q1]; exact hr)
  refine ⟨out, ?_, e2⟩
  rw [q2] at e1
  rw [← e1, zip_map_fst hvs, Array.toList_map]
theorem gd_build (hh : HR P ρ h w) (hs : Slots ρ h w s a) (o : Oper) (t : TypeId) (parts : Array (Nat × Operand)) (ho : o.op = .build t parts) : Good P ρ h w (do pure (.value (← Instr.build t (parts.map fun (i, x) => (i, a.eval x))))) (astep s h (cOp P o)) := by
  simp only [cOp, ho]
  split
  · rename_i fs z hu hz
    split
    · rename_i l ps hl hps
      split
      · rename_i hall
        simp only [astep]
        split
        · rename_i cs hcs
          cases hi : P.info? t with
          | none => simp [hi] at hz
          | some i =>
            have hz : i.zero = some z := by simpa [hi] using hz
            obtain ⟨vals0, e0, hc0⟩ := CellsR_of (ρ := ρ) (h := h) (w := w) (VR_cv z) hl
            obtain ⟨places, e1, e2⟩ := mapM_all hall
            obtain ⟨h1, h2⟩ := cParts_ok hps
            obtain ⟨out, g1, g2⟩ := gd_fill hh hs (t := t) hc0 (places.toArray[·]?) parts ps h1 (fun j p hj => by
              obtain ⟨i', x, f, k, f1, f2, f3, f4⟩ := h2 j p hj
              subst f4
              exact ⟨i', x, f1, by simpa using e2 i' f k (by simpa using f2) f3, rfl⟩) hcs
            refine Good.v1 hh (run_build w t _ out ?_) (.agg _ _ g2.1 g2.2)
            unfold Program.built
            simp only [hi, hu, hz, e1]
            rw [e0]
            exact g1
        · trivial
      · trivial
    · trivial
  · rename_i n e z hu hz
    split
    · rename_i l i hl hi
      simp only [astep]
      split
      · rename_i cs hcs
        cases hti : P.info? t with
        | none => simp [hti] at hz
        | some ti =>
          have hz : ti.zero = some z := by simpa [hti] using hz
          obtain ⟨vals0, e0, hc0⟩ := CellsR_of (ρ := ρ) (h := h) (w := w) (VR_cv z) hl
          obtain ⟨out, g1, g2⟩ := gd_fill hh hs (t := t) hc0 (fun k => some (k * i.size, i.size)) parts (parts.toList.map fun p => (p.1 * i.size, i.size, cx p.2)) (by simp) (fun j p hj => by
            rw [List.getElem?_map] at hj
            cases hpj : parts.toList[j]? with
            | none => simp [hpj] at hj
            | some q => simp [hpj] at hj; subst hj; exact ⟨q.1, q.2, rfl, rfl, rfl⟩) hcs
          refine Good.v1 hh (run_build w t _ out ?_) (.agg _ _ g2.1 g2.2)
          unfold Program.built
          simp only [hti, hu, hz, hi]
          rw [e0]
          exact g1
      · trivial
    · trivial
  · trivial
theorem gd_load (hh : HR P ρ h w) (hs : Slots ρ h w s a) {t : TypeId} {n : Option Nat} (hk : ldk P t = some n) (x : Operand) : Good P ρ h w (do pure (.value (← Instr.loadAt t (a.eval x)))) (astep s h (.ld n (cx x))) := by
  simp only [astep]
  split
  · rename_i cs hcs
    exact Good.rv1 hh fun r hr => s_load hh hk (VR_ev hs x) hcs hr
  · trivial
theorem gd_store (hh : HR P ρ h w) (hs : Slots ρ h w s a) {t : TypeId} {i : TypeInfo} (hi : P.info? t = some i) (x y : Operand) : Good P ρ h w (do Instr.storeAt t (a.eval x) (a.eval y); pure .skip) (astep s h (.st i.size (cx x) (cx y))) := by
  simp only [astep]
  split
  · rename_i h' hst
    obtain ⟨w', h1, h2, h3⟩ := s_store hh hi (VR_ev hs x) (VR_ev hs y) hst
    exact ⟨ρ, w', by simp [h1], h2, h3⟩
  · trivial
theorem gd_nil (hh : HR P ρ h w) (hs : Slots ρ h w s a) (o : Oper) (x : Operand) (ho : o.op = .nilCheck x) : Good P ρ h w (execOp a.eval o) (astep s h (.nilchk (cx x))) := by
  simp only [astep, execOp, ho]
  have hv := VR_ev hs x
  generalize ev s (cx x) = X at hv ⊢
  generalize a.eval x = V at hv ⊢
  have hv' := hv
  cases hv with
  | fn f b c fv cvs h1 h2 h3 h4 => cases f <;> first | trivial | exact Good.val hh rfl hv'
  | rp => exact Good.val hh rfl hv'
  | cp => exact Good.val hh rfl hv'
  | yld => exact Good.val hh rfl hv'
  | _ => trivial
theorem eqGuard_scalar (op : BinOp) (t : TypeId) (x y : Operand) (v u : Value) (h1 : ∀ cs, v ≠ .agg cs) (h2 : v ≠ .nilIface) : (eqGuard op t x y v u).run P w = .ok () w := by
  cases v <;> first | (exact absurd rfl (h1 _)) | (exact absurd rfl h2) | (unfold eqGuard; simp only [Sem.run_ite, Sem.run_pure]; split <;> rfl)
theorem gd_bin (hh : HR P ρ h w) (hs : Slots ρ h w s a) (op : BinOp) (t : TypeId) (x y : Operand) : Good P ρ h w (do pure (.value (← (do eqGuard op t x y (a.eval x) (a.eval y); binOp op t (a.eval x) (a.eval y))))) (astep s h (.bin op (cx x) (cx y))) := by
  simp only [astep]
  refine Good.rv1 hh fun r hr => ?_
  have hx := VR_ev hs x
  have hy := VR_ev hs y
  generalize ev s (cx x) = X at hx hr
  generalize ev s (cx y) = Y at hy hr
  generalize a.eval x = vx at hx
  generalize a.eval y = vy at hy
  cases hx <;> first | (unfold abin at hr; cases hr; done) | skip
  · cases hy <;> first | (unfold abin at hr; cases hr; done) | skip
    obtain ⟨val, h1, h2⟩ := g_binInt (P := P) (ρ := ρ) (h := h) (w := w) hr t
    exact ⟨val, by simp [eqGuard_scalar, h1], h2⟩
  · cases hy <;> first | (unfold abin at hr; cases hr; done) | skip
    obtain ⟨val, h1, h2⟩ := g_binStr (P := P) (ρ := ρ) (h := h) (w := w) hr t
    exact ⟨val, by simp [eqGuard_scalar, h1], h2⟩
theorem eqPtr1 (d : Nat) {t e : TypeId} (hu : P.underlying t = some (.pointer e)) (B : Option Addr) : (Op.equalIn (d + 1) t (.pointer none) (.pointer B)).run P w = .ok B.isNone w := by
  cases B <;> simp [Op.equalIn, run_underlying hu]
theorem eqPtr2 (d : Nat) {t e : TypeId} (hu : P.underlying t = some (.pointer e)) (b : Addr) : (Op.equalIn (d + 1) t (.pointer (some b)) (.pointer none)).run P w = .ok false w := by
  simp [Op.equalIn, run_underlying hu]
theorem neg_bool (b neg : Bool) : (b != neg) = if neg then !b else b := by cases b <;> cases neg <;> rfl
theorem gd_binOp (hh : HR P ρ h w) (hs : Slots ρ h w s a) (op : BinOp) (t : TypeId) (x y : Operand) : Good P ρ h w (do pure (.value (← (do eqGuard op t x y (a.eval x) (a.eval y); binOp op t (a.eval x) (a.eval y))))) (astep s h (cBin P op t (cx x) (cx y))) := by
  have plain : ∀ op, Good P ρ h w (do pure (.value (← (do eqGuard op t x y (a.eval x) (a.eval y); binOp op t (a.eval x) (a.eval y))))) (astep s h (.bin op (cx x) (cx y))) := fun op => gd_bin hh hs op t x y
  have equal : ∀ (op : BinOp), (op = .eql ∨ op = .neq) → ∀ (vx vy : Value) (b : Bool), (∀ k n, vx ≠ .int k n) → (∀ q, vx ≠ .string q) → (∀ k n, vx ≠ .float k n) → (∀ k n m, vx ≠ .complex k n m) → (Op.equal t vx vy).run P w = .ok b w → (binOp op t vx vy).run P w = .ok (.bool (b != (op == .neq))) w := by
    have q1 : (BinOp.eql == BinOp.neq) = false := rfl
    have q2 : (BinOp.neq == BinOp.neq) = true := rfl
    rintro op (rfl | rfl) vx vy b h1 h2 h3 h4 he
    · cases vx <;> first | (exact absurd rfl (h1 _ _)) | (exact absurd rfl (h2 _)) | (exact absurd rfl (h3 _ _)) | (exact absurd rfl (h4 _ _ _)) | (simp [binOp, he, q1, q2]; done) | (cases vy <;> simp [binOp, he, q1, q2])
    · cases vx <;> first | (exact absurd rfl (h1 _ _)) | (exact absurd rfl (h2 _)) | (exact absurd rfl (h3 _ _)) | (exact absurd rfl (h4 _ _ _)) | (simp [binOp, he, q1, q2]; done) | (cases vy <;> simp [binOp, he, q1, q2])
  have main : (op = .eql ∨ op = .neq) → Good P ρ h w (do pure (.value (← (do eqGuard op t x y (a.eval x) (a.eval y); binOp op t (a.eval x) (a.eval y)))))
      (astep s h (match P.underlying t with
    | some (.struct _) => match eqN P 6 t with
      | some n => if P.eqGuardType P.depth t then .bad else .eqs (op == .neq) n (cx x) (cx y)
      | none => .bad
    | some .bool => .eqb (op == .neq) (cx x) (cx y)
    | some (.pointer _) => .eqp (op == .neq) (cx x) (cx y)
    | some (.int _) | some .string => .bin op (cx x) (cx y)
    | _ => .bad)) := by
    intro hop
    have hx := VR_ev hs x
    have hy := VR_ev hs y
    split
    · rename_i fs hu
      split
      · rename_i ks hk
        split
        · trivial
        · rename_i hgt
          simp only [astep]
          split
          · rename_i xs ys ex ey
            split
            · rename_i b hb
              obtain ⟨cx', e1, c1⟩ := CellsR_of hx ex
              obtain ⟨cy', e2, c2⟩ := CellsR_of hy ey
              have heq : (Op.equal t (.agg cx') (.agg cy')).run P w = .ok b w := g_eqN 6 t ks hk Op.maxDepth (by decide) xs ys _ _ b hb (.inr ⟨cx', cy', .inl ⟨fs, hu⟩, rfl, rfl, c1, c2⟩)
              have hgu : (eqGuard op t x y (.agg cx') (.agg cy')).run P w = .ok () w := by
                have hgf : P.eqGuardType P.depth t = false := by simpa using hgt
                rcases hop with rfl | rfl <;> simp [eqGuard, hgf]
              refine Good.v1 hh (val := .bool (b != (op == .neq))) ?_ (.bool _)
              rw [e1, e2]
              simp only [Sem.run_bind, hgu, Result.andThen_ok]
              exact equal op hop _ _ b (by simp) (by simp) (by simp) (by simp) heq
            · trivial
          · trivial
      · trivial
    · rename_i hu
      simp only [astep]
      split
      · rename_i b c eb ec
        rw [eb] at hx; rw [ec] at hy
        cases hvx : a.eval x <;> rw [hvx] at hx <;> cases hx
        cases hvy : a.eval y <;> rw [hvy] at hy <;> cases hy
        have heq : (Op.equal t (.bool b) (.bool c)).run P w = .ok (b == c) w := run_equalIn_bool' w 9999 t b c hu
        refine Good.v1 hh (val := .bool ((b == c) != (op == .neq))) ?_ (.bool _)
        simp only [Sem.run_bind, eqGuard_scalar op t x y (.bool b) (.bool c) (by simp) (by simp), Result.andThen_ok]
        exact equal op hop _ _ _ (by simp) (by simp) (by simp) (by simp) heq
      · trivial
    · rename_i e hu
      simp only [astep]
      split
      · rename_i b hb
        have hp : ∃ A B, a.eval x = .pointer A ∧ a.eval y = .pointer B ∧ (Op.equal t (.pointer A) (.pointer B)).run P w = .ok b w := by
          unfold aeqp at hb
          split at hb <;> cases hb
          · rename_i e1 e2
            rw [e1] at hx; rw [e2] at hy
            cases hvx : a.eval x <;> rw [hvx] at hx <;> cases hx
            cases hvy : a.eval y <;> rw [hvy] at hy <;> cases hy
            exact ⟨none, none, rfl, rfl, eqPtr1 9999 hu none⟩
          · rename_i e1 e2
            rw [e1] at hx; rw [e2] at hy
            cases hvx : a.eval x <;> rw [hvx] at hx <;> cases hx
            cases hvy : a.eval y <;> rw [hvy] at hy <;> cases hy
            exact ⟨none, _, rfl, rfl, eqPtr1 9999 hu (some _)⟩
          · rename_i e1 e2
            rw [e1] at hx; rw [e2] at hy
            cases hvx : a.eval x <;> rw [hvx] at hx <;> cases hx
            cases hvy : a.eval y <;> rw [hvy] at hy <;> cases hy
            exact ⟨_, none, rfl, rfl, eqPtr2 9999 hu _⟩
        obtain ⟨A, B, e1, e2, heq⟩ := hp
        refine Good.v1 hh (val := .bool (b != (op == .neq))) ?_ (.bool _)
        rw [e1, e2]
        simp only [Sem.run_bind, eqGuard_scalar op t x y (.pointer A) (.pointer B) (by simp) (by simp), Result.andThen_ok]
        exact equal op hop _ _ _ (by simp) (by simp) (by simp) (by simp) heq
      · trivial
    · exact plain op
    · exact plain op
    · trivial
  cases op <;> first | exact plain _ | exact main (.inl rfl) | exact main (.inr rfl)
end Go.Av

/- The one theorem on operations: what the short step says, the machine does. -/
set_option linter.unusedVariables false
set_option linter.unusedSimpArgs false
namespace Go.Av
open Go
variable {P : Program} {ρ : Rho} {h : AHeap} {w : World} {s : List (Nat × AV)} {a : Act}

/-- An operand that is of one make is so on the machine. -/
theorem inv_int {x : Operand} (hs : Slots ρ h w s a) {k : IntKind} {n : Int} (he : ev s (cx x) = .int k n) : a.eval x = .int k n := by
  have hv := VR_ev hs x
  rw [he] at hv
  cases hvx : a.eval x <;> rw [hvx] at hv <;> cases hv
  rfl
theorem inv_bool {x : Operand} (hs : Slots ρ h w s a) {b : Bool} (he : ev s (cx x) = .bool b) : a.eval x = .bool b := by
  have hv := VR_ev hs x
  rw [he] at hv
  cases hvx : a.eval x <;> rw [hvx] at hv <;> cases hv
  rfl
theorem inv_str {x : Operand} (hs : Slots ρ h w s a) {b : ByteArray} (he : ev s (cx x) = .str b) : a.eval x = .string b := by
  have hv := VR_ev hs x
  rw [he] at hv
  cases hvx : a.eval x <;> rw [hvx] at hv <;> cases hv
  rfl
theorem gd_unOp (hh : HR P ρ h w) (hs : Slots ρ h w s a) (x : Operand) : Good P ρ h w (do pure (.value (← Op.unary .not (a.eval x)))) (astep s h (.not (cx x))) ∧ Good P ρ h w (do pure (.value (← Op.unary .neg (a.eval x)))) (astep s h (.neg (cx x))) := by
  constructor
  · simp only [astep]
    split
    · rename_i b he
      rw [inv_bool hs he]
      exact Good.v1 hh rfl (.bool _)
    · trivial
  · simp only [astep]
    split
    · rename_i k n he
      rw [inv_int hs he]
      exact Good.v1 hh rfl (.int _ _)
    · trivial
theorem u8s_ok : ∀ {ys : List AV} {l : List Int}, u8s ys = some l → l.length = ys.length ∧ ∀ (j : Nat) (y : AV), ys[j]? = some y → y = .int .u8 (l.getD j 0)
  | [], l, hl => by simp [u8s] at hl; subst hl; simp
  | y :: r, l, hl => by
    unfold u8s at hl
    split at hl
    · rename_i e; cases e
    · rename_i n r' e
      cases e
      cases hr : u8s r with
      | none => simp [hr] at hl
      | some l' =>
        simp [hr] at hl
        subst hl
        obtain ⟨h1, h2⟩ := u8s_ok hr
        refine ⟨by simp [h1], fun j y hj => ?_⟩
        cases j with
        | zero => simp at hj; simp [hj]
        | succ j => simpa using h2 j y (by simpa using hj)
    · cases hl
theorem gd_conv (hh : HR P ρ h w) (hs : Slots ρ h w s a) (t d : TypeId) (x : Operand) : Good P ρ h w (do pure (.value (← convert t d (a.eval x)))) (astep s h (cConv P t d (cx x))) := by
  unfold cConv
  split
  · rename_i k0 k h1 h2
    simp only [astep]
    split
    · rename_i k' n he
      rw [inv_int hs he]
      refine Good.v1 hh (val := .int k (k.wrap n)) ?_ (.int _ _)
      simp [convert, run_underlying h1, run_underlying h2, Conv.intToInt]
    · trivial
  · rename_i e h1 h2
    split
    · rename_i h3
      simp only [astep]
      split
      · rename_i ys hy
        split
        · rename_i l hl
          obtain ⟨A, c, sz, hv, hc, hu, hcl⟩ := elems_cells hh (VR_ev hs x) hy
          obtain ⟨l1, l2⟩ := u8s_ok hl
          rw [hv]
          refine Good.v1 hh (val := .string (strOfNums l)) ?_ (.str _)
          cases A with
          | none =>
            have : ys = [] := by
              rcases ys with _ | ⟨y, ys⟩
              · rfl
              · obtain ⟨b, o, e', _⟩ := hcl (by simp); cases e'
            subst this
            have : l = [] := List.eq_nil_of_length_eq_zero (by simpa using l1)
            subst this
            simp [convert, run_underlying h1, run_underlying h2, run_underlying h3, Conv.bytesToString, strOfNums]
            rfl
          | some ad =>
            rcases ys with _ | ⟨y, ys⟩
            · have : l = [] := List.eq_nil_of_length_eq_zero (by simpa using l1)
              subst this
              simp [convert, run_underlying h1, run_underlying h2, run_underlying h3, Conv.bytesToString, strOfNums, loadCells, loadCellsFrom]
              rfl
            · obtain ⟨b, o, e', hcc⟩ := hcl (by simp)
              cases e'
              refine run_convert_bytes_arg w t e h1 h3 b o _ c l l1 (fun j hj => ?_) d h2
              have hyj : (y :: ys)[j]? = some (.int .u8 (l.getD j 0)) := by
                have := List.getElem?_eq_getElem (l := y :: ys) (i := j) (by omega)
                rw [this, l2 j _ this]
              have hf : (flat (y :: ys))[j]? = some (.int .u8 (l.getD j 0)) := by
                have hu1 : ∀ z ∈ y :: ys, z.cells.length = 1 := by
                  intro z hz
                  obtain ⟨i, hi⟩ := List.getElem?_of_mem hz
                  rw [l2 i z hi]; rfl
                have := flat_get hu1 j _ hyj 0 (by omega)
                simpa [AV.cells] using this
              obtain ⟨cc, g1, g2⟩ := hcc j _ hf
              cases g2
              exact g1
        · trivial
      · trivial
    · trivial
  · trivial
theorem gd_slcS (hh : HR P ρ h w) (hs : Slots ρ h w s a) {t : TypeId} (ht : P.underlying t = some .string) (x : Operand) (lo hi : Option Operand) : Good P ρ h w (do pure (.value (← Instr.sliceAt t (a.eval x) (lo.map a.eval) (hi.map a.eval) none))) (astep s h (.slcS (cx x) (lo.map cx) (hi.map cx))) := by
  simp only [astep]
  split
  · rename_i b he
    rw [inv_str hs he]
    split
    · rename_i l e hl he'
      split
      · rename_i hb
        have hbd := run_bounds (P := P) (w := w) false b.size b.size (lo.map a.eval) (hi.map a.eval) none l e b.size (optInt_ok hs lo hl) (optInt_ok hs hi he') rfl hb.1 hb.2.1 hb.2.2 (Int.le_refl _)
        refine Good.v1 hh (val := .string (b.extract l.toNat e.toNat)) ?_ (.str _)
        simp [Instr.sliceAt, Instr.slice, run_underlying ht, hbd]
      · trivial
    · trivial
  · trivial
theorem gd_slc (hh : HR P ρ h w) (hs : Slots ρ h w s a) {t e : TypeId} {i : TypeInfo} (ht : P.underlying t = some (.slice e)) (hi : P.info? e = some i) (x : Operand) (lo hi' mx : Option Operand) :
    Good P ρ h w (do pure (.value (← Instr.sliceAt t (a.eval x) (lo.map a.eval) (hi'.map a.eval) (mx.map a.eval)))) (astep s h (.slc i.size (cx x) (lo.map cx) (hi'.map cx) (mx.map cx))) := by
  simp only [astep]
  cases hr : aslc h s i.size (ev s (cx x)) (lo.map cx) (hi'.map cx) (mx.map cx) with
  | v r h' =>
    obtain ⟨val, h1, h2, h3⟩ := g_slc hh hs ht hi x lo hi' mx hr
    subst h3
    exact Good.v1 hh h1 h2
  | fail => trivial
  | _ =>
    exfalso
    unfold aslc at hr
    repeat' split at hr
    all_goals cases hr
theorem gd_faddr (hh : HR P ρ h w) (hs : Slots ρ h w s a) {t : TypeId} {fs : Array Field} {f : Nat} {g : Field} {i : TypeInfo} (ht : P.underlying t = some (.struct fs)) (hf : fs[f]? = some g) (hi : P.info? g.type = some i) (hsz : ¬ i.size = 0) (x : Operand) :
    Good P ρ h w (do pure (.value (← Instr.fieldAt t (a.eval x) f))) (astep s h (.faddr g.offset (cx x))) := by
  have run : ∀ b o, (Instr.fieldAt t (.pointer (some ⟨b, o, none⟩)) f).run P w = .ok (.pointer (some ⟨b, o + g.offset, none⟩)) w := by
    intro b o
    simp [Instr.fieldAt, run_underlying ht, hf, Instr.sureAddr, fieldPlace, run_size hi, hsz, Addr.add_lit]
  simp only [astep]
  have hv := VR_ev hs x
  split
  · rename_i id ver idx off he
    rw [he] at hv
    cases hvx : a.eval x <;> rw [hvx] at hv <;> first | (cases hv; done) | skip
    rename_i ad
    cases ad with
    | none => cases hv
    | some ad =>
      obtain ⟨b, o, sp⟩ := ad
      cases hv with
      | rp _ _ _ _ _ hid hc =>
        cases sp with
        | none =>
          refine Good.v1 hh (run b o) (.rp _ _ _ _ _ hid fun k sz es hk => ?_)
          obtain ⟨c1, c2⟩ := hc k sz es hk
          refine ⟨c1, fun e => ?_⟩
          have := c2 e
          injection this with e1 e2
          rw [e1, e2, Nat.add_assoc]
        | some sp =>
          refine Good.v1 hh (val := .pointer (some ((⟨b, o, some sp⟩ : Addr).add g.offset))) (by simp [Instr.fieldAt, run_underlying ht, hf, Instr.sureAddr, fieldPlace, run_size hi, hsz]) (.rp _ _ _ _ _ hid fun k sz es hk => ?_)
          obtain ⟨c1, c2⟩ := hc k sz es hk
          refine ⟨c1, fun e => ?_⟩
          have := c2 e
          injection this with e1 e2 e3
          cases e3
  · rename_i e off he
    rw [he] at hv
    cases hvx : a.eval x <;> rw [hvx] at hv <;> first | (cases hv; done) | skip
    cases hv with
    | cp _ _ b o vals hst hc hvv =>
      refine Good.v1 hh (run b (o + off)) ?_
      rw [Nat.add_assoc]
      exact .cp _ _ b o vals hst hc hvv
  · trivial
theorem gd_fld (hh : HR P ρ h w) (hs : Slots ρ h w s a) {t : TypeId} {fs : Array Field} {f : Nat} {g : Field} {n : Option Nat} (ht : P.underlying t = some (.struct fs)) (hf : fs[f]? = some g) (hk : ldk P g.type = some n) (x : Operand) :
    Good P ρ h w (do pure (.value (← Instr.field t (a.eval x) f))) (astep s h (.fld g.offset n (cx x))) := by
  simp only [astep]
  split
  · rename_i cs he
    obtain ⟨vals, e1, hc⟩ := CellsR_of (VR_ev hs x) he
    refine Good.rv1 hh fun r hr => ?_
    obtain ⟨val, h1, h2⟩ := g_take hk hc hr
    exact ⟨val, by rw [e1]; simp [Instr.field, run_underlying ht, hf, asAgg, h1], h2⟩
  · trivial
theorem gd_iaddr (hh : HR P ρ h w) (hs : Slots ρ h w s a) {t e : TypeId} {i : TypeInfo} (ht : P.underlying t = some (.slice e)) (hi : P.info? e = some i) (x y : Operand) :
    Good P ρ h w (do pure (.value (← Instr.indexAt t (a.eval x) (a.eval y)))) (astep s h (.iaddr i.size (cx x) (cx y))) := by
  have run : ∀ (k : IntKind) (n : Int) (b o len c : Nat), 0 ≤ n → n < len → (Instr.indexAt t (.slice (some ⟨b, o, none⟩) len c) (.int k n)).run P w = .ok (.pointer (some ⟨b, o + n.toNat * i.size, none⟩)) w := by
    intro k n b o len c h0 h1
    simp [Instr.indexAt, asIntOf, run_underlying ht, h0, h1, run_size hi, Addr.add_lit]
  simp only [astep]
  have hv := VR_ev hs x
  split
  · rename_i k n hn
    rw [inv_int hs hn]
    split
    · rename_i h0
      split
      · rename_i t' xs he
        rw [he] at hv
        cases hvx : a.eval x <;> rw [hvx] at hv <;> first | (cases hv; done) | skip
        cases hv with
        | sl tight xs A c sz vals hxu hxa hxv hxc hxt =>
          split
          · rename_i el hel
            split
            · rename_i hsz
              have hlt := getElem?_lt hel
              obtain ⟨b, o, rfl, hst, hcl⟩ := hxa (by rintro rfl; simp at hlt)
              have hsz2 : i.size = sz := by rw [← hsz]; exact hxu el (List.mem_of_getElem? hel)
              refine Good.v1 hh (run k n b o xs.length _ h0 (by omega)) ?_
              have := VR.cp (ρ := ρ) (h := h) (w := w) el 0 b (o + n.toNat * i.size) (fun j => vals (n.toNat * i.size + j)) hst (fun j u hj => by
                have hj2 := getElem?_lt hj
                have := flat_get hxu n.toNat el hel j (by omega)
                rw [Nat.add_assoc]
                exact hcl _ u (by rw [hsz2, this]; exact hj)) (fun j u hj => by
                have hj2 := getElem?_lt hj
                have := flat_get hxu n.toNat el hel j (by omega)
                exact hxv _ u (by rw [hsz2, this]; exact hj))
              simpa using this
            · trivial
          · trivial
      · rename_i id ver idx len he
        rw [he] at hv
        cases hvx : a.eval x <;> rw [hvx] at hv <;> first | (cases hv; done) | skip
        cases hv with
        | rf _ _ _ _ A c hid hl hc =>
          split
          · rename_i sz' es hrw
            split
            · rename_i hcond
              have hrow := rowAt_eq hrw
              obtain ⟨g1, g2, g3⟩ := (hc _ _ _ hrow).2 rfl
              have hA := g1 (by omega)
              subst hA
              refine Good.v1 hh (run k n _ _ len _ h0 (by omega)) (.rp _ _ _ _ _ hid fun k' sz es' hk => ?_)
              rw [hrow] at hk; cases hk
              refine ⟨Nat.le_refl _, fun _ => ?_⟩
              rw [hcond.2, Nat.add_mul]; rfl
            · trivial
          · trivial
      · trivial
    · trivial
  · trivial
theorem gd_iaddrA (hh : HR P ρ h w) (hs : Slots ρ h w s a) {t e : TypeId} {len : Nat} {i : TypeInfo} (ht : P.underlying t = some (.array len e)) (hi : P.info? e = some i) (x y : Operand) :
    Good P ρ h w (do pure (.value (← Instr.indexAt t (a.eval x) (a.eval y)))) (astep s h (.iaddrA len i.size (cx x) (cx y))) := by
  have run : ∀ (k : IntKind) (n : Int) (ad : Addr), 0 ≤ n → n < len → (Instr.indexAt t (.pointer (some ad)) (.int k n)).run P w = .ok (.pointer (some (ad.add (n.toNat * i.size)))) w := by
    intro k n ad h0 h1
    simp [Instr.indexAt, asIntOf, run_underlying ht, h0, h1, run_size hi, Instr.sureAddr]
  simp only [astep]
  have hv := VR_ev hs x
  split
  · rename_i k n hn
    rw [inv_int hs hn]
    split
    · rename_i h0
      split
      · rename_i id ver idx off he
        rw [he] at hv
        cases hvx : a.eval x <;> rw [hvx] at hv <;> first | (cases hv; done) | skip
        rename_i ad
        cases ad with
        | none => cases hv
        | some ad =>
          cases hv with
          | rp _ _ _ _ _ hid hc =>
            refine Good.v1 hh (run k n ad h0.1 h0.2) (.rp _ _ _ _ _ hid fun k sz es hk => ?_)
            obtain ⟨c1, c2⟩ := hc k sz es hk
            refine ⟨c1, fun e => ?_⟩
            rw [c2 e, Addr.add_lit, Nat.add_assoc]
      · rename_i e' off he
        rw [he] at hv
        cases hvx : a.eval x <;> rw [hvx] at hv <;> first | (cases hv; done) | skip
        cases hv with
        | cp _ _ b o vals hst hc hvv =>
          refine Good.v1 hh (run k n _ h0.1 h0.2) ?_
          rw [Addr.add_lit, Nat.add_assoc]
          exact .cp _ _ b o vals hst hc hvv
      · trivial
    · trivial
  · trivial
theorem gd_idxA (hh : HR P ρ h w) (hs : Slots ρ h w s a) {t e : TypeId} {len : Nat} {i : TypeInfo} {n : Option Nat} (ht : P.underlying t = some (.array len e)) (hi : P.info? e = some i) (hk : ldk P e = some n) (x y : Operand) :
    Good P ρ h w (do pure (.value (← Instr.index t (a.eval x) (a.eval y)))) (astep s h (.idxA len i.size n (cx x) (cx y))) := by
  simp only [astep]
  split
  · rename_i k j hj
    rw [inv_int hs hj]
    split
    · rename_i h0
      split
      · rename_i cs he
        obtain ⟨vals, e1, hc⟩ := CellsR_of (VR_ev hs x) he
        refine Good.rv1 hh fun r hr => ?_
        obtain ⟨val, h1, h2⟩ := g_take hk hc hr
        exact ⟨val, by rw [e1]; simp [Instr.index, asIntOf, run_underlying ht, h0.1, h0.2, run_size hi, h1], h2⟩
      · trivial
    · trivial
  · trivial
end Go.Av

/- The one theorem on operations: what the short step says, the machine does. -/
set_option linter.unusedVariables false
set_option linter.unusedSimpArgs false
namespace Go.Av
open Go
variable {P : Program} {ρ : Rho} {h : AHeap} {w : World} {s : List (Nat × AV)} {a : Act}

theorem gd_mkmap (hh : HR P ρ h w) (t : TypeId) : Good P ρ h w (do pure (.value (← Instr.makeMap t none))) (astep s h .mkmap) := by
  have hp := Plus.alloc w (.map #[] 0)
  have st := Step.push hh (.map []) hp
  refine Good.of_val ⟨_, w.alloc (.map #[] 0), .map (some w.heap.size), by simp [Instr.makeMap], .mp _ _ (by simp) (fun es he => by rw [at_same]), HR.push hh _ hp ⟨#[], 0, hp.new, ⟨rfl, rfl⟩, by simp⟩, st⟩
theorem madeCells_get (z : Array Value) (n k : Nat) (hz : 0 < z.size) (hk : k < n) : (madeCells z n)[k]? = z[k % z.size]? := by
  have : k % z.size < z.size := Nat.mod_lt _ hz
  simp [madeCells, hk, Array.getElem!_eq_getD, Array.getElem?_eq_getElem this, this]
theorem gd_mksl (hh : HR P ρ h w) (hs : Slots ρ h w s a) {t e : TypeId} {i : TypeInfo} {z : Value} (ht : P.underlying t = some (.slice e)) (hi : P.info? e = some i) (hz : i.zero = some z) (hzs : z.cells.size = i.size) (hsz : 0 < i.size) (hby : 0 < i.bytes) (x y : Operand) (hxy : opEq x y = true) :
    Good P ρ h w (do pure (.value (← Instr.makeSlice t (a.eval x) (a.eval y)))) (astep s h (.mksl i.size i.bytes (cv z) (cx x))) := by
  have hye : a.eval x = a.eval y := opEq_eq hxy a.eval (fun v => rfl)
  simp only [astep]
  split
  · rename_i n hn
    rw [← hye, inv_int hs hn]
    split
    · rename_i hcond
      obtain ⟨h0, h1, hok⟩ := hcond
      have hok' : (cv z).cells.length = i.size ∧ okC (cv z).cells = true := by simpa [okE] using hok
      have hb63 : n ≤ 9223372036854775807 := by
        have : n * 1 ≤ n * (i.bytes : Int) := Int.mul_le_mul_of_nonneg_left (by omega) h0
        unfold most at h1; omega
      have hrun := run_make (P := P) w t e i z ht hi hz .i64 .i64 n n h0 (Int.le_refl _) (by rw [Int.mul_comm]; unfold most at h1; omega) hb63
      have hp := Plus.alloc w (.cells (madeCells z.cells (n.toNat * i.size)) e)
      have st := Step.push hh (.row 0 i.size (List.replicate n.toNat (cv z))) hp
      have hu : ∀ x ∈ List.replicate n.toNat (cv z), x.cells.length = i.size := fun x hx => by rw [(List.mem_replicate.1 hx).2]; exact hok'.1
      obtain ⟨z1, z2, z3⟩ := (VR_cv (ρ := ρ) (h := h) (w := w) z).cells hok'.2
      refine Good.of_val ⟨_, _, _, hrun, ?_, HR.push hh _ hp ⟨_, e, hp.new, hu, by simp [size_madeCells], fun x hx => by rw [(List.mem_replicate.1 hx).2]; exact hok'.2, ?_⟩, st⟩
      · refine .rf _ _ _ _ _ _ (by simp) (Nat.le_refl _) ?_
        intro k sz' es' hke
        rw [push_last] at hke
        cases hke
        refine ⟨Nat.le_refl _, fun _ => ⟨fun _ => by rw [at_same]; simp, by simp, ?_⟩⟩
        rw [at_same]
        unfold blockSize
        rw [hp.new]
        simp [size_madeCells]
      · intro k u hk
        obtain ⟨q, el, j, e1, e2, e3, e4⟩ := flat_mem hu k u hk
        have hel : el = cv z := by
          have := List.mem_of_getElem? e1
          exact (List.mem_replicate.1 this).2
        subst hel
        have hq : q < n.toNat := by have := getElem?_lt e1; simpa using this
        have hkl : k < n.toNat * i.size := by
          have : (q + 1) * i.size ≤ n.toNat * i.size := Nat.mul_le_mul_right _ hq
          rw [Nat.add_mul] at this; omega
        obtain ⟨c, g1, g2⟩ := z3 j u e2
        refine ⟨c, ?_, g2.mono st⟩
        rw [madeCells_get _ _ _ (by omega) hkl, hzs, e3, Nat.add_comm, Nat.add_mul_mod_self_right, Nat.mod_eq_of_lt e4]
        exact g1
    · trivial
  · trivial
theorem getObj_map' {r : Nat} {es : Array MapEntry} {clock : Nat} (hb : w.heap[r]? = some (.map es clock)) : (getObj r).run P w = .ok (.map es clock) w := by simp [getObj, Sem.run, hb]

theorem look_run {t kt e : TypeId} {k' : IntKind} {i : TypeInfo} {z : Value} (ht : P.underlying t = some (.map kt e)) (hk : P.underlying kt = some (.int k')) (hi : P.info? e = some i) (hz : i.zero = some z) (kk : IntKind) (n : Int) (ok : Bool) :
    (Instr.lookup t (.map none) (.int kk n) ok).run P w = .ok (if ok then .tuple #[z, .bool false] else z) w ∧
    ∀ r ces clock, w.heap[r]? = some (.map ces clock) → ∀ res, Instr.findNow (.int kk) (.int kk n) ces.toList 0 = some res → (Instr.lookup t (.map (some r)) (.int kk n) ok).run P w = .ok (match res with
      | some (_, v) => if ok then .tuple #[v, .bool true] else v
      | none => if ok then .tuple #[z, .bool false] else z) w := by
  have hzv : (zeroValue e).run P w = .ok z w := by simp [zeroValue, run_info hi, hz]
  constructor
  · have hck := run_keyOf (P := P) kk n kt ⟨k', hk⟩ w true
    cases ok <;> simp [Instr.lookup, run_underlying ht, hck, Instr.findKey, run_underlying hk, Instr.findNow, hzv]
  · intro r ces clock hr res hres
    have hck := run_keyOf (P := P) kk n kt ⟨k', hk⟩ w ces.isEmpty
    have hf : Instr.findNow (.int k') (.int kk n) ces.toList 0 = some res := by rw [findNow_kind k' kk]; exact hres
    cases res with
    | none => cases ok <;> simp [Instr.lookup, run_underlying ht, hck, Instr.findKey, run_underlying hk, hf, hzv, getObj_map' hr]
    | some p => obtain ⟨j, v⟩ := p; cases ok <;> simp [Instr.lookup, run_underlying ht, hck, Instr.findKey, run_underlying hk, hf, getObj_map' hr]
theorem gd_look (hh : HR P ρ h w) (hs : Slots ρ h w s a) {t kt e : TypeId} {k' : IntKind} {i : TypeInfo} {z : Value} (ht : P.underlying t = some (.map kt e)) (hk : P.underlying kt = some (.int k')) (hi : P.info? e = some i) (hz : i.zero = some z) (x y : Operand) (ok : Bool) :
    Good P ρ h w (do pure (.value (← Instr.lookup t (a.eval x) (a.eval y) ok))) (astep s h (.look (cv z) ok (cx x) (cx y))) := by
  simp only [astep]
  split
  · rename_i kk n hn
    rw [inv_int hs hn]
    obtain ⟨r1, r2⟩ := look_run (P := P) (w := w) ht hk hi hz kk n ok
    have pair : ∀ (u : AV) (v : Value) (b : Bool), VR ρ h w u v → VR ρ h w (if ok then .tup [u, .bool b] else u) (if ok then .tuple #[v, .bool b] else v) := by
      intro u v b hv
      cases ok with
      | false => exact hv
      | true => refine .tup _ _ rfl (fun j y hj => ?_); match j, hj with | 0, hj => simp at hj; subst hj; simpa using hv | 1, hj => simp at hj; subst hj; simp; exact .bool b | j + 2, hj => simp at hj
    have hv := VR_ev hs x
    cases hx : ev s (cx x) with
    | nilmap =>
      rw [hx] at hv
      cases hvx : a.eval x <;> rw [hvx] at hv <;> first | (cases hv; done) | skip
      cases hv
      exact Good.v1 hh r1 (pair _ _ false (VR_cv z))
    | mp id =>
      rw [hx] at hv
      cases hvx : a.eval x <;> rw [hvx] at hv <;> first | (cases hv; done) | skip
      cases hv with
      | mp _ r hid hc =>
        cases ho : h[id]? with
        | none => simp only [ho]; trivial
        | some o =>
          cases o with
          | map es =>
            obtain ⟨ces, clock, hb, hlen, hcell⟩ := hh.obj id _ ho
            have hr := hc es ho
            subst hr
            cases hm : mfind kk n es 0 with
            | none => simp only [ho, hm]; trivial
            | some res =>
              obtain ⟨r', f1, f2⟩ := mfind_ok (P := P) (ρ := ρ) (h := h) (w := w) (kt := kt) ⟨k', hk⟩ es ces.toList 0 res (by simp [hlen.1]) (fun j x u hj => by
                obtain ⟨_, g1, g2⟩ := hcell j x u hj
                simpa [Array.getD_eq_getD_getElem?, List.getD] using And.intro g1 g2) hm
              have := r2 _ ces clock hb r' f1
              simp only [ho, hm]
              cases res with
              | none =>
                cases r' with
                | none => exact Good.v1 hh this (pair _ _ false (VR_cv z))
                | some q => exact f2.elim
              | some p =>
                cases r' with
                | none => exact f2.elim
                | some q => exact Good.v1 hh this (pair _ _ true f2.2.1)
          | _ => simp only [ho]; trivial
    | _ => trivial
  · trivial
theorem setObj_map {r : Nat} {es : Array MapEntry} {clock : Nat} (o : Obj) (hb : w.heap[r]? = some (.map es clock)) : (setObj r o).run P w = .ok () { w with heap := w.heap.setIfInBounds r o } := by simp [setObj, Sem.run, hb]
/-- A map changes where it lies. -/
theorem map_set (hh : HR P ρ h w) {id : Nat} {es : List (AV × AV)} (hr : h[id]? = some (.map es)) {ces : Array MapEntry} {clock : Nat} (hb : w.heap[ρ id]? = some (.map ces clock))
    (es' : List (AV × AV)) (ces' : Array MapEntry) (clock' : Nat) (hl : ces'.size = es'.length ∧ clock' = es'.length) (hc : ∀ (j : Nat) (k u : AV), es'[j]? = some (k, u) → (∃ kk n, k = .int kk n ∧ (ces'.getD j default).born = j) ∧ VR ρ h w k (ces'.getD j default).key ∧ VR ρ h w u (ces'.getD j default).val) :
    HR P ρ (h.set id (.map es')) { w with heap := w.heap.setIfInBounds (ρ id) (.map ces' clock') } ∧ Step ρ h w ρ (h.set id (.map es')) { w with heap := w.heap.setIfInBounds (ρ id) (.map ces' clock') } := by
  have hid := getElem?_lt hr
  have hother : ∀ b, b ≠ ρ id → (w.heap.setIfInBounds (ρ id) (.map ces' clock'))[b]? = w.heap[b]? := fun b hb => Array.getElem?_setIfInBounds_ne (fun e => hb e.symm)
  have hsame : (w.heap.setIfInBounds (ρ id) (.map ces' clock'))[ρ id]? = some (.map ces' clock') := Array.getElem?_setIfInBounds_self_of_lt (heap_lt hb)
  have hbs : blockSize { w with heap := w.heap.setIfInBounds (ρ id) (.map ces' clock') } (ρ id) = blockSize w (ρ id) := by simp only [blockSize, hsame, hb]
  have s : Step ρ h w ρ (h.set id (.map es')) { w with heap := w.heap.setIfInBounds (ρ id) (.map ces' clock') } := by
    refine Step.change hh id (by simp) (fun j hj _ => set_other h id _ j hj) (fun j _ => rfl) (fun b _ hne => hother b (hne _ hr rfl)) ?_ ?_ (.inl ⟨_, hr, rfl, rfl⟩) (by simp) rfl rfl rfl
    · intro o' ho' hl _
      rw [set_same h id _ hid] at ho'
      cases ho'
      exact ⟨_, hr, trivial, trivial, fun _ => ⟨rfl, hbs⟩⟩
    · intro j o' hj hge ho'
      rw [List.getElem?_eq_none (by simp; omega)] at ho'
      cases ho'
  refine ⟨HR.change hh s id (fun j hj => set_other h id _ j hj) (fun j _ => rfl) (fun j o hj ho hl => hother (ρ j) (fun e => hj (hh.inj j id o _ ho hr hl rfl e))) (by rw [hr]; simp) ?_ (fun j o hj ho hl e => hj (hh.inj j id o _ ho hr hl rfl e)) (fun _ _ _ => hh.xo id _ hr rfl), s⟩
  intro o' ho'
  rw [set_same h id _ hid] at ho'
  cases ho'
  exact ⟨ces', clock', hsame, hl, fun j k u hj => by obtain ⟨g0, g1, g2⟩ := hc j k u hj; exact ⟨g0, g1.mono s, g2.mono s⟩⟩
theorem gd_mupd (hh : HR P ρ h w) (hs : Slots ρ h w s a) {t kt e : TypeId} {k' : IntKind} (ht : P.underlying t = some (.map kt e)) (hk : P.underlying kt = some (.int k')) (x y v : Operand) :
    Good P ρ h w (do Instr.mapUpdate t (a.eval x) (a.eval y) (a.eval v); pure .skip) (astep s h (.mupd (cx x) (cx y) (cx v))) := by
  simp only [astep]
  split
  · rename_i kk n hn
    rw [inv_int hs hn]
    have hv := VR_ev hs x
    have hu := VR_ev hs v
    split
    · rename_i id hx
      rw [hx] at hv
      cases hvx : a.eval x <;> rw [hvx] at hv <;> first | (cases hv; done) | skip
      cases hv with
      | mp _ r hid hc =>
        split
        · rename_i es ho
          obtain ⟨ces, clock, hb, hlen, hcell⟩ := hh.obj id _ ho
          have hr := hc es ho
          subst hr
          have hck := run_keyOf (P := P) kk n kt ⟨k', hk⟩ w false
          cases hm : mfind kk n es 0 with
          | none => trivial
          | some res =>
            obtain ⟨r', f1, f2⟩ := mfind_ok (P := P) (ρ := ρ) (h := h) (w := w) (kt := kt) ⟨k', hk⟩ es ces.toList 0 res (by simp [hlen.1]) (fun j x u hj => by
              obtain ⟨_, g1, g2⟩ := hcell j x u hj
              simpa [Array.getD_eq_getD_getElem?, List.getD] using And.intro g1 g2) hm
            have hf : Instr.findNow (.int k') (.int kk n) ces.toList 0 = some r' := by rw [findNow_kind k' kk]; exact f1
            cases res with
            | none =>
              cases r' with
              | some q => exact f2.elim
              | none =>
                have hrun : (Instr.mapUpdate t (.map (some (ρ id))) (.int kk n) (a.eval v)).run P w = .ok () { w with heap := w.heap.setIfInBounds (ρ id) (.map (ces.push { key := .int kk n, val := a.eval v, born := clock }) (clock + 1)) } := by
                  simp [Instr.mapUpdate, run_underlying ht, getObj_map' hb, hck, Instr.findKey, run_underlying hk, hf, setObj_map _ hb]
                obtain ⟨g1, g2⟩ := map_set hh ho hb (es ++ [(.int kk n, ev s (cx v))]) (ces.push { key := .int kk n, val := a.eval v, born := clock }) (clock + 1) (by simp [hlen.1, hlen.2]) (by
                  intro j k u hj
                  rcases Nat.lt_or_ge j es.length with hlt | hge
                  · rw [List.getElem?_append_left hlt] at hj
                    rw [Array.getD_eq_getD_getElem?, Array.getElem?_push, if_neg (by have := hlen.1; omega), ← Array.getD_eq_getD_getElem?]
                    exact hcell j k u hj
                  · rw [List.getElem?_append_right hge] at hj
                    have : j = es.length := by have := getElem?_lt hj; simp at this; omega
                    subst this
                    simp at hj
                    obtain ⟨rfl, rfl⟩ := hj
                    rw [Array.getD_eq_getD_getElem?, Array.getElem?_push, if_pos hlen.1.symm]
                    exact ⟨⟨kk, n, rfl, hlen.2⟩, .int _ _, hu⟩)
                exact ⟨ρ, _, by simp [hrun], g1, g2⟩
            | some p =>
              cases r' with
              | none => exact f2.elim
              | some q =>
                obtain ⟨j, u0⟩ := p
                obtain ⟨j', v0⟩ := q
                obtain ⟨rfl, q1, q2, q3, q4⟩ := f2
                simp only [Nat.sub_zero] at q3 q4
                have hjl := getElem?_lt q3
                have hkey : ((ces[j]?).map (·.key)).getD (.int kk n) = .int kk n := by
                  have : j < ces.size := by have := hlen.1; omega
                  rw [List.getD, Array.getElem?_toList] at q4
                  rw [Array.getElem?_eq_getElem this] at q4 ⊢
                  simpa using q4
                have hrun : (Instr.mapUpdate t (.map (some (ρ id))) (.int kk n) (a.eval v)).run P w = .ok () { w with heap := w.heap.setIfInBounds (ρ id) (.map (ces.modify j fun e => { e with key := .int kk n, val := a.eval v }) clock) } := by
                  simp [Instr.mapUpdate, run_underlying ht, getObj_map' hb, hck, Instr.findKey, run_underlying hk, hf, hkey, Instr.keyThatStays, Instr.sameBits, setObj_map _ hb]
                obtain ⟨g1, g2⟩ := map_set hh ho hb (es.set j (.int kk n, ev s (cx v))) (ces.modify j fun e => { e with key := .int kk n, val := a.eval v }) clock (by simp [hlen.1, hlen.2]) (by
                  intro m k u hm'
                  rw [Array.getD_eq_getD_getElem?, Array.getElem?_modify]
                  by_cases hmj : j = m
                  · subst hmj
                    rw [List.getElem?_set_self hjl] at hm'
                    cases hm'
                    have hbj := hcell j _ _ q3
                    obtain ⟨⟨_, _, _, hbn⟩, _, _⟩ := hbj
                    rw [if_pos rfl, Array.getElem?_eq_getElem (by have := hlen.1; omega)]
                    rw [Array.getD_eq_getD_getElem?, Array.getElem?_eq_getElem (by have := hlen.1; omega)] at hbn
                    exact ⟨⟨kk, n, rfl, hbn⟩, .int _ _, hu⟩
                  · rw [List.getElem?_set_ne hmj] at hm'
                    rw [if_neg hmj, ← Array.getD_eq_getD_getElem?]
                    exact hcell m k u hm')
                exact ⟨ρ, _, by simp [hrun], g1, g2⟩
        · trivial
    · trivial
  · trivial
theorem gd_ment (hh : HR P ρ h w) (hs : Slots ρ h w s a) {t kt e : TypeId} {k' : IntKind} {i : TypeInfo} {z : Value} (ht : P.underlying t = some (.map kt e)) (hk : P.underlying kt = some (.int k')) (hi : P.info? e = some i) (hz : i.zero = some z) (x y : Operand) :
    Good P ρ h w (do pure (.value (← Instr.mapEntry t (a.eval x) (a.eval y)))) (astep s h (.ment (cv z) (cx x) (cx y))) := by
  have hzv : ∀ w, (zeroValue e).run P w = .ok z w := fun w => by simp [zeroValue, run_info hi, hz]
  have pair : ∀ {ρ' : Rho} {h' : AHeap} {w' : World} (u : AV) (v : Value) (n : Int), VR ρ' h' w' u v → VR ρ' h' w' (.tup [u, .int .i64 n]) (.tuple #[v, .int .i64 n]) := by
    intro ρ' h' w' u v n hv
    refine .tup _ _ rfl (fun j y hj => ?_)
    match j, hj with
    | 0, hj => simp at hj; subst hj; simpa using hv
    | 1, hj => simp at hj; subst hj; simp; exact .int _ _
    | j + 2, hj => simp at hj
  simp only [astep]
  split
  · rename_i kk n hn
    rw [inv_int hs hn]
    have hv := VR_ev hs x
    split
    · rename_i id hx
      rw [hx] at hv
      cases hvx : a.eval x <;> rw [hvx] at hv <;> first | (cases hv; done) | skip
      cases hv with
      | mp _ r hid hc =>
        split
        · rename_i es ho
          obtain ⟨ces, clock, hb, hlen, hcell⟩ := hh.obj id _ ho
          have hr := hc es ho
          subst hr
          have hck := run_keyOf (P := P) kk n kt ⟨k', hk⟩ w false
          cases hm : mfind kk n es 0 with
          | none => trivial
          | some res =>
            obtain ⟨r', f1, f2⟩ := mfind_ok (P := P) (ρ := ρ) (h := h) (w := w) (kt := kt) ⟨k', hk⟩ es ces.toList 0 res (by simp [hlen.1]) (fun j x u hj => by
              obtain ⟨_, g1, g2⟩ := hcell j x u hj
              simpa [Array.getD_eq_getD_getElem?, List.getD] using And.intro g1 g2) hm
            have hf : Instr.findNow (.int k') (.int kk n) ces.toList 0 = some r' := by rw [findNow_kind k' kk]; exact f1
            cases res with
            | none =>
              cases r' with
              | some q => exact f2.elim
              | none =>
                have hrun : (Instr.mapEntry t (.map (some (ρ id))) (.int kk n)).run P w = .ok (.tuple #[z, .int .i64 es.length]) { w with heap := w.heap.setIfInBounds (ρ id) (.map (ces.push { key := .int kk n, val := z, born := clock }) (clock + 1)) } := by
                  simp [Instr.mapEntry, run_underlying ht, getObj_map' hb, hck, Instr.findKey, run_underlying hk, hf, setObj_map _ hb, hzv, goInt, hlen.2]
                obtain ⟨g1, g2⟩ := map_set hh ho hb (es ++ [(.int kk n, cv z)]) (ces.push { key := .int kk n, val := z, born := clock }) (clock + 1) (by simp [hlen.1, hlen.2]) (by
                  intro j k u hj
                  rcases Nat.lt_or_ge j es.length with hlt | hge
                  · rw [List.getElem?_append_left hlt] at hj
                    rw [Array.getD_eq_getD_getElem?, Array.getElem?_push, if_neg (by have := hlen.1; omega), ← Array.getD_eq_getD_getElem?]
                    exact hcell j k u hj
                  · rw [List.getElem?_append_right hge] at hj
                    have : j = es.length := by have := getElem?_lt hj; simp at this; omega
                    subst this
                    simp at hj
                    obtain ⟨rfl, rfl⟩ := hj
                    rw [Array.getD_eq_getD_getElem?, Array.getElem?_push, if_pos hlen.1.symm]
                    exact ⟨⟨kk, n, rfl, hlen.2⟩, .int _ _, VR_cv z⟩)
                exact ⟨ρ, _, _, by simp [hrun], pair _ _ _ (VR_cv z), g1, g2⟩
            | some p =>
              cases r' with
              | none => exact f2.elim
              | some q =>
                obtain ⟨j, u0⟩ := p
                obtain ⟨j', v0⟩ := q
                obtain ⟨rfl, q1, q2, q3, q4⟩ := f2
                simp only [Nat.sub_zero] at q3 q4
                have hjl := getElem?_lt q3
                have hjc : j < ces.size := by have := hlen.1; omega
                have hkey : ((ces[j]?).map (·.key)).getD (.int kk n) = .int kk n := by
                  rw [List.getD, Array.getElem?_toList] at q4
                  rw [Array.getElem?_eq_getElem hjc] at q4 ⊢
                  simpa using q4
                obtain ⟨⟨_, _, _, hbn⟩, _, hval⟩ := hcell j _ _ q3
                rw [Array.getD_eq_getD_getElem?, Array.getElem?_eq_getElem hjc] at hbn hval
                simp only [Option.getD_some] at hbn hval
                have hkey' : ces[j].key = .int kk n := by
                  rw [Array.getElem?_eq_getElem hjc] at hkey
                  simpa using hkey
                have hrun : (Instr.mapEntry t (.map (some (ρ id))) (.int kk n)).run P w = .ok (.tuple #[v0, .int .i64 j]) { w with heap := w.heap.setIfInBounds (ρ id) (.map (ces.modify j fun e => { e with key := .int kk n }) clock) } := by
                  simp [Instr.mapEntry, run_underlying ht, getObj_map' hb, hck, Instr.findKey, run_underlying hk, hf, hkey', hjc, hbn, Instr.keyThatStays, Instr.sameBits, setObj_map _ hb, goInt]
                obtain ⟨g1, g2⟩ := map_set hh ho hb (es.set j (.int kk n, u0)) (ces.modify j fun e => { e with key := .int kk n }) clock (by simp [hlen.1, hlen.2]) (by
                  intro m k u hm'
                  rw [Array.getD_eq_getD_getElem?, Array.getElem?_modify]
                  by_cases hmj : j = m
                  · subst hmj
                    rw [List.getElem?_set_self hjl] at hm'
                    cases hm'
                    rw [if_pos rfl, Array.getElem?_eq_getElem hjc]
                    exact ⟨⟨kk, n, rfl, hbn⟩, .int _ _, hval⟩
                  · rw [List.getElem?_set_ne hmj] at hm'
                    rw [if_neg hmj, ← Array.getD_eq_getD_getElem?]
                    exact hcell m k u hm')
                exact ⟨ρ, _, _, by simp [hrun], pair _ _ _ (q1.mono g2), g1, g2⟩
        · trivial
    · trivial
  · trivial
theorem gd_mest (hh : HR P ρ h w) (hs : Slots ρ h w s a) (t : TypeId) (x y v : Operand) :
    Good P ρ h w (do Instr.entryStore t (a.eval x) (a.eval y) (a.eval v); pure .skip) (astep s h (.mest (cx x) (cx y) (cx v))) := by
  simp only [astep]
  split
  · rename_i n hn
    rw [inv_int hs hn]
    split
    · rename_i h0
      have hv := VR_ev hs x
      have hu := VR_ev hs v
      split
      · rename_i id hx
        rw [hx] at hv
        cases hvx : a.eval x <;> rw [hvx] at hv <;> first | (cases hv; done) | skip
        cases hv with
        | mp _ r hid hc =>
          split
          · rename_i es ho
            obtain ⟨ces, clock, hb, hlen, hcell⟩ := hh.obj id _ ho
            have hr := hc es ho
            subst hr
            split
            · rename_i k u0 hek
              have hjl := getElem?_lt hek
              generalize hj : n.toNat = j at *
              have hnj : n = (j : Int) := by omega
              have hjc : j < ces.size := by have := hlen.1; omega
              obtain ⟨⟨kk, kn, hkk, hbn⟩, hkv, _⟩ := hcell j _ _ hek
              have born : ∀ m (hm : m < ces.size), ces[m].born = m := by
                intro m hm
                obtain ⟨⟨_, _, _, hb'⟩, _, _⟩ := hcell m _ _ (List.getElem?_eq_getElem (show m < es.length by have := hlen.1; omega))
                rw [Array.getD_eq_getD_getElem?, Array.getElem?_eq_getElem hm] at hb'
                simpa using hb'
              have hfind : ces.findIdx? (fun e => ((e.born : Int) == n)) = some j := by
                rw [Array.findIdx?_eq_some_iff_getElem]
                refine ⟨hjc, by simp [born j hjc, hnj], fun m hm => ?_⟩
                have := born m (by omega)
                simp [this, hnj]
                omega
              have hrun : (Instr.entryStore t (.map (some (ρ id))) (.int .i64 n) (a.eval v)).run P w = .ok () { w with heap := w.heap.setIfInBounds (ρ id) (.map (ces.modify j fun e => { e with val := a.eval v }) clock) } := by
                simp [Instr.entryStore, getObj_map' hb, asInt, asIntOf, hfind, setObj_map _ hb]
              obtain ⟨g1, g2⟩ := map_set hh ho hb (es.set j (k, ev s (cx v))) (ces.modify j fun e => { e with val := a.eval v }) clock (by simp [hlen.1, hlen.2]) (by
                intro m k' u hm'
                rw [Array.getD_eq_getD_getElem?, Array.getElem?_modify]
                by_cases hmj : j = m
                · subst hmj
                  rw [List.getElem?_set_self hjl] at hm'
                  cases hm'
                  rw [if_pos rfl, Array.getElem?_eq_getElem hjc]
                  rw [Array.getD_eq_getD_getElem?, Array.getElem?_eq_getElem hjc] at hbn hkv
                  exact ⟨⟨kk, kn, hkk, hbn⟩, hkv, hu⟩
                · rw [List.getElem?_set_ne hmj] at hm'
                  rw [if_neg hmj, ← Array.getD_eq_getD_getElem?]
                  exact hcell m k' u hm')
              exact ⟨ρ, _, by simp [hrun], g1, g2⟩
            · trivial
          · trivial
      · trivial
    · trivial
  · trivial
theorem run_appZ (w : World) (t u ty e : TypeId) (k : IntKind) (i : TypeInfo) (z : Value) (ht : P.underlying t = some (.slice e)) (hu : P.underlying u = some (.int k)) (hi : P.info? e = some i) (hz : i.zero = some z) (A : Option Addr)
    (n : Nat) (h0 : 0 < n) (hsz : 0 < i.size) (hby : 0 < i.bytes) (hm : n * i.bytes ≤ most) :
    (Builtin.append_ #[t, u] ty #[.slice A 0 0, .int .i64 n]).run P w =
      .ok (.slice (some ⟨w.heap.size, 0, none⟩) n (grownCap w n 0 e)) (w.drew.alloc (.cells (Builtin.zeroCells z.cells n ++ Builtin.zeroCells z.cells (grownCap w n 0 e - n)) e)) := by
  have hs : n ≤ 140737488355328 := by
    have := Nat.le_mul_of_pos_right n hby
    unfold most at hm
    omega
  have hm' : n * i.bytes ≤ 140737488355328 := hm
  have hn : n ≠ 0 := by omega
  have hns : ¬ (n = 0 ∨ i.size = 0) := by omega
  have hwr : IntKind.i64.wrap (n : Int) = (n : Int) := by
    simp [IntKind.wrap, IntKind.bits, IntKind.signed]
    omega
  have h63' : ¬ (9223372036854775807 < (n : Int)) := by omega
  have h48' : ¬ (281474976710656 < Builtin.nextslicecap n 0 * i.bytes) := by rw [nextslicecap_zero h0]; omega
  have h48i : ¬ (281474976710656 < (n : Int) * (i.bytes : Int)) := by
    have := Int.ofNat_le.2 hm'
    rw [Int.natCast_mul] at this
    simp only [Int.cast_ofNat_Int] at this
    generalize (n : Int) * (i.bytes : Int) = q at *
    omega
  have hneg : ¬ ((n : Int) < 0) := by omega
  have hne : n * i.size ≠ 0 := Nat.mul_ne_zero hn (by omega)
  cases A with
  | none => simp [Builtin.append_, run_underlying ht, run_underlying hu, sizeOf, typeInfo, zeroValue, hi, hz, hn, hns, hwr, hneg, h48i, h63', h48', Question.forced, run_firstCells_none, newRow, grownCap, asInt, asIntOf]; exact fun hc => absurd hc hne
  | some a => simp [Builtin.append_, run_underlying ht, run_underlying hu, sizeOf, typeInfo, zeroValue, hi, hz, hn, hns, hwr, hneg, h48i, h63', h48', Question.forced, Builtin.firstCells, loadCells, loadCellsFrom, newRow, grownCap, asInt, asIntOf]; exact fun hc => absurd hc hne
theorem size_zeroCells (c : Array Value) (n : Nat) : (Builtin.zeroCells c n).size = n * c.size := by simp [Builtin.zeroCells]
theorem zeroCells_get (c : Array Value) (n k : Nat) (h : k < n * c.size) (hc : 0 < c.size) : (Builtin.zeroCells c n)[k]? = c[k % c.size]? := by
  have hm := Nat.mod_lt k hc
  simp [Builtin.zeroCells, h, hm]
theorem s_appZ (hh : HR P ρ h w) {t u ty e : TypeId} {k : IntKind} {i : TypeInfo} {z : Value} (ht : P.underlying t = some (.slice e)) (hu : P.underlying u = some (.int k)) (hi : P.info? e = some i) (hz : i.zero = some z) (hzs : z.cells.size = i.size) (hsz : 0 < i.size) (hby : 0 < i.bytes)
    (A : Option Addr) (m : Nat) (hm0 : 0 < m) (hm1 : m * i.bytes ≤ most) (hok : okE i.size (cv z) = true) :
    ∃ ρ' w' val, (Builtin.append_ #[t, u] ty #[.slice A 0 0, .int .i64 m]).run P w = .ok val w' ∧ VR ρ' (h ++ [.row 0 i.size (List.replicate m (cv z))]) w' (.rf h.length 0 0 m) val ∧ HR P ρ' (h ++ [.row 0 i.size (List.replicate m (cv z))]) w' ∧ Step ρ h w ρ' (h ++ [.row 0 i.size (List.replicate m (cv z))]) w' := by
  have hok' : (cv z).cells.length = i.size ∧ okC (cv z).cells = true := by simpa [okE] using hok
  have hrun := run_appZ (P := P) w t u ty e k i z ht hu hi hz A m hm0 hsz hby hm1
  obtain ⟨z1, z2, z3⟩ := (VR_cv (ρ := ρ) (h := h) (w := w) z).cells hok'.2
  have hcap := grownCap_ge w m 0 e
  have q1 := size_zeroCells z.cells m
  have q2 := size_zeroCells z.cells (grownCap w m 0 e - m)
  have q3 := zeroCells_get z.cells m
  generalize Builtin.zeroCells z.cells (grownCap w m 0 e - m) = Z2 at *
  generalize Builtin.zeroCells z.cells m = Z at *
  generalize grownCap w m 0 e = cap at *
  rw [hzs] at q1 q2 q3
  have hp := Plus.drew w (.cells (Z ++ Z2) e)
  have st := Step.push hh (.row 0 i.size (List.replicate m (cv z))) hp
  have hu' : ∀ x ∈ List.replicate m (cv z), x.cells.length = i.size := fun x hx => by rw [(List.mem_replicate.1 hx).2]; exact hok'.1
  have hadd : Z.size + Z2.size = cap * i.size := by rw [q1, q2, ← Nat.add_mul]; congr 1; omega
  refine ⟨_, _, _, hrun, ?_, HR.push hh _ hp ⟨_, e, hp.new, hu', ?_, fun x hx => by rw [(List.mem_replicate.1 hx).2]; exact hok'.2, ?_⟩, st⟩
  · refine .rf _ _ _ _ _ _ (by simp) hcap ?_
    intro k sz' es' hke
    rw [push_last] at hke
    cases hke
    refine ⟨Nat.le_refl _, fun _ => ⟨fun _ => by rw [at_same]; simp, by simp, ?_⟩⟩
    rw [at_same]
    unfold blockSize
    rw [hp.new]
    simp only [Array.size_append, Nat.zero_add, hadd]
    exact Nat.le_refl _
  · simp only [List.length_replicate, Array.size_append, q1]
    omega
  · intro k u hk
    obtain ⟨q, el, j, e1, e2, e3, e4⟩ := flat_mem hu' k u hk
    have hel : el = cv z := (List.mem_replicate.1 (List.mem_of_getElem? e1)).2
    subst hel
    have hq : q < m := by have := getElem?_lt e1; simpa using this
    have hkl : k < m * i.size := by
      have : (q + 1) * i.size ≤ m * i.size := Nat.mul_le_mul_right _ hq
      rw [Nat.add_mul] at this; omega
    obtain ⟨c, g1, g2⟩ := z3 j u e2
    refine ⟨c, ?_, g2.mono st⟩
    rw [Array.getElem?_append_left (by omega), q3 _ hkl (by omega), e3, Nat.add_comm, Nat.add_mul_mod_self_right, Nat.mod_eq_of_lt e4]
    exact g1
theorem gd_appZ (hh : HR P ρ h w) (hs : Slots ρ h w s a) {t u ty e : TypeId} {k : IntKind} {i : TypeInfo} {z : Value} (ht : P.underlying t = some (.slice e)) (hu : P.underlying u = some (.int k)) (hi : P.info? e = some i) (hz : i.zero = some z) (hzs : z.cells.size = i.size) (hsz : 0 < i.size) (hby : 0 < i.bytes) (x y : Operand) :
    Good P ρ h w (do pure (.value (← Builtin.append_ #[t, u] ty #[a.eval x, a.eval y]))) (astep s h (.appZ i.size i.bytes (cv z) (cx x) (cx y))) := by
  simp only [astep]
  split
  · rename_i n hn
    rw [inv_int hs hn]
    have hv := VR_ev hs x
    split
    · rename_i hx
      rw [hx] at hv
      generalize a.eval x = V at hv
      cases hv with
      | sl _ _ A c sz vals hxsz ha hv' hc' ht' =>
        have hc0 := ht' rfl
        subst hc0
        simp only [List.length_nil]
        split
        · rename_i hcond
          obtain ⟨h0, h1, hok⟩ := hcond
          obtain ⟨m, rfl⟩ : ∃ m : Nat, n = (m : Int) := ⟨n.toNat, by omega⟩
          have hm0 : 0 < m := by omega
          have hm1 : m * i.bytes ≤ most := by
            have : ((m * i.bytes : Nat) : Int) ≤ (most : Int) := by rw [Int.natCast_mul]; exact h1
            exact Int.ofNat_le.1 this
          simp only [Int.toNat_natCast]
          exact Good.of_val (s_appZ hh ht hu hi hz hzs hsz hby A m hm0 hm1 hok)
        · trivial
    · trivial
  · trivial
theorem gd_ext (hh : HR P ρ h w) (hs : Slots ρ h w s a) (x : Operand) (i : Nat) : Good P ρ h w (do pure (.value (← Instr.extract (a.eval x) i))) (astep s h (.ext (cx x) i)) := by
  simp only [astep]
  have hv := VR_ev hs x
  split
  · rename_i vs he
    rw [he] at hv
    cases hvx : a.eval x <;> rw [hvx] at hv <;> first | (cases hv; done) | skip
    rename_i vals
    cases hv with
    | tup _ _ hl hvv =>
      split
      · rename_i u hu
        have hlt := getElem?_lt hu
        have hu2 := hvv i u hu
        rw [Array.getD_eq_getD_getElem?, Array.getElem?_eq_getElem (by omega)] at hu2
        exact Good.v1 hh (val := vals[i]'(by omega)) (by simp [Instr.extract, Array.getElem?_eq_getElem (show i < vals.size by omega)]) (by simpa using hu2)
      · trivial
  · trivial

theorem execCall {c : Call} {ty : TypeId} {o : Oper} (ho : o.op = .call c) : execOp a.eval o = (do let d ← resolve a.eval c o.type; invoke d.target d.args) := by simp [execOp, ho]
theorem gd_call (hh : HR P ρ h w) (hs : Slots ρ h w s a) (o : Oper) (c : Call) (ho : o.op = .call c) : Good P ρ h w (execOp a.eval o) (astep s h (cCall P c)) := by
  obtain ⟨callee, args, argTypes⟩ := c
  rw [execCall (ty := o.type) ho]
  unfold cCall
  dsimp only
  have bi : ∀ (b : Builtin) (s' : Sem Value), callee = .builtin b → builtin b argTypes o.type (args.map fun | .const _ => true | _ => false) (args.map a.eval) = (do pure (.value (← s'))) →
      (do let d ← resolve a.eval { callee := callee, args := args, argTypes := argTypes } o.type; invoke d.target d.args : Sem Next).run P w = (do pure (.value (← s')) : Sem Next).run P w := by
    rintro b s' rfl hb
    rw [← hb]
    simp only [resolve, Sem.run_bind, Sem.run_pure, Result.andThen_ok, invoke]
    rfl
  have tr : ∀ {s1 s2 : Sem Next} {r : ARes}, s1.run P w = s2.run P w → Good P ρ h w s2 r → Good P ρ h w s1 r := by
    intro s1 s2 r e g
    cases r <;> simp only [Good] at g ⊢ <;> rw [e] <;> exact g
  have a1 : ∀ x, args.toList = [x] → args.map a.eval = #[a.eval x] := fun x hx => by apply Array.ext'; simp [hx]
  have a2 : ∀ x y, args.toList = [x, y] → args.map a.eval = #[a.eval x, a.eval y] := fun x y hx => by apply Array.ext'; simp [hx]
  have t1 : ∀ x, argTypes.toList = [x] → argTypes = #[x] := fun x hx => by apply Array.ext'; simp [hx]
  have t2 : ∀ x y, argTypes.toList = [x, y] → argTypes = #[x, y] := fun x y hx => by apply Array.ext'; simp [hx]
  split
  · -- a function
    rename_i f
    simp only [astep]
    refine ⟨args.toList.map a.eval, VRs_evs hs _, fun he => ?_⟩
    have he' := fun ar => he ar w
    simp only [resolve, Act.eval, Deferred.ofValue, Sem.run_bind, Sem.run_pure, Result.andThen_ok, invoke, he']
    congr 2
    apply Array.ext'
    simp
  · -- a function value
    rename_i f
    simp only [astep]
    have hv : VR ρ h w (ev s (cx (.tmp f))) (a.eval (.tmp f)) := VR_ev hs (.tmp f)
    have hargs := VRs_evs (ρ := ρ) (h := h) (w := w) hs args.toList
    change Good P ρ h w _ (match ev s (cx (.tmp f)) with
      | .fn (.func g) first captured => .call g (first ++ ((args.toList.map cx).map (ev s)) ++ captured)
      | .yld id => .yield id ((args.toList.map cx).map (ev s))
      | _ => .fail)
    have hr : (resolve a.eval { callee := .value (.tmp f), args := args, argTypes := argTypes } o.type) = Deferred.ofValue (a.eval (.tmp f)) (args.map a.eval) := rfl
    rw [hr]
    generalize ev s (cx (.tmp f)) = X at hv
    generalize a.eval (.tmp f) = V at hv
    cases hv with
    | fn g first captured fv cvs h1 h2 h3 h4 =>
      cases g with
      | func g =>
        refine ⟨fv.toList ++ args.toList.map a.eval ++ cvs.toList, ⟨by simp [h1, h2], fun j u hj => ?_⟩, fun he => ?_⟩
        · have l1 : fv.toList.length = first.length := by simp [h1]
          rcases Nat.lt_or_ge j first.length with c1 | c1
          · rw [List.append_assoc, List.getElem?_append_left c1] at hj
            have := h3 j u hj
            rw [List.getD, List.append_assoc, List.getElem?_append_left (by omega)]
            simpa [Array.getD_eq_getD_getElem?] using this
          · rw [List.append_assoc, List.getElem?_append_right c1] at hj
            rw [List.getD, List.append_assoc, List.getElem?_append_right (by omega), l1]
            rcases Nat.lt_or_ge (j - first.length) args.toList.length with c2 | c2
            · rw [List.getElem?_append_left (by simpa using c2)] at hj
              rw [List.getElem?_append_left (by simpa using c2)]
              exact hargs.2 _ u hj
            · rw [List.getElem?_append_right (by simpa using c2)] at hj
              rw [List.getElem?_append_right (by simpa using c2)]
              have := h4 _ u hj
              simpa [Array.getD_eq_getD_getElem?] using this
        · have he' := fun ar => he ar w
          simp only [Deferred.ofValue, Sem.run_bind, Sem.run_pure, Result.andThen_ok, invoke, he']
          congr 2
          apply Array.ext'
          simp
      | _ => trivial
    | yld id l hid hc =>
      refine ⟨l, args.toList.map a.eval, hargs, hid, hc, ?_⟩
      simp only [Deferred.ofValue, Sem.run_bind, Sem.run_pure, Result.andThen_ok, invoke]
      congr 2
      apply Array.ext'
      simp
    | _ => trivial
  · -- len
    split
    · rename_i x t hx ht
      have hb : ∀ v, (Builtin.len_ #[t] o.type #[a.eval x]).run P w = .ok v w → (do let d ← resolve a.eval { callee := .builtin .len, args := args, argTypes := argTypes } o.type; invoke d.target d.args : Sem Next).run P w = .ok (.value v) w := by
        intro v hv
        rw [bi .len (Builtin.len_ argTypes o.type (args.map a.eval)) rfl rfl, a1 x hx, t1 t ht]
        simp [hv]
      have hv := VR_ev hs x
      split
      · rename_i hu
        simp only [astep]
        split
        · rename_i b he
          rw [inv_str hs he] at hb
          exact Good.val hh (hb (.int .i64 b.size) (by simp [Builtin.len_, run_underlying hu, goInt])) (.int _ _)
        · trivial
      · rename_i e hu
        simp only [astep]
        split
        · rename_i tt xs he
          rw [he] at hv
          cases hvx : a.eval x <;> rw [hvx] at hv <;> first | (cases hv; done) | skip
          rw [hvx] at hb
          cases hv
          exact Good.val hh (hb (.int .i64 xs.length) (by simp [Builtin.len_, run_underlying hu, goInt])) (.int _ _)
        · rename_i id ver idx len he
          rw [he] at hv
          cases hvx : a.eval x <;> rw [hvx] at hv <;> first | (cases hv; done) | skip
          rw [hvx] at hb
          cases hv
          exact Good.val hh (hb (.int .i64 len) (by simp [Builtin.len_, run_underlying hu, goInt])) (.int _ _)
        · trivial
      · rename_i k e hu
        simp only [astep]
        split
        · rename_i he
          rw [he] at hv
          cases hvx : a.eval x <;> rw [hvx] at hv <;> first | (cases hv; done) | skip
          rw [hvx] at hb
          cases hv
          exact Good.val hh (hb (.int .i64 0) (by simp [Builtin.len_, run_underlying hu, goInt])) (.int _ _)
        · rename_i id he
          rw [he] at hv
          cases hvx : a.eval x <;> rw [hvx] at hv <;> first | (cases hv; done) | skip
          rw [hvx] at hb
          cases hv with
          | mp _ r hid hc =>
            split
            · rename_i es ho
              obtain ⟨ces, clock, hbk, hlen, hcell⟩ := hh.obj id _ ho
              have hr := hc es ho
              subst hr
              exact Good.val hh (hb (.int .i64 es.length) (by simp [Builtin.len_, run_underlying hu, goInt, getObj_map' hbk, hlen.1])) (.int _ _)
            · trivial
        · trivial
      · trivial
    · trivial
  · -- cap
    split
    · rename_i x t hx ht
      have hb : ∀ v, (Builtin.cap_ #[t] o.type #[a.eval x]).run P w = .ok v w → (do let d ← resolve a.eval { callee := .builtin .cap, args := args, argTypes := argTypes } o.type; invoke d.target d.args : Sem Next).run P w = .ok (.value v) w := by
        intro v hv
        rw [bi .cap (Builtin.cap_ argTypes o.type (args.map a.eval)) rfl rfl, a1 x hx, t1 t ht]
        simp [hv]
      have hv := VR_ev hs x
      split
      · rename_i e hu
        simp only [astep]
        split
        · rename_i xs he
          rw [he] at hv
          cases hvx : a.eval x <;> rw [hvx] at hv <;> first | (cases hv; done) | skip
          rw [hvx] at hb
          cases hv with
          | sl _ _ A c sz vals hsz ha hv' hc' ht' =>
            have := ht' rfl
            subst this
            exact Good.val hh (hb (.int .i64 xs.length) (by simp [Builtin.cap_, run_underlying hu, goInt])) (.int _ _)
        · trivial
      · trivial
    · trivial
  · -- append
    split
    · rename_i x y t u hx ht
      split
      · rename_i e e' hu hu'
        split
        · rename_i i hi
          split
          · rename_i hcond
            obtain ⟨rfl, hz, hsz, hby, hzs⟩ := hcond
            cases hzz : i.zero with
            | none => simp [hzz] at hz
            | some z =>
              have hzs' : z.cells.size = i.size := by simpa [hzz] using hzs
              simp only [astep]
              split
              · rename_i ys hys
                cases hr : appR h i.size i.bytes (ev s (cx x)) ys with
                | v r h' =>
                  obtain ⟨ρ', w', val, g1, g2, g3, g4⟩ := s_app hh t o.type e i z hu hi hzz hzs' hsz hby (VR_ev hs x) (VR_ev hs y) hys hr
                  refine ⟨ρ', w', val, ?_, g2, g3, g4⟩
                  rw [bi .append (Builtin.append_ argTypes o.type (args.map a.eval)) rfl rfl, a2 x y hx, t2 _ _ ht]
                  simp [g1]
                | fail => trivial
                | _ =>
                  exfalso
                  unfold appR at hr
                  repeat' split at hr
                  all_goals cases hr
              · trivial
          · trivial
        · trivial
      · rename_i e k hu hu'
        split
        · rename_i i hi
          split
          · rename_i z hz
            split
            · rename_i hcond
              refine tr (bi .append (Builtin.append_ argTypes o.type (args.map a.eval)) rfl rfl) ?_
              rw [a2 x y hx, t2 _ _ ht]
              exact gd_appZ hh hs hu hu' hi hz hcond.1 hcond.2.1 hcond.2.2 x y
            · trivial
          · trivial
        · trivial
      · trivial
    · trivial
  · -- min
    simp only [astep]
    refine tr (bi .min (Builtin.min_ argTypes o.type (args.map a.eval)) rfl rfl) (Good.rv1 hh fun r hr => ?_)
    match hl : args.toList, hr with
    | [x, y], hr =>
      simp only [List.map_cons, List.map_nil, amin] at hr
      split at hr
      · rename_i k p k' q he
        split at hr
        · rename_i hkk
          cases hr
          simp only [List.cons.injEq, and_true] at he
          rw [a2 x y hl, inv_int hs he.1, inv_int hs he.2]
          exact ⟨_, by simp [Builtin.min_, Builtin.min2], .int _ _⟩
        · cases hr
      · cases hr
    | [], hr => simp [amin] at hr
    | [x], hr => simp [amin] at hr
    | x :: y :: z :: r, hr => simp [amin] at hr
  · -- max
    simp only [astep]
    refine tr (bi .max (Builtin.max_ argTypes o.type (args.map a.eval)) rfl rfl) (Good.rv1 hh fun r hr => ?_)
    match hl : args.toList, hr with
    | [x, y], hr =>
      simp only [List.map_cons, List.map_nil, amax] at hr
      split at hr
      · rename_i k p k' q he
        split at hr
        · rename_i hkk
          cases hr
          simp only [List.cons.injEq, and_true] at he
          rw [a2 x y hl, inv_int hs he.1, inv_int hs he.2]
          exact ⟨_, by simp [Builtin.max_, Builtin.max2], .int _ _⟩
        · cases hr
      · cases hr
    | [], hr => simp [amax] at hr
    | [x], hr => simp [amax] at hr
    | x :: y :: z :: r, hr => simp [amax] at hr
  · trivial
end Go.Av
