/- Contracts: what is reached. -/
import Derived.Test.YthhcgcbbdinenaaMi
set_option linter.unusedVariables false
set_option linter.unusedSimpArgs false
namespace Go.Av
open Go Go.Proofs
set_option maxRecDepth 100000
set_option maxHeartbeats 2000000
def mset (ks : List Int) (k : Int) : List Int := if k ∈ ks then ks else ks ++ [k]
def mapV (ks : List Int) : List (AV × AV) := ks.map fun k => (.int .i64 k, .bool true)
theorem mset_mem {ks : List Int} {k j : Int} : j ∈ mset ks k ↔ j ∈ ks ∨ j = k := by
  unfold mset
  split
  · rename_i h; exact ⟨.inl, fun c => by rcases c with c | rfl; exact c; exact h⟩
  · simp
theorem fold_mset_mem {vs : List Int} : ∀ {ks : List Int} {j : Int}, j ∈ vs.foldl mset ks ↔ j ∈ ks ∨ j ∈ vs := by
  induction vs with
  | nil => simp
  | cons v vs ih =>
    intro ks j
    simp only [List.foldl_cons]
    rw [ih, mset_mem, List.mem_cons]
    constructor
    · rintro ((h | h) | h)
      · exact .inl h
      · exact .inr (.inl h)
      · exact .inr (.inr h)
    · rintro (h | h | h)
      · exact .inl (.inl h)
      · exact .inl (.inr h)
      · exact .inr h
theorem mfind_no {n : Int} : ∀ {ks : List Int} {i : Nat}, n ∉ ks → mfind .i64 n (mapV ks) i = some none
  | [], i, _ => rfl
  | k :: ks, i, h => by
    simp only [List.mem_cons, not_or] at h
    show (if IntKind.i64 = IntKind.i64 then (if n = k then _ else mfind .i64 n (mapV ks) (i + 1)) else _) = _
    rw [if_pos rfl, if_neg h.1, mfind_no h.2]
theorem mfind_yes {n : Int} : ∀ {ks : List Int} {i : Nat}, n ∈ ks → ∃ j, mfind .i64 n (mapV ks) i = some (some (i + j, .bool true)) ∧ ks[j]? = some n
  | k :: ks, i, h => by
    show ∃ j, (if IntKind.i64 = IntKind.i64 then (if n = k then _ else mfind .i64 n (mapV ks) (i + 1)) else _) = _ ∧ _
    rw [if_pos rfl]
    by_cases e : n = k
    · rw [if_pos e]; exact ⟨0, rfl, by simp [e]⟩
    · rw [if_neg e]
      obtain ⟨j, h1, h2⟩ := mfind_yes (i := i + 1) ((List.mem_cons.1 h).resolve_left e)
      exact ⟨j + 1, by rw [h1]; simp; omega, by simpa using h2⟩
theorem mfind_set {n : Int} {ks : List Int} (c : n ∈ ks) : ∃ j, mfind .i64 n (mapV ks) 0 = some (some (j, .bool true)) ∧ (mapV ks).set j (.int .i64 n, .bool true) = mapV ks := by
  obtain ⟨j, h1, h2⟩ := mfind_yes (i := 0) c
  refine ⟨j, by simpa using h1, List.ext_getElem? fun q => ?_⟩
  by_cases e : q = j
  · subst e
    have hlt := getElem?_lt h2
    rw [List.getElem?_set_self (by simpa [mapV] using hlt)]
    simp [mapV, h2]
  · rw [List.getElem?_set_ne (Ne.symm e)]
theorem mapV_push (ks : List Int) (n : Int) : mapV ks ++ [(.int .i64 n, .bool true)] = mapV (ks ++ [n]) := by simp [mapV]
def rK (l : List In) : Nat → List Int × List Int
  | 0 => ([0], [])
  | i + 1 => if (i : Int) ∈ (rK l i).1 then ((nextL (l.getD i default) i).foldl mset (rK l i).1, (rK l i).2 ++ [(i : Int)]) else rK l i
def reachK (l : List In) : List Int := (rK l l.length).2
theorem rK_len (l : List In) : ∀ i, (rK l i).2.length ≤ i
  | 0 => Nat.le_refl _
  | i + 1 => by
    have := rK_len l i
    simp only [rK]
    split
    · simp; omega
    · omega
theorem rK_one (l : List In) : ∀ i, 1 ≤ (rK l (i + 1)).2.length
  | 0 => by simp [rK]
  | i + 1 => by
    have := rK_one l i
    rw [rK]
    split
    · simp
    · exact this
/-! ### The walk -/
def asg37 : AC := (.ops [o 10 (.mov (.t 39))])
def bod37 : AC := (.block 3 (.ops [o 40 (.ld none (.t 6)), o 41 (.mov (.t 10)), u (.mupd (.t 40) (.t 41) (.c (.bool true)))]))
def loop37 (d : Nat) (s : List (Nat × AV)) : ALoop := { st := .ready, pend := .none, slots := s, n := 44, ps := [39], assign := asg37, body := bod37, dfr := d }
def H37 (ks : List Int) (G : AHeap) : AHeap := .map (mapV ks) :: .row 0 1 [.mp 0] :: G
theorem y37 {ks : List Int} {G : AHeap} {id d : Nat} {s : List (Nat × AV)} (s6 : alook s 6 = .rp 1 0 0 0) (hid : (H37 ks G)[id]? = some (.loop (loop37 d s))) (h2 : 2 ≤ id) (v : Int) : AYield PA id [.int .i64 v] (H37 ks G) (.bool true) (H37 (mset ks v) G) := by
  obtain ⟨e, rfl⟩ : ∃ e, id = e + 2 := ⟨id - 2, by omega⟩
  have hG : G[e]? = some (.loop (loop37 d s)) := by simpa [H37] using hid
  have hlt := getElem?_lt hG
  have hG2 : (G.set e (.loop { st := .busy, pend := .none, slots := s, n := 44, ps := [39], assign := asg37, body := bod37, dfr := d }))[e]? = some (.loop { st := .busy, pend := .none, slots := s, n := 44, ps := [39], assign := asg37, body := bod37, dfr := d }) := by
    rw [List.getElem?_set_self hlt]
  have hG3 : G.set e (.loop (loop37 d s)) = G := by
    refine List.ext_getElem? fun q => ?_
    by_cases c : q = e
    · subst c; rw [List.getElem?_set_self hlt, hG]
    · rw [List.getElem?_set_ne (Ne.symm c)]
  refine AYield.ofS S11ok hmA (L := loop37 d s) hid rfl (by simp [loop37]) ?_ (by kernel_rfl) (by kernel_rfl) (aS_den ?_)
  · intro q hq
    rcases q with _ | _ | q
    · simp [H37] at hq
    · simp [H37] at hq
    · simpa [H37] using hq
  · simp only [loop37, asg37, bod37, putArgs, H37]
    simp only [WK, simprocAttr]
    refine ⟨rfl, _, by simpa [H37] using hid, rfl, aS_den ?_⟩
    by_cases c : v ∈ ks
    · obtain ⟨j, f1, f2⟩ := mfind_set c
      have f3 : mset ks v = ks := if_pos c
      simp only [WK, simprocAttr, s6, f1, f2]
      refine ⟨_, hG2, rfl, ?_⟩
      simp [f3]
      exact hG3.symm
    · have f1 := mfind_no (i := 0) c
      have f3 : mset ks v = ks ++ [v] := if_neg c
      simp only [WK, simprocAttr, s6, f1, mapV_push]
      refine ⟨_, hG2, rfl, ?_⟩
      simp [f3]
      exact hG3.symm
theorem H37_len (ks : List Int) (G : AHeap) : (H37 ks G).length = G.length + 2 := rfl
theorem h37get (ks : List Int) (G E : AHeap) (j : Nat) : (H37 ks (G ++ E))[G.length + 2 + j]? = E[j]? := by
  show (AObj.map _ :: AObj.row 0 1 [.mp 0] :: (G ++ E))[G.length + 2 + j]? = _
  rw [show G.length + 2 + j = (G.length + j) + 1 + 1 by omega, List.getElem?_cons_succ, List.getElem?_cons_succ, getk]
theorem h37set (ks : List Int) (G E : AHeap) (j : Nat) (o : AObj) : (H37 ks (G ++ E)).set (G.length + 2 + j) o = H37 ks (G ++ E.set j o) := by
  show (AObj.map _ :: AObj.row 0 1 [.mp 0] :: (G ++ E)).set (G.length + 2 + j) o = _
  rw [show G.length + 2 + j = (G.length + j) + 1 + 1 by omega, List.set_cons_succ, List.set_cons_succ, setk]
  rfl
theorem rng37 {x : In} (hx : x.OK) {i : Int} (hi : -1000 ≤ i ∧ i ≤ 1000) {ks : List Int} {G h : AHeap} {k : List It} {Q : Jump → AFr → AHeap → Prop} {τ : AFr} (hh : h = H37 ks (G ++ [rowI x, rowN i])) (he : alook τ.s 38 = .fn (.func 78) [] [.rp (G.length + 2) 0 0 0, .rp (G.length + 3) 0 0 0])
    (s6 : alook τ.s 6 = .rp 1 0 0 0) (hn : τ.n = 44) (H : den PA S11.tab none k Q .none { τ with dfr := (G.length + 4) :: τ.dfr } (H37 ((nextL x i).foldl mset ks) (G ++ [rowI x, rowN i, .dfr, .dead]))) :
    aS PA S11.tab none (.rangeF (.t 38) [39] asg37 bod37) (den PA S11.tab none k Q) τ h := by
  subst hh
  obtain ⟨E, hE⟩ : ∃ E : AHeap, E = [rowI x, rowN i, .dfr, .loop (loop37 (G.length + 4) τ.s)] := ⟨_, rfl⟩
  obtain ⟨Hs, hHs⟩ : ∃ Hs : Nat → AHeap, Hs = fun j => H37 (((nextL x i).take j).foldl mset ks) (G ++ E) := ⟨_, rfl⟩
  have hc := k78 x hx i hi (G.length + 2) (G.length + 3) (G.length + 5) Hs ⟨fun j => ?_, fun j => ?_, fun j v hv => ?_, ?_⟩
  · refine x_rangeG (G.length + 4) (G.length + 5) (by simp [H37]) rfl (Hs 0) he ?_ (.tup []) (Hs (nextL x i).length) (loop37 (G.length + 4) τ.s) hc ?_ (by simp [loop37]) ?_
    · rw [hHs, hE]; simp [H37, loop37, hn]
    · rw [hHs]
      dsimp only
      rw [show G.length + 5 = G.length + 2 + 3 by omega, h37get, hE]; rfl
    · rw [hHs]
      dsimp only
      rw [show G.length + 5 = G.length + 2 + 3 by omega, h37set, hE, List.take_length]
      exact H
  · rw [hHs]
    unfold rowAt
    dsimp only
    rw [show G.length + 2 = G.length + 2 + 0 by omega, h37get, hE]; rfl
  · rw [hHs]
    unfold rowAt
    dsimp only
    rw [show G.length + 3 = G.length + 2 + 1 by omega, h37get, hE]; rfl
  · have ht : ((nextL x i).take (j + 1)).foldl mset ks = mset (((nextL x i).take j).foldl mset ks) v := by rw [List.take_add_one, hv]; simp
    rw [hHs]
    dsimp only
    rw [ht]
    refine y37 (d := G.length + 4) (s := τ.s) s6 ?_ (by omega) v
    rw [show G.length + 5 = G.length + 2 + 3 by omega, h37get, hE]; rfl
  · rw [hHs]
    intro q hq
    rcases q with _ | _ | q
    · simp [H37] at hq
    · simp [H37] at hq
    · simpa [H37] using hq
theorem noLoop_cat {Y : AObj} {g E : AHeap} (h : noLoop (Y :: g) = true) (h' : noLoop E = true) : noLoop (Y :: (g ++ E)) = true := by
  unfold noLoop at *
  rw [List.all_cons, List.all_append]
  rw [List.all_cons, Bool.and_eq_true] at h
  rw [h.1, h.2, h']; rfl
theorem kills_get : ∀ (ds : List Nat) (h : AHeap) (i : Nat), (∀ d ∈ ds, d ≠ i) → (kills ds h)[i]? = h[i]?
  | [], h, i, _ => rfl
  | d :: ds, h, i, hd => by
    show (kills ds (h.set d .dead))[i]? = _
    rw [kills_get ds _ i fun e he => hd e (by simp [he]), List.getElem?_set_ne (hd d (by simp))]
def outV (vs : List Int) : AV := if vs = [] then .sl true [] else .rf 3 (vs.length - 1) 0 vs.length
def GOK (vs : List Int) (G : AHeap) (ds : List Nat) : Prop := (vs = [] ∧ G = [] ∧ ds = []) ∨ ∃ Y g, vs ≠ [] ∧ G = Y :: .row (vs.length - 1) 1 (ints vs) :: g ∧ noLoop (Y :: g) = true ∧ ds.Nodup ∧ ∀ d ∈ ds, 4 ≤ d ∧ d < g.length + 4
def i37 (t : Bool) (l : List In) (m : Nat) (τ : AFr) (h : AHeap) : Prop :=
  ∃ (i : Nat) (G : AHeap) (ds : List Nat), i ≤ l.length ∧ m = l.length - i ∧ (rK l i).2.length ≤ i ∧ GOK (rK l i).2 G ds ∧ h = H37 (rK l i).1 G ∧
    τ = { n := 44, s := [(21, .sl t (avs l)), (22, .int .i64 l.length), (23, .int .i64 i), (6, .rp 1 0 0 0), (7, outV (rK l i).2)], dfr := ds }
def reachV (l : List In) : AV × AHeap := if (checkK l).2 = 0 then (.tup [(ownV (reachK l)).1, .int .i64 0], (ownV (reachK l)).2) else (.tup [.sl true [], .int .i64 (checkK l).2], [])
theorem reachV_own (l : List In) : Own (reachV l).2 (reachV l).1 ∧ OwnH (reachV l).2 := by
  unfold reachV
  split
  · unfold ownV
    split
    · exact ⟨own_solid (by simp [solid_tup, solid_int, solid_nilsl]), ownH_nil⟩
    · refine ⟨.tup _ fun x hx => ?_, ownH_row _ _ _ (ints_solid _)⟩
      simp only [List.mem_cons, List.not_mem_nil, or_false] at hx
      rcases hx with rfl | rfl
      · exact .rf _ _ _ _ (by simp)
      · exact .solid _ (.int _ _)
  · exact ⟨own_solid (by simp [solid_tup, solid_int, solid_nilsl]), ownH_nil⟩
theorem k37 (t : Bool) (l : List In) (hl : ∀ x ∈ l, x.OK) : ACall PA 37 [.sl t (avs l)] [] (reachV l).1 (reachV l).2 := by
  refine ACall.ofS S11ok hmA h37 (by kernel_rfl) (Nat.le_of_ble_eq_true rfl) (reachV_own l).2 (reachV_own l).1 (aS_den ?_)
  have hd := decIns_avs hl
  by_cases c0 : (checkK l).2 = 0
  · obtain ⟨h1, h2, h3, h4, h5⟩ := check_ok c0
    have mf : mfind .i64 0 [] 0 = some none := rfl
    simp only [WK, simprocAttr, c37, n37, S11, S10, S9, S8, S7, S6, S5, S4, S3, S2, S1, hd, h5, avs_len, mf]
    refine x_loop (i37 t l) ⟨l.length, _, ⟨0, [], [], by omega, by omega, by simp [rK], .inl ⟨rfl, rfl, rfl⟩, rfl, rfl⟩, ⟨rfl, rfl, by simp [alook, outV, rK]⟩⟩ ?_
    rintro m τ h ⟨i, G, ds, hi, rfl, hlen, hG, rfl, rfl⟩
    by_cases b1 : (i : Int) < (l.length : Int)
    · have hlt : i < l.length := by omega
      have i0 : (0 : Int) ≤ (i : Int) := by omega
      have hx := avs_getq hlt
      have ho := hl _ (List.getElem_mem hlt)
      have eg : l.getD i default = l[i] := by simp [hlt]
      obtain ⟨x, hxe⟩ : ∃ x, x = l[i] := ⟨_, rfl⟩
      rw [← hxe] at hx ho eg
      have cl : x.av.cells.length = 4 := rfl
      by_cases b2 : (i : Int) ∈ (rK l i).1
      · obtain ⟨j, f1, f2⟩ := mfind_set b2
        have hr : rK l (i + 1) = ((nextL x i).foldl mset (rK l i).1, (rK l i).2 ++ [(i : Int)]) := by rw [rK, if_pos b2, eg]
        have w : IntKind.i64.wrap ((i : Int) + 1) = ((i + 1 : Nat) : Int) := by rw [wrI64 (by omega) (by omega)]; omega
        obtain ⟨vs, hvs⟩ : ∃ vs, vs = (rK l i).2 := ⟨_, rfl⟩
        rw [← hvs] at hG hlen hr ⊢
        have hlen' : (vs ++ [(i : Int)]).length ≤ i + 1 := by rw [List.length_append]; simp; omega
        have hne : vs ++ [(i : Int)] ≠ [] := by simp
        rcases hG with ⟨e1, rfl, rfl⟩ | ⟨Y, g, e1, rfl, e2, e3, e4⟩
        · simp only [H37]
          simp only [WK, simprocAttr, b1, i0, hx, In.av, inV, f1, outV, e1, appR, most, S11, S10, S9, S8, S7, S6, S5, S4, S3, S2, S1]
          refine ⟨_, _, k62 x i _, ?_⟩
          simp only [WK, simprocAttr]
          refine rng37 ho (i := (i : Int)) (by omega) (ks := (rK l i).1) (G := [rowI x, .row 0 1 [.int .i64 i]]) (by simp [H37, In.av, inV]) (by simp [alook]) (by simp [alook]) rfl ?_
          simp only [WK, simprocAttr]
          refine ⟨l.length - (i + 1), _, by omega, ⟨i + 1, [rowI x, .row 0 1 [.int .i64 i], rowI x, rowN i, .dfr, .dead], [6], by omega, rfl, by rw [hr]; exact hlen', .inr ⟨rowI x, [rowI x, rowN i, .dfr, .dead], by rw [hr]; exact hne, ?_, rfl, by simp, by simp⟩, ?_, rfl⟩, ⟨rfl, rfl, ?_⟩⟩
          · rw [hr, e1]; simp [ints]
          · rw [hr]
          · rw [hr, e1]; simp [alook, w, outV]
        · have hm : (vs.length + 1) * 8 ≤ 140737488355328 := by omega
          have il : (ints vs).length = vs.length := by simp [ints]
          have it : (ints vs).take vs.length = ints vs := List.take_of_length_le (by omega)
          have ia : ints vs ++ [.int .i64 (i : Int)] = ints (vs ++ [(i : Int)]) := by simp [ints]
          have vl : vs.length ≠ 0 := fun c => e1 (List.length_eq_zero_iff.1 c)
          have vv : vs.length - 1 + 1 = vs.length := by omega
          simp only [H37]
          simp only [WK, simprocAttr, b1, i0, hx, In.av, inV, f1, outV, e1, appR, most, S11, S10, S9, S8, S7, S6, S5, S4, S3, S2, S1, hm, il, it, ia, vv, Nat.le_refl]
          refine ⟨_, _, k62 x i _, ?_⟩
          simp only [WK, simprocAttr]
          refine rng37 ho (i := (i : Int)) (by omega) (ks := (rK l i).1) (G := Y :: .row vs.length 1 (ints (vs ++ [(i : Int)])) :: (g ++ [rowI x])) (by simp [H37, In.av, inV]) (by simp [alook]) (by simp [alook]) rfl ?_
          simp only [WK, simprocAttr]
          refine ⟨l.length - (i + 1), _, by omega, ⟨i + 1, Y :: .row vs.length 1 (ints (vs ++ [(i : Int)])) :: (g ++ [rowI x, rowI x, rowN i, .dfr, .dead]), (g.length + 7) :: ds, by omega, rfl, by rw [hr]; exact hlen', .inr ⟨Y, g ++ [rowI x, rowI x, rowN i, .dfr, .dead], by rw [hr]; exact hne, ?_, ?_, ?_, ?_⟩, ?_, rfl⟩, ⟨rfl, ?_, ?_⟩⟩
          · rw [hr]; simp
          · exact noLoop_cat e2 rfl
          · refine List.nodup_cons.2 ⟨fun c => ?_, e3⟩
            have := e4 _ c; omega
          · intro d hd
            simp only [List.length_append, List.length_cons, List.length_nil]
            rcases List.mem_cons.1 hd with rfl | hd
            · omega
            · have := e4 _ hd; omega
          · rw [hr]; simp [H37]
          · simp
          · rw [hr]; simp [alook, w, outV]
      · have f1 := mfind_no (i := 0) b2
        have hr : rK l (i + 1) = rK l i := by rw [rK, if_neg b2]
        have w : IntKind.i64.wrap ((i : Int) + 1) = ((i + 1 : Nat) : Int) := by rw [wrI64 (by omega) (by omega)]; omega
        rcases hG with ⟨e1, rfl, rfl⟩ | ⟨Y, g, e1, rfl, e2, e3, e4⟩
        · exfalso
          rcases i with _ | i
          · exact b2 (by simp [rK])
          · have := rK_one l i; rw [e1] at this; simp at this
        · simp only [H37]
          simp only [WK, simprocAttr, b1, i0, hx, In.av, inV, f1, S11, S10, S9, S8, S7, S6, S5, S4, S3, S2, S1]
          refine ⟨l.length - (i + 1), _, by omega, ⟨i + 1, Y :: .row ((rK l i).2.length - 1) 1 (ints (rK l i).2) :: (g ++ [rowI x]), ds, by omega, rfl, by rw [hr]; omega, .inr ⟨Y, g ++ [rowI x], by rw [hr]; exact e1, by rw [hr], ?_, e3, ?_⟩, ?_, rfl⟩, ⟨rfl, rfl, ?_⟩⟩
          · exact noLoop_cat e2 rfl
          · intro d hd
            have := e4 _ hd
            simp; omega
          · rw [hr]; simp [H37, In.av, inV]
          · rw [hr]; simp [alook, w]
    · have ei : i = l.length := by omega
      subst ei
      simp only [H37]
      simp only [WK, simprocAttr, b1]
      rcases hG with ⟨e1, rfl, rfl⟩ | ⟨Y, g, e1, rfl, e2, e3, e4⟩
      · exfalso
        obtain ⟨m, hm⟩ : ∃ m, l.length = m + 1 := ⟨l.length - 1, by omega⟩
        rw [hm] at e1
        have := rK_one l m; rw [e1] at this; simp at this
      · have kg := kills_get ds (.map (mapV (rK l l.length).1) :: .row 0 1 [.mp 0] :: Y :: .row ((rK l l.length).2.length - 1) 1 (ints (rK l l.length).2) :: g) 3 (fun d hd => by have := e4 d hd; omega)
        have er : reachK l ≠ [] := e1
        have ov : outV (rK l l.length).2 = .rf 3 ((rK l l.length).2.length - 1) 0 (rK l l.length).2.length := by simp [outV, e1]
        refine ⟨⟨.inr rfl, .inr ⟨?_, e3⟩, ?_⟩, ?_⟩
        · unfold noLoop at *
          simp only [List.all_cons, Bool.and_eq_true] at e2 ⊢
          exact ⟨trivial, trivial, e2.1, trivial, e2.2⟩
        · simp only [r37, aresl, ares, alook, WK, simprocAttr, resv, refs, refs1, rn, rn1, ov]
          simp [reachV, c0, ownV, er, reachK, e1, refs1, rn1, List.getD, kg]
        · simp only [r37, aresl, ares, alook, WK, simprocAttr, resv, refs, refs1, rn, rn1, ov]
          simp [refs1]
  · have c1 : ((checkK l).2 != 0) = true := by simp [c0]
    simp only [WK, simprocAttr, c37, n37, S11, S10, S9, S8, S7, S6, S5, S4, S3, S2, S1, hd, avs_len, c1]
    simp only [WK, simprocAttr, EW, r37]
    all_goals simp [reachV, c0]
end Go.Av

/- Regions that draw their order and store last; contracts: the reference's Next. -/
namespace Go.Av
open Go Go.Proofs
set_option maxRecDepth 100000
set_option maxHeartbeats 2000000
theorem awQ_run {P : Program} {h : AHeap} (N : Nat) (iv : List (Nat × Nat)) (hiv : ∀ i, iv.getD i (0, 0) = (0, 0)) : ∀ (l : List AOpD) {K : AFr → Prop} (τ : AFr) (i : Nat), i + l.length ≤ N → awQ P h l K τ →
    ∃ τf, K τf ∧ ∀ (hs : Nat → AHeap), hs 0 = h → ∀ (rest : List AOpD) (K' : AFr → Prop), awL P [N] iv hs (i + l.length) rest K' τf → awL P [N] iv hs i (l ++ rest) K' τ
  | [], K, τ, i, _, H => ⟨τ, H, fun hs h0 rest K' k => k⟩
  | o :: r, K, τ, i, hN, H => by
    obtain ⟨hd, H⟩ := H
    obtain ⟨x, h', h1, h2, h3⟩ := awG_elim H
    obtain ⟨τf, k1, k2⟩ := awQ_run N iv hiv r (τ.put o.dst x) (i + 1) (by simp only [List.length_cons] at hN; omega) h3
    refine ⟨τf, k1, fun hs h0 rest K' k => ⟨hd, x, ?_, ?_⟩⟩
    · have hne : ([N] : List Nat).contains i = false := by
        simp only [List.length_cons] at hN
        simp; omega
      rw [if_neg (by rw [hne]; simp), hiv]
      intro q q1 q2
      obtain rfl : q = 0 := by simp only at q2; omega
      rw [h0]
      subst h2
      exact h1
    · refine k2 hs h0 rest K' ?_
      rw [show i + 1 + r.length = i + (o :: r).length by simp; omega]
      exact k
/-- A region that draws its order, its last operation the only one that stores. -/
theorem drwL_last {P : Program} {S : Tab} (hS : TabOK P S) {rd : Option Nat} {k : List It} {Q : Jump → AFr → AHeap → Prop} {τ : AFr} {h : AHeap} (l : List AOpD) (n : Nat) (a x : Opd) (af : List Nat)
    (hok : drawOK (l ++ [⟨none, none, .st n a x, af⟩]) (masks (l ++ [⟨none, none, .st n a x, af⟩]) []) [l.length] (List.replicate (l.length + 1) (0, 0)) = true)
    (H : drw P S rd l (.code (.ops [⟨none, none, .st n a x, []⟩]) :: k) Q τ h) : drwL (P := P) (S := S) (rd := rd) (l ++ [⟨none, none, .st n a x, af⟩]) k Q τ h := by
  have hiv : ∀ i, (List.replicate (l.length + 1) ((0, 0) : Nat × Nat)).getD i (0, 0) = (0, 0) := fun i => by
    rw [List.getD, List.getElem?_replicate]; split <;> rfl
  obtain ⟨τf, k1, k2⟩ := awQ_run l.length _ hiv l τ 0 (by omega) (aSQ_aw hS l (fun τ k => k) H)
  have k3 : stp P S rd (stepR S τf.s h none (.st n a x)) none [] k Q τf h := by
    have := k1
    rw [den_code, x_cons] at this
    exact this
  simp only [stepR, astep] at k3
  cases hst : stAt h (ev τf.s a) n (ev τf.s x) with
  | none => rw [hst] at k3; exact k3.elim
  | some h' =>
    rw [hst] at k3
    simp only [callR, stp_v] at k3
    refine drwL_of [l.length] (List.replicate (l.length + 1) (0, 0)) (fun q => match q with
      | 0 => h
      | _ => h') hok rfl (k2 _ rfl _ _ ?_)
    refine awL_st 0 (by simp) (hiv _) rfl ?_ ?_
    · simp only [astep]; rw [hst]
    · exact k3.2
/-! ### Next -/
theorem k63 (x : In) (hx : x.OK) (i : Int) (hi' : -1000 ≤ i ∧ i ≤ 1000) (h : AHeap) : ACall PA 63 [x.av, .int .i64 i] h (.sl true (ints (nextL x i))) h := by
  refine ACall.ofG S11ok hmA h63 (by kernel_rfl) (Nat.le_of_ble_eq_true rfl) (Hstay.refl _) fun hbel => aS_den ?_
  have hIc : U16 x.c := hx.c
  have nf := (nmFacts hIc).form
  have hk := hx.k
  have ha := hx.a
  have hb := hx.b
  unfold U8 at ha hb
  have w1 : IntKind.i64.wrap (i + 1) = i + 1 := wrI64 (by omega) (by omega)
  have w2 : IntKind.i64.wrap x.k = x.k := wrI64 (by omega) (by omega)
  have w3 : IntKind.i64.wrap (i + 1 + x.k) = i + 1 + x.k := wrI64 (by omega) (by omega)
  have w4 : IntKind.i64.wrap x.a = x.a := wrI64 (by omega) (by omega)
  have w5 : IntKind.i64.wrap x.b = x.b := wrI64 (by omega) (by omega)
  have w6 : IntKind.i64.wrap (i + 1 + x.a) = i + 1 + x.a := wrI64 (by omega) (by omega)
  have w7 : IntKind.i64.wrap (i + 1 + x.b) = i + 1 + x.b := wrI64 (by omega) (by omega)
  have bl : ∀ l, Bel h.length (.sl true (ints l)) := fun l => by
    rw [bel_sl]; intro y hy u hu
    obtain ⟨z, _, rfl⟩ := List.mem_map.1 hy
    simp only [cells_int, List.mem_singleton] at hu; subst hu; exact .int _ _
  have fin : ∀ (l : List Int) (τ : AFr) (G : AHeap), nextL x i = l → τ.dfr = [] → alook τ.s 4 = .sl true (ints l) → Fin PA h r63 (.sl true (ints (nextL x i))) h .ret τ (h ++ G) := fun l τ G e1 e2 e3 => by
    rw [e1]
    exact Fin.lost (xs := [.sl true (ints l)]) hbel (.inr rfl) e2 (by simp [r63, aresl, ares, e3]) rfl (bl l)
  by_cases a1 : i < 0
  · have e : nextL x i = [] := by simp [nextL, rets, a1]
    simp only [WK, simprocAttr, c63, n63, S11, S10, S9, S8, S7, S6, S5, S4, S3, S2, S1, ge_iff_le, gt_iff_lt, hIc, inV, In.av, a1, get0, getk, rowAt0, rowAtk, set0, setk, List.append_assoc]
    exact fin [] _ _ e rfl rfl
  · by_cases a2 : 255 < i
    · have e : nextL x i = [] := by simp [nextL, rets, a1, a2]
      simp only [WK, simprocAttr, c63, n63, S11, S10, S9, S8, S7, S6, S5, S4, S3, S2, S1, ge_iff_le, gt_iff_lt, hIc, inV, In.av, a1, a2, get0, getk, rowAt0, rowAtk, set0, setk, List.append_assoc]
      exact fin [] _ _ e rfl rfl
    · by_cases f0 : formK x.c < 0
      · have e : nextL x i = [] := by simp [nextL, rets, a1, a2, f0]
        simp only [WK, simprocAttr, c63, n63, S11, S10, S9, S8, S7, S6, S5, S4, S3, S2, S1, ge_iff_le, gt_iff_lt, hIc, inV, In.av, a1, a2, nf, f0, get0, getk, rowAt0, rowAtk, set0, setk, List.append_assoc]
        exact fin [] _ _ e rfl rfl
      · by_cases rr : x.c = 6 ∨ x.c = 22
        · have e : nextL x i = [] := by simp [nextL, rets, a1, a2, f0, rr]
          simp only [WK, simprocAttr, c63, n63, S11, S10, S9, S8, S7, S6, S5, S4, S3, S2, S1, ge_iff_le, gt_iff_lt, hIc, inV, In.av, a1, a2, nf, f0, rr, get0, getk, rowAt0, rowAtk, set0, setk, List.append_assoc]
          exact fin [] _ _ e rfl rfl
        · have rt : ¬ rets x = true := by simpa [rets] using rr
          have nx := next_of (x := x) (i := i) (by omega) (by omega) (fun c => by rcases c with c | c; exact f0 c; exact rt c)
          by_cases f4 : formK x.c = 4
          · have q4 : (formK x.c == 4) = true := by simp [f4]
            by_cases m : 255 < x.k
            · have e : nextL x i = [] := by rw [nx, if_pos f4, if_neg (by omega)]
              simp only [WK, simprocAttr, c63, n63, S11, S10, S9, S8, S7, S6, S5, S4, S3, S2, S1, ge_iff_le, gt_iff_lt, hIc, inV, In.av, a1, a2, nf, f0, rr, q4, m, get0, getk, rowAt0, rowAtk, set0, setk, List.append_assoc]
              exact fin [] _ _ e rfl rfl
            · have e : nextL x i = [i + 1 + x.k] := by rw [nx, if_pos f4, if_pos (by omega)]
              simp only [WK, simprocAttr, c63, n63, S11, S10, S9, S8, S7, S6, S5, S4, S3, S2, S1, ge_iff_le, gt_iff_lt, hIc, inV, In.av, a1, a2, nf, f0, rr, q4, m, w1, w2, w3, get0, getk, rowAt0, rowAtk, set0, setk, List.append_assoc]
              exact fin [i + 1 + x.k] _ _ e rfl rfl
          · have q4 : (formK x.c == 4) = false := by simp [f4]
            have tail : ∀ f5 : formK x.c = 5 ∨ formK x.c = 6, nextL x i = if x.a = x.b then [i + 1 + x.a] else [if i + 1 + x.b < i + 1 + x.a then i + 1 + x.b else i + 1 + x.a, if i + 1 + x.a < i + 1 + x.b then i + 1 + x.b else i + 1 + x.a] := fun f5 => by
              rw [nx, if_neg f4, if_pos f5]
              unfold lo hi
              by_cases c1 : x.a = x.b
              · rw [if_pos c1, c1]; simp
              · rw [if_neg c1]
                rcases Int.lt_or_gt_of_ne c1 with c2 | c2
                · have n1 : ¬ x.b < x.a := by omega
                  have n3 : ¬ x.a = x.b := by omega
                  have n4 : ¬ i + 1 + x.b < i + 1 + x.a := by omega
                  have n5 : i + 1 + x.a < i + 1 + x.b := by omega
                  simp only [n1, c2, n3, n4, n5, if_true, if_false]
                · have n1 : x.b < x.a := by omega
                  have n2 : ¬ x.a < x.b := by omega
                  have n3 : ¬ x.b = x.a := by omega
                  have n4 : i + 1 + x.b < i + 1 + x.a := by omega
                  have n5 : ¬ i + 1 + x.a < i + 1 + x.b := by omega
                  simp only [n1, n2, n3, n4, n5, if_true, if_false]
            by_cases f5 : formK x.c = 5
            · have q5 : (formK x.c == 5) = true := by simp [f5]
              have e := tail (.inl f5)
              by_cases e5 : x.a = x.b
              · have e6 : (i + 1 + x.a == i + 1 + x.b) = true := by simp [e5]
                rw [if_pos e5] at e
                simp only [WK, simprocAttr, c63, n63, S11, S10, S9, S8, S7, S6, S5, S4, S3, S2, S1, ge_iff_le, gt_iff_lt, hIc, inV, In.av, a1, a2, nf, f0, rr, q4, q5, e6, w1, w4, w5, w6, w7, get0, getk, rowAt0, rowAtk, set0, setk, List.append_assoc]
                exact fin _ _ _ e rfl rfl
              · have e6 : (i + 1 + x.a == i + 1 + x.b) = false := by simp; omega
                rw [if_neg e5] at e
                simp only [WK, simprocAttr, c63, n63, S11, S10, S9, S8, S7, S6, S5, S4, S3, S2, S1, ge_iff_le, gt_iff_lt, hIc, inV, In.av, a1, a2, nf, f0, rr, q4, q5, e6, w1, w4, w5, w6, w7, get0, getk, rowAt0, rowAtk, set0, setk, List.append_assoc]
                exact fin _ _ _ e rfl rfl
            · have q5 : (formK x.c == 5) = false := by simp [f5]
              by_cases f6 : formK x.c = 6
              · have q6 : (formK x.c == 6) = true := by simp [f6]
                have e := tail (.inr f6)
                by_cases e5 : x.a = x.b
                · have e6 : (i + 1 + x.a == i + 1 + x.b) = true := by simp [e5]
                  rw [if_pos e5] at e
                  simp only [WK, simprocAttr, c63, n63, S11, S10, S9, S8, S7, S6, S5, S4, S3, S2, S1, ge_iff_le, gt_iff_lt, hIc, inV, In.av, a1, a2, nf, f0, rr, q4, q5, q6, e6, w1, w4, w5, w6, w7, get0, getk, rowAt0, rowAtk, set0, setk, List.append_assoc]
                  exact fin _ _ _ e rfl rfl
                · have e6 : (i + 1 + x.a == i + 1 + x.b) = false := by simp; omega
                  rw [if_neg e5] at e
                  simp only [WK, simprocAttr, c63, n63, S11, S10, S9, S8, S7, S6, S5, S4, S3, S2, S1, ge_iff_le, gt_iff_lt, hIc, inV, In.av, a1, a2, nf, f0, rr, q4, q5, q6, e6, w1, w4, w5, w6, w7, get0, getk, rowAt0, rowAtk, set0, setk, List.append_assoc]
                  exact fin _ _ _ e rfl rfl
              · have q6 : (formK x.c == 6) = false := by simp [f6]
                have e : nextL x i = [i + 1] := by rw [nx, if_neg f4, if_neg (by simp [f5, f6])]
                simp only [WK, simprocAttr, c63, n63, S11, S10, S9, S8, S7, S6, S5, S4, S3, S2, S1, ge_iff_le, gt_iff_lt, hIc, inV, In.av, a1, a2, nf, f0, rr, q4, q5, q6, w1, get0, getk, rowAt0, rowAtk, set0, setk, List.append_assoc]
                exact fin _ _ _ e rfl rfl
end Go.Av

/- Contracts: the reference's greatest number of steps. -/
namespace Go.Av
open Go Go.Proofs
set_option maxRecDepth 100000
set_option maxHeartbeats 2000000
def T12 : Tab := ⟨S11, fun f args h => match f, args with
  | 63, [.agg [.int .u16 c, .int .u8 a, .int .u8 b, .int .u32 k], .int .i64 i] => if (⟨c, a, b, k⟩ : In).OK ∧ -1000 ≤ i ∧ i ≤ 1000 then some (.sl true (ints (nextL ⟨c, a, b, k⟩ i)), h) else none
  | _, _ => none, fun _ => false⟩
theorem T12ok : TabOK PA T12 := by
  refine ⟨S11ok, fun f args h r h' e => ?_⟩
  simp only [T12] at e
  split at e
  · split at e
    · rename_i hc
      cases e
      exact k63 _ hc.1 _ hc.2 _
    · cases e
  · cases e
theorem t12_s (f : FuncId) (a : List AV) : T12.s f a = S11 f a := rfl
theorem t12_l (f : FuncId) : T12.loud f = false := rfl
theorem t12_63 (x : In) (i : Int) (h : AHeap) : T12.g 63 [.agg [.int .u16 x.c, .int .u8 x.a, .int .u8 x.b, .int .u32 x.k], .int .i64 i] h = if x.OK ∧ -1000 ≤ i ∧ i ≤ 1000 then some (.sl true (ints (nextL x i)), h) else none := rfl
def drw40 : List AOpD := [o 31 (.mov (.t 3)), o 32 (.mov (.t 4)), o 33 (.mov (.t 3)), o 34 (.mov (.t 4)), ⟨some 35, none, .iaddr 1 (.t 33) (.t 34), [2, 3]⟩, ⟨some 36, none, .ld none (.t 35), [4]⟩, o 37 (.mov (.t 3)), o 38 (.mov (.t 6)), ⟨some 39, none, .iaddr 1 (.t 37) (.t 38), [6, 7]⟩, ⟨some 40, none, .ld none (.t 39), [8]⟩, ⟨some 41, none, .bin .add (.c (.int .i64 1)) (.t 40), [9]⟩, ⟨some 42, none, .mx [.t 36, .t 41], [5, 10]⟩, ⟨some 43, none, .iaddr 1 (.t 31) (.t 32), [0, 1, 0, 1, 2, 3, 4, 5, 6, 7, 8, 9, 10, 11]⟩]
def pm (st : List Int) (ns : List Int) (q : Nat) : Int := (ns.take q).foldl (fun m k => mx2 m (1 + st.getD k.toNat 0)) 1
theorem mx2_add (a b : Int) : mx2 (1 + a) (1 + b) = 1 + mx2 a b := by unfold mx2; split <;> split <;> omega
theorem pm_all (st : List Int) (f : Int → Int) : ∀ (ns : List Int) (a : Int), ns.foldl (fun m k => mx2 m (1 + f k)) (1 + a) = 1 + (ns.map f).foldl mx2 a
  | [], a => rfl
  | k :: ns, a => by simp only [List.foldl_cons, List.map_cons]; rw [mx2_add, pm_all st f ns]
theorem pm_end (st : List Int) (x : In) (i : Int) : pm st (nextL x i) (nextL x i).length = 1 + gmax x i st := by
  unfold pm gmax
  rw [List.take_length]
  exact pm_all st (fun k => st.getD k.toNat 0) (nextL x i) 0
theorem pm_bound {st : List Int} {ns : List Int} {c : Int} (h0 : 0 ≤ c) (h : ∀ v ∈ st, 0 ≤ v ∧ v ≤ c) (q : Nat) : 1 ≤ pm st ns q ∧ pm st ns q ≤ 1 + c := by
  have e : pm st ns q = 1 + ((ns.take q).map fun k => st.getD k.toNat 0).foldl mx2 0 := pm_all st (fun k => st.getD k.toNat 0) (ns.take q) 0
  have h1 : ((ns.take q).map fun k => st.getD k.toNat 0).foldl mx2 0 ≤ c := fold_le h0 fun v hv => by
    obtain ⟨k, _, rfl⟩ := List.mem_map.1 hv
    exact (getD_bound h0 h _).2
  have h2 : 0 ≤ ((ns.take q).map fun k => st.getD k.toNat 0).foldl mx2 0 := fold_ge
  omega
def i40 (t : Bool) (l : List In) (m : Nat) (τ : AFr) (h : AHeap) : Prop :=
  ∃ j : Nat, j ≤ l.length ∧ m = l.length - j ∧ h = [.row 0 1 (ints (stK l j))] ∧ τ = { n := 48, s := [(0, .sl t (avs l)), (3, .rf 0 0 0 l.length), (4, .int .i64 ((l.length : Int) - 1 - j))], dfr := [] }
def i40b (t : Bool) (l : List In) (i : Nat) (st ns : List Int) (m : Nat) (τ : AFr) (h : AHeap) : Prop :=
  ∃ q : Nat, q ≤ ns.length ∧ m = ns.length - q ∧ h = [.row 0 1 (ints (st.set i (pm st ns q)))] ∧ τ = { n := 48, s := [(0, .sl t (avs l)), (3, .rf 0 0 0 l.length), (4, .int .i64 i), (25, .sl true (ints ns)), (26, .int .i64 ns.length), (27, .int .i64 q)], dfr := [] }
theorem ints_set (l : List Int) (i : Nat) (v : Int) : (ints l).set i (.int .i64 v) = ints (l.set i v) := by simp [ints, List.map_set]
theorem k40 (t : Bool) (l : List In) (hl : ∀ x ∈ l, x.OK) (c0 : (checkK l).2 = 0) : ACall PA 40 [.sl t (avs l)] [] (.int .i64 (mostK l)) [] := by
  refine ACall.ofT T12ok hmA h40 (by kernel_rfl) (Nat.le_of_ble_eq_true rfl) ownH_nil (own_solid (by simp [solid_int])) (aS_den ?_)
  obtain ⟨h1, h2, h3, h4, h5⟩ := check_ok c0
  have m0 : (0 : Int) ≤ (l.length : Int) := by omega
  have m1 : (l.length : Int) * 8 ≤ 140737488355328 := by omega
  have w0 : IntKind.i64.wrap ((l.length : Int) - 1) = (l.length : Int) - 1 := wrI64 (by omega) (by omega)
  simp only [WK, simprocAttr, c40, n40, avs_len, m0, m1, most, ints_rep, w0]
  refine x_loop (i40 t l) ⟨l.length, _, ⟨0, by omega, by omega, rfl, rfl⟩, ⟨rfl, rfl, by simp [alook]⟩⟩ ?_
  rintro m τ h ⟨j, hj, rfl, rfl, rfl⟩
  by_cases b : j < l.length
  · obtain ⟨i, hi⟩ : ∃ i, i = l.length - 1 - j := ⟨_, rfl⟩
    have hil : i < l.length := by omega
    have b1 : (0 : Int) ≤ (i : Int) := by omega
    have e1 : (l.length : Int) - 1 - j = (i : Int) := by omega
    obtain ⟨x, hx⟩ : ∃ x, x = l[i] := ⟨_, rfl⟩
    have g1 := avs_getq hil
    rw [← hx] at g1
    have hxo : x.OK := hx ▸ hl _ (List.getElem_mem hil)
    have ib : -1000 ≤ (i : Int) ∧ (i : Int) ≤ 1000 := by omega
    have ib1 : -1000 ≤ (i : Int) := by omega
    have ib2 : (i : Int) ≤ 1000 := by omega
    obtain ⟨st, hst⟩ : ∃ st, st = stK l j := ⟨_, rfl⟩
    have hsl : st.length = l.length := by rw [hst, stK_len]
    have gs := ints_get (l := st) (i := i) (by omega)
    have e2 : l.getD i default = x := by rw [hx]; simp [hil]
    have e3 : stK l (j + 1) = st.set i (1 + gmax x i st) := by simp only [stK]; rw [← hi, e2, hst]
    have hn : ∀ k ∈ nextL x i, (i : Int) < k ∧ k < l.length := fun k hk => ok_next hl c0 hil k (hx ▸ hk)
    have sb : ∀ v ∈ st, 0 ≤ v ∧ v ≤ 64 := fun v hv => by have := stK_bound l j v (hst ▸ hv); omega
    obtain ⟨ns, hns⟩ : ∃ ns, ns = nextL x i := ⟨_, rfl⟩
    have nl2 : ns.length ≤ 2 := hns ▸ nextL_len x i
    rw [e1, ← hst]
    simp only [WK, simprocAttr, ge_iff_le, b1, hil, gs, ints_set, List.headD_cons, g1, In.av, inV, t12_s, S11, S10, S9, S8, S7, S6, S5, S4, S3, S2, S1, t12_63, hxo, ib1, ib2, and_self, ← hns, ints_len, hsl]
    refine x_loop (i40b t l i st ns) ⟨ns.length, _, ⟨0, by omega, by omega, by simp [pm], rfl⟩, ⟨rfl, rfl, by simp [alook]⟩⟩ ?_
    rintro m' τ' h' ⟨q, hq, rfl, rfl, rfl⟩
    by_cases bq : (q : Int) < (ns.length : Int)
    · have hql : q < ns.length := by omega
      obtain ⟨hk1, hk2⟩ := hn ns[q] (by rw [← hns]; exact List.getElem_mem hql)
      obtain ⟨k, hk⟩ := Int.eq_ofNat_of_zero_le (by omega : 0 ≤ ns[q])
      have hkl : k < st.length := by omega
      have q0 : (0 : Int) ≤ (q : Int) := by omega
      have k0 : (0 : Int) ≤ (k : Int) := by omega
      have gq : (ints ns)[q]? = some (.int .i64 (k : Int)) := by rw [ints_get hql, hk]
      have g2 : (ints (st.set i (pm st ns q)))[i]? = some (.int .i64 (pm st ns q)) := by rw [ints_get (by simp; omega)]; simp
      have g3 : (ints (st.set i (pm st ns q)))[k]? = some (.int .i64 st[k]) := by
        rw [ints_get (by simp; omega), List.getElem_set_ne (by omega)]
      have pb := pm_bound (ns := ns) (by omega) sb q
      have kb := sb st[k] (List.getElem_mem hkl)
      have w1 : IntKind.i64.wrap (1 + st[k]) = 1 + st[k] := wrI64 (by omega) (by omega)
      have w2 : IntKind.i64.wrap ((q : Int) + 1) = ((q + 1 : Nat) : Int) := by rw [wrI64 (by omega) (by omega)]; omega
      have kl : k < l.length := by omega
      have en : pm st ns (q + 1) = mx2 (pm st ns q) (1 + st[k]) := by
        unfold pm
        rw [List.take_add_one, List.getElem?_eq_getElem hql]
        simp [hk, hkl]
      have fm : (if pm st ns q < 1 + st[k] then 1 + st[k] else pm st ns q) = pm st ns (q + 1) := by rw [en]; rfl
      simp only [WK, simprocAttr, bq, q0, gq, t12_l]
      refine drwL_last T12ok drw40 1 (.t 43) (.t 42) _ (by kernel_rfl) ?_
      simp only [WK, simprocAttr, drw40, b1, hil, k0, kl, g2, g3, w1, gt_iff_lt, ints_set, List.headD_cons]
      refine ⟨ns.length - (q + 1), _, by omega, ⟨q + 1, by omega, rfl, ?_, rfl⟩, ⟨rfl, rfl, ?_⟩⟩
      · rw [fm, List.set_set]
      · simp [alook, w2]
    · have eq' : q = ns.length := by omega
      subst eq'
      have w3 : IntKind.i64.wrap ((i : Int) - 1) = (l.length : Int) - 1 - (j + 1 : Nat) := by rw [wrI64 (by omega) (by omega)]; omega
      simp only [WK, simprocAttr, bq]
      refine ⟨l.length - (j + 1), _, by omega, ⟨j + 1, by omega, rfl, ?_, rfl⟩, ⟨rfl, rfl, ?_⟩⟩
      · rw [e3, hns, pm_end]
      · simp [alook, w3]
  · have ej : j = l.length := by omega
    subst ej
    have b1 : ¬ (0 : Int) ≤ (l.length : Int) - 1 - l.length := by omega
    have z1 : (0 : Nat) < l.length := by omega
    have z2 : (ints (stK l l.length))[0]? = some (.int .i64 (mostK l)) := by
      have : 0 < (stK l l.length).length := by rw [stK_len]; omega
      simp [ints, mostK, this]
    simp only [WK, simprocAttr, ge_iff_le, b1, z1, z2]
    simp only [WK, simprocAttr, EW, r40]
end Go.Av

/- Contracts: the reference's reached places. -/
namespace Go.Av
open Go Go.Proofs
set_option maxRecDepth 100000
set_option maxHeartbeats 2000000
def marks (n : Nat) (ks : List Int) : List AV := (List.range n).map fun (j : Nat) => AV.bool (decide ((j : Int) ∈ ks))
theorem marks_len (n : Nat) (ks : List Int) : (marks n ks).length = n := by simp [marks]
theorem marks_get {n k : Nat} {ks : List Int} (h : k < n) : (marks n ks)[k]? = some (.bool (decide ((k : Int) ∈ ks))) := by simp [marks, h]
theorem marks_set {n k : Nat} {ks : List Int} (h : k < n) : (marks n ks).set k (.bool true) = marks n (mset ks k) := by
  refine List.ext_getElem? fun q => ?_
  by_cases e : q = k
  · subst e
    rw [List.getElem?_set_self (by rw [marks_len]; exact h), marks_get h]
    simp [mset_mem]
  · rw [List.getElem?_set_ne (Ne.symm e)]
    rcases Nat.lt_or_ge q n with c | c
    · rw [marks_get c, marks_get c]
      have : ((q : Int) ∈ mset ks k) ↔ (q : Int) ∈ ks := by
        rw [mset_mem]
        constructor
        · rintro (h | h)
          · exact h
          · omega
        · exact .inl
      simp [this]
    · rw [List.getElem?_eq_none (by rw [marks_len]; exact c), List.getElem?_eq_none (by rw [marks_len]; exact c)]
theorem marks_none (n : Nat) : List.replicate n (AV.bool false) = marks n [] := by
  refine List.ext_getElem? fun q => ?_
  rcases Nat.lt_or_ge q n with c | c
  · rw [marks_get c]; simp [c]
  · rw [List.getElem?_eq_none (by simp; exact c), List.getElem?_eq_none (by rw [marks_len]; exact c)]
def outW (vs : List Int) : AV := if vs = [] then .sl true [] else .rf 2 (vs.length - 1) 0 vs.length
def GOW (vs : List Int) (G : AHeap) : Prop := (vs = [] ∧ G = []) ∨ ∃ Y g, vs ≠ [] ∧ G = Y :: .row (vs.length - 1) 1 (ints vs) :: g
def i39 (t : Bool) (l : List In) (m : Nat) (τ : AFr) (h : AHeap) : Prop :=
  ∃ (i : Nat) (G : AHeap), i ≤ l.length ∧ m = l.length - i ∧ (rK l i).2.length ≤ i ∧ GOW (rK l i).2 G ∧ h = .row 0 1 (marks l.length (rK l i).1) :: G ∧
    τ = { n := 44, s := [(14, .sl t (avs l)), (15, .int .i64 l.length), (16, .int .i64 i), (3, .rf 0 0 0 l.length), (4, outW (rK l i).2)], dfr := [] }
def i39b (t : Bool) (l : List In) (i : Nat) (out : AV) (ks ns : List Int) (G : AHeap) (m : Nat) (τ : AFr) (h : AHeap) : Prop :=
  ∃ q : Nat, q ≤ ns.length ∧ m = ns.length - q ∧ h = .row 0 1 (marks l.length ((ns.take q).foldl mset ks)) :: G ∧
    τ = { n := 44, s := [(14, .sl t (avs l)), (15, .int .i64 l.length), (16, .int .i64 i), (3, .rf 0 0 0 l.length), (4, out), (32, .sl true (ints ns)), (33, .int .i64 ns.length), (34, .int .i64 q)], dfr := [] }
def bod39 : AC := ((.seq (.ops [o 35 (.bin .lss (.t 34) (.t 33))]) (.seq (.cond (.t 35) .skip (.exit 2)) (.seq (.block 3 (.seq (.ops [o 36 (.iaddr 1 (.t 32) (.t 34)), o 37 (.ld none (.t 36)), o 8 (.mov (.t 37))]) (.ops [o 38 (.mov (.t 3)), o 39 (.mov (.t 8)), o 40 (.iaddr 1 (.t 38) (.t 39)), u (.st 1 (.t 40) (.c (.bool true)))]))) (.ops [o 41 (.bin .add (.t 34) (.c (.int .i64 1))), o 34 (.mov (.t 41))])))))
theorem in39 {t : Bool} {l : List In} {i : Nat} {out : AV} {ks ns : List Int} {G : AHeap} {k : List It} {Q : Jump → AFr → AHeap → Prop} (hn : ∀ k ∈ ns, (i : Int) < k ∧ k < l.length) (nl2 : ns.length ≤ 2)
    (H : den PA T12 none k Q .none { n := 44, s := [(35, .bool false), (14, .sl t (avs l)), (15, .int .i64 l.length), (16, .int .i64 i), (3, .rf 0 0 0 l.length), (4, out), (32, .sl true (ints ns)), (33, .int .i64 ns.length), (34, .int .i64 ns.length)], dfr := [] } (.row 0 1 (marks l.length (ns.foldl mset ks)) :: G)) :
    ∀ n τ h, i39b t l i out ks ns G n τ h → aS PA T12 none bod39 (den PA T12 none (.lp (Again (i39b t l i out ks ns G) n) :: .blk 2 :: k) Q) τ h := by
  rintro m τ h ⟨q, hq, rfl, rfl, rfl⟩
  by_cases bq : (q : Int) < (ns.length : Int)
  · have hql : q < ns.length := by omega
    obtain ⟨hk1, hk2⟩ := hn ns[q] (List.getElem_mem hql)
    obtain ⟨k, hk⟩ := Int.eq_ofNat_of_zero_le (by omega : 0 ≤ ns[q])
    have q0 : (0 : Int) ≤ (q : Int) := by omega
    have k0 : (0 : Int) ≤ (k : Int) := by omega
    have kl : k < l.length := by omega
    have gq : (ints ns)[q]? = some (.int .i64 (k : Int)) := by rw [ints_get hql, hk]
    have gm := marks_get (n := l.length) (ks := (ns.take q).foldl mset ks) kl
    have sm := marks_set (n := l.length) (ks := (ns.take q).foldl mset ks) kl
    have w2 : IntKind.i64.wrap ((q : Int) + 1) = ((q + 1 : Nat) : Int) := by rw [wrI64 (by omega) (by omega)]; omega
    have en : (ns.take (q + 1)).foldl mset ks = mset ((ns.take q).foldl mset ks) k := by rw [List.take_add_one, List.getElem?_eq_getElem hql]; simp [hk]
    simp only [WK, simprocAttr, bod39, bq, q0, gq, k0, kl, gm, List.headD_cons, sm]
    refine ⟨ns.length - (q + 1), _, by omega, ⟨q + 1, by omega, rfl, by rw [en], rfl⟩, ⟨rfl, rfl, by simp [alook, w2]⟩⟩
  · have eq' : q = ns.length := by omega
    subst eq'
    simp only [WK, simprocAttr, bod39, bq]
    rw [List.take_length]
    exact H
theorem k39 (t : Bool) (l : List In) (hl : ∀ x ∈ l, x.OK) (c0 : (checkK l).2 = 0) : ACall PA 39 [.sl t (avs l)] [] (ownV (reachK l)).1 (ownV (reachK l)).2 := by
  refine ACall.ofT T12ok hmA h39 (by kernel_rfl) (Nat.le_of_ble_eq_true rfl) (ownV_own _).2 (ownV_own _).1 (aS_den ?_)
  obtain ⟨h1, h2, h3, h4, h5⟩ := check_ok c0
  have m0 : (0 : Int) ≤ (l.length : Int) := by omega
  have m1 : (l.length : Int) * 1 ≤ 140737488355328 := by omega
  have m2 : (l.length : Int) ≤ 140737488355328 := by omega
  have z1 : (0 : Nat) < l.length := by omega
  have g0 : (marks l.length [])[0]? = some (.bool false) := by rw [marks_get z1]; simp
  have s0 : (marks l.length []).set 0 (.bool true) = marks l.length [0] := by rw [marks_set z1]; rfl
  simp only [WK, simprocAttr, c39, n39, avs_len, m0, m1, m2, most, marks_none, Int.mul_one, z1, g0, List.headD_cons, s0]
  refine x_loop (i39 t l) ⟨l.length, _, ⟨0, [], by omega, by omega, by simp [rK], .inl ⟨rfl, rfl⟩, rfl, rfl⟩, ⟨rfl, rfl, by simp [alook, outW, rK]⟩⟩ ?_
  rintro m τ h ⟨i, G, hi, rfl, hlen, hG, rfl, rfl⟩
  by_cases b1 : (i : Int) < (l.length : Int)
  · have hil : i < l.length := by omega
    have i0 : (0 : Int) ≤ (i : Int) := by omega
    have hx := avs_getq hil
    have eg : l.getD i default = l[i] := by simp [hil]
    have hn : ∀ k ∈ nextL l[i] i, (i : Int) < k ∧ k < l.length := fun k hk => ok_next hl c0 hil k hk
    have hxo := hl _ (List.getElem_mem hil)
    obtain ⟨x, hxe⟩ : ∃ x, x = l[i] := ⟨_, rfl⟩
    rw [← hxe] at hx eg hn hxo
    have ib1 : -1000 ≤ (i : Int) := by omega
    have ib2 : (i : Int) ≤ 1000 := by omega
    obtain ⟨ns, hns⟩ : ∃ ns, ns = nextL x i := ⟨_, rfl⟩
    have nl2 : ns.length ≤ 2 := hns ▸ nextL_len x i
    have gm := marks_get (ks := (rK l i).1) hil
    have w : IntKind.i64.wrap ((i : Int) + 1) = ((i + 1 : Nat) : Int) := by rw [wrI64 (by omega) (by omega)]; omega
    obtain ⟨ks, hks⟩ : ∃ ks, ks = (rK l i).1 := ⟨_, rfl⟩
    obtain ⟨vs, hvs⟩ : ∃ vs, vs = (rK l i).2 := ⟨_, rfl⟩
    rw [← hks] at gm ⊢
    rw [← hvs] at hG hlen ⊢
    by_cases b2 : (i : Int) ∈ ks
    · have hr : rK l (i + 1) = (ns.foldl mset ks, vs ++ [(i : Int)]) := by rw [rK, if_pos (by rw [← hks]; exact b2), eg, ← hns, ← hks, ← hvs]
      have hlen' : (vs ++ [(i : Int)]).length ≤ i + 1 := by rw [List.length_append]; simp; omega
      have hne : vs ++ [(i : Int)] ≠ [] := by simp
      rcases hG with ⟨e1, rfl⟩ | ⟨Y, g, e1, rfl⟩
      · simp only [WK, simprocAttr, b1, i0, hil, hx, In.av, inV, gm, b2, outW, e1, appR, most, t12_s, S11, S10, S9, S8, S7, S6, S5, S4, S3, S2, S1, t12_63, hxo, ib1, ib2, and_self, ← hns, ints_len]
        refine x_loop (i39b t l i (outW (vs ++ [(i : Int)])) ks ns [rowI x, .row 0 1 [.int .i64 i]]) ⟨ns.length, _, ⟨0, by omega, by omega, by simp [In.av, inV], rfl⟩, ⟨rfl, rfl, by simp [alook, outW, e1]⟩⟩ ?_
        refine in39 (G := [rowI x, .row 0 1 [.int .i64 i]]) (hns ▸ hn) nl2 ?_
        simp only [WK, simprocAttr]
        refine ⟨l.length - (i + 1), _, by omega, ⟨i + 1, [rowI x, .row 0 1 [.int .i64 i]], by omega, rfl, by rw [hr]; exact hlen', .inr ⟨rowI x, [], by rw [hr]; exact hne, ?_⟩, ?_, rfl⟩, ⟨rfl, rfl, ?_⟩⟩
        · rw [hr, e1]; simp [ints]
        · rw [hr]
        · rw [hr]; simp [alook, w]
      · have hm : (vs.length + 1) * 8 ≤ 140737488355328 := by omega
        have il : (ints vs).length = vs.length := by simp [ints]
        have it : (ints vs).take vs.length = ints vs := List.take_of_length_le (by omega)
        have ia : ints vs ++ [.int .i64 (i : Int)] = ints (vs ++ [(i : Int)]) := by simp [ints]
        have vl : vs.length ≠ 0 := fun c => e1 (List.length_eq_zero_iff.1 c)
        have vv : vs.length - 1 + 1 = vs.length := by omega
        simp only [WK, simprocAttr, b1, i0, hil, hx, In.av, inV, gm, b2, outW, e1, appR, most, t12_s, S11, S10, S9, S8, S7, S6, S5, S4, S3, S2, S1, t12_63, hxo, ib1, ib2, and_self, ← hns, ints_len, hm, il, it, ia, vv, Nat.le_refl]
        refine x_loop (i39b t l i (outW (vs ++ [(i : Int)])) ks ns (Y :: .row vs.length 1 (ints (vs ++ [(i : Int)])) :: (g ++ [rowI x]))) ⟨ns.length, _, ⟨0, by omega, by omega, by simp [In.av, inV], rfl⟩, ⟨rfl, rfl, by simp [alook, outW]⟩⟩ ?_
        refine in39 (hns ▸ hn) nl2 ?_
        simp only [WK, simprocAttr]
        refine ⟨l.length - (i + 1), _, by omega, ⟨i + 1, Y :: .row vs.length 1 (ints (vs ++ [(i : Int)])) :: (g ++ [rowI x]), by omega, rfl, by rw [hr]; exact hlen', .inr ⟨Y, g ++ [rowI x], by rw [hr]; exact hne, ?_⟩, ?_, rfl⟩, ⟨rfl, rfl, ?_⟩⟩
        · rw [hr]; simp
        · rw [hr]
        · rw [hr]; simp [alook, w]
    · have hr : rK l (i + 1) = rK l i := by rw [rK, if_neg (by rw [← hks]; exact b2)]
      rcases hG with ⟨e1, rfl⟩ | ⟨Y, g, e1, rfl⟩
      · exfalso
        rcases i with _ | i
        · exact b2 (by rw [hks]; simp [rK])
        · have := rK_one l i; rw [← hvs, e1] at this; simp at this
      · simp only [WK, simprocAttr, b1, i0, hil, hx, In.av, inV, gm, b2, outW, e1, appR, most, t12_s, S11, S10, S9, S8, S7, S6, S5, S4, S3, S2, S1, t12_63, hxo, ib1, ib2, and_self, ← hns, ints_len]
        refine ⟨l.length - (i + 1), _, by omega, ⟨i + 1, Y :: .row (vs.length - 1) 1 (ints vs) :: (g ++ [rowI x]), by omega, rfl, by rw [hr, ← hvs]; omega, .inr ⟨Y, g ++ [rowI x], by rw [hr, ← hvs]; exact e1, by rw [hr, ← hvs]⟩, ?_, rfl⟩, ⟨rfl, rfl, ?_⟩⟩
        · rw [hr, ← hks]; simp [In.av, inV]
        · rw [hr, ← hvs]; simp [alook, w, outW, e1]
  · have ei : i = l.length := by omega
    subst ei
    simp only [WK, simprocAttr, b1]
    rcases hG with ⟨e1, rfl⟩ | ⟨Y, g, e1, rfl⟩
    · exfalso
      obtain ⟨m, hm⟩ : ∃ m, l.length = m + 1 := ⟨l.length - 1, by omega⟩
      rw [hm] at e1
      have := rK_one l m; rw [e1] at this; simp at this
    · have ov : outW (rK l l.length).2 = .rf 2 ((rK l l.length).2.length - 1) 0 (rK l l.length).2.length := by simp [outW, e1]
      simp only [WK, simprocAttr, EW, r39, ov]
      simp [ownV, reachK, e1]
end Go.Av

/- CheckReaches: what is reached, and in how many steps at most. -/
namespace Go.Av
open Go Go.Proofs
set_option maxRecDepth 100000
set_option maxHeartbeats 2000000
def S13 : Spec := fun f args => match f, args with
  | 37, [.sl _ xs] => match decIns xs with
    | some l => some (reachV l)
    | none => none
  | 39, [.sl _ xs] => match decIns xs with
    | some l => if (checkK l).2 = 0 then some (ownV (reachK l)) else none
    | none => none
  | 40, [.sl _ xs] => match decIns xs with
    | some l => if (checkK l).2 = 0 then some (.int .i64 (mostK l), []) else none
    | none => none
  | f, args => S11 f args
theorem S13ok : SpecOK PA S13 := by
  refine ⟨fun f args r l h => ?_⟩
  unfold S13 at h
  split at h
  · rename_i tt xs
    split at h
    · rename_i l' hd
      obtain ⟨rfl, hok⟩ := decIns_inv hd
      have e : reachV l' = (r, l) := by injection h
      have k := k37 tt l' hok
      have o := reachV_own l'
      rw [e] at k o
      exact ⟨k, by simp only [List.mem_singleton, forall_eq]; exact avs_bel _ _ _, o.1, o.2⟩
    · cases h
  · rename_i tt xs
    split at h
    · rename_i l' hd
      obtain ⟨rfl, hok⟩ := decIns_inv hd
      split at h
      · rename_i hc
        have e : ownV (reachK l') = (r, l) := by injection h
        have k := k39 tt l' hok hc
        have o := ownV_own (reachK l')
        rw [e] at k o
        exact ⟨k, by simp only [List.mem_singleton, forall_eq]; exact avs_bel _ _ _, o.1, o.2⟩
      · cases h
    · cases h
  · split at h
    · rename_i hd
      obtain ⟨rfl, hok⟩ := decIns_inv hd
      split at h
      · rename_i hc
        cases h
        exact ⟨k40 _ _ hok hc, by simp only [List.mem_singleton, forall_eq]; exact avs_bel _ _ _, own_solid (by simp [solid_int]), ownH_nil⟩
      · cases h
    · cases h
  · exact S11ok.ok _ _ _ _ h
theorem reach_ne {l : List In} (h : 1 ≤ l.length) : reachK l ≠ [] := fun c => by
  obtain ⟨m, hm⟩ : ∃ m, l.length = m + 1 := ⟨l.length - 1, by omega⟩
  unfold reachK at c
  rw [hm] at c
  have := rK_one l m; rw [c] at this; simp at this
def i9 (t : Bool) (rows : List (List In)) (m : Nat) (τ : AFr) (h : AHeap) : Prop :=
  ∃ i : Nat, i ≤ rows.length ∧ i ≤ 8 ∧ m = rows.length - i ∧ τ = { n := 79, s := [(14, .sl t (rowsV rows)), (15, .int .i64 rows.length), (16, .int .i64 i)], dfr := [] }
theorem k9 (t : Bool) (rows : List (List In)) (hok : ∀ l ∈ rows, ∀ x ∈ l, x.OK) : ACall PA 9 [.sl t (rowsV rows)] [] (.bool true) [] := by
  refine ACall.ofS S13ok hmA h9 (by kernel_rfl) (Nat.le_of_ble_eq_true rfl) ownH_nil (own_solid (by simp [solid_bool])) (aS_den ?_)
  simp only [WK, simprocAttr, S13, S11, S10, S9, S8, S7, S6, S5, S4, S3, S2, S1, rows_len, c9, n9]
  refine x_loop (i9 t rows) ⟨rows.length, _, ⟨0, by omega, by omega, by omega, rfl⟩, ⟨rfl, rfl, by simp [alook]⟩⟩ ?_
  rintro m τ h ⟨i, hi, hi8, rfl, rfl⟩
  have i0 : (0 : Int) ≤ (i : Int) := by omega
  by_cases b1 : (i : Int) < (rows.length : Int)
  · have hlt : i < rows.length := by omega
    have hr := rows_get hlt
    by_cases b2 : (i : Int) = 8
    · have b3 : ((i : Int) == 8) = true := by simp [b2]
      simp only [WK, simprocAttr, S13, S11, S10, S9, S8, S7, S6, S5, S4, S3, S2, S1, b1, i0, hr, b3]
      simp only [WK, simprocAttr, EW, r9]
    · have b3 : ((i : Int) == 8) = false := by simp [b2]
      have hl : ∀ x ∈ rows[i], x.OK := hok _ (List.getElem_mem hlt)
      obtain ⟨l, hle⟩ : ∃ l, l = rows[i] := ⟨_, rfl⟩
      rw [← hle] at hr hl
      have hd := decIns_avs hl
      have w : IntKind.i64.wrap ((i : Int) + 1) = ((i + 1 : Nat) : Int) := by rw [wrI64 (by omega) (by omega)]; omega
      obtain ⟨L, hL⟩ : ∃ L, L = l.take 65 := ⟨_, rfl⟩
      have hLok : ∀ y ∈ L, y.OK := fun y hy => hl y (List.mem_of_mem_take (hL ▸ hy))
      have hdL := decIns_avs hLok
      have el : (avs L).take L.length = avs L := by rw [avs_take, List.take_length]
      by_cases e : L = []
      · subst e
        have ea : avs ([] : List In) = [] := rfl
        have c2 : checkK [] = (0, 140) := by kernel_rfl
        have c3 : reachV [] = (.tup [.sl true [], .int .i64 140], []) := by simp [reachV, c2]
        have hd0 : decIns [] = some [] := rfl
        simp only [WK, simprocAttr, S13, S11, S10, S9, S8, S7, S6, S5, S4, S3, S2, S1, get0, getk, rowAt0, rowAtk, List.append_assoc, b1, i0, hr, b3, hd, ← hL, ownRow, ea, c2, c3, hd0]
        refine ⟨rows.length - (i + 1), _, by omega, ⟨i + 1, by omega, by omega, rfl, rfl⟩, ⟨rfl, rfl, by simp [alook, w]⟩⟩
      · have e' : ¬ avs L = [] := by rw [avs_nil]; exact e
        by_cases c0 : (checkK L).2 = 0
        · obtain ⟨h1, h2, h3, h4, h5⟩ := check_ok c0
          have rn := reach_ne h1
          have rv : reachV L = (.tup [.rf 0 ((reachK L).length - 1) 0 (reachK L).length, .int .i64 0], [.row ((reachK L).length - 1) 1 (ints (reachK L))]) := by simp [reachV, c0, ownV, rn]
          have ov : ownV (reachK L) = (.rf 0 ((reachK L).length - 1) 0 (reachK L).length, [.row ((reachK L).length - 1) 1 (ints (reachK L))]) := by simp [ownV, rn]
          have rl : (reachK L).length ≤ 1000000000 := by have := rK_len L L.length; unfold reachK; omega
          have it : (ints (reachK L)).take (reachK L).length = ints (reachK L) := List.take_of_length_le (by rw [ints_len]; omega)
          have q1 : (mostK L != mostK L) = false := by simp
          simp only [WK, simprocAttr, S13, S11, S10, S9, S8, S7, S6, S5, S4, S3, S2, S1, get0, getk, rowAt0, rowAtk, List.append_assoc, b1, i0, hr, b3, hd, ← hL, ownRow, e', hdL, el, avs_len, rv, h5, ov, it, decInts_ints, rl, q1]
          refine ⟨rows.length - (i + 1), _, by omega, ⟨i + 1, by omega, by omega, rfl, rfl⟩, ⟨rfl, rfl, by simp [alook, w]⟩⟩
        · have rv : reachV L = (.tup [.sl true [], .int .i64 (checkK L).2], []) := by simp [reachV, c0]
          have q1 : ((checkK L).2 != (checkK L).2) = false := by simp
          have q2 : ((checkK L).2 != 0) = true := by simp [c0]
          simp only [WK, simprocAttr, S13, S11, S10, S9, S8, S7, S6, S5, S4, S3, S2, S1, get0, getk, rowAt0, rowAtk, List.append_assoc, b1, i0, hr, b3, hd, ← hL, ownRow, e', hdL, el, avs_len, rv, c0, q1, q2]
          refine ⟨rows.length - (i + 1), _, by omega, ⟨i + 1, by omega, by omega, rfl, rfl⟩, ⟨rfl, rfl, by simp [alook, w]⟩⟩
  · simp only [WK, simprocAttr, b1]
    simp only [WK, simprocAttr, EW, r9]
end Go.Av
