/- Part of the proof of RerankNarrow. -/
import Derived.Test.YteehkdejkemnmaaDoorDb
import Derived.Lib.LaidTab
import Derived.Test.YteehkdejkemnmaaDoorDd
import Derived.Shelf.SlSortCmp.InsertionK
import Derived.Shelf.SlicesE.Clone
set_option linter.unusedVariables false
set_option linter.unusedSimpArgs false
namespace Go.Det
open Go.RowKit
variable {P : Program}
noncomputable def stG (g : Nat) (k : IntKind) (zs : List Int) : St := { heap := .leaf, next := 0, gl := Tr.set .leaf g (zs.map fun z => .int k z) }
theorem tab_VRs {ρ : Names} {k : IntKind} : ∀ zs : List Int, VRs ρ (zs.map fun z => .int k z) (zs.map fun z => Value.int k z)
 | [] => .nil
 | z :: zs => .cons (.int k z) (tab_VRs zs)
theorem tab_cells {P : Program} {W : World} {name : String} {k : IntKind} {zs : List Int} {g : Nat} (h : Lib.TabIs P W name k zs) (hg : P.globalNamed name = some g) (i : Nat) (v : Value) (hv : (zs.map fun z => Value.int k z)[i]? = some v) : W.cell? ⟨g, i, none⟩ = some v := by
 have hi : i < zs.length := by
  rcases Nat.lt_or_ge i zs.length with q | q
  ·exact q
  ·rw [List.getElem?_eq_none (by simpa using q)] at hv; cases hv
 rw [h.cell hg i hi]
 rw [List.getElem?_map, List.getElem?_eq_getElem hi] at hv
 simp only [Option.map_some] at hv
 rw [← hv]; simp [List.getD, hi]
end Go.Det
namespace Go.Det
open Go.RowKit
variable {P : Program}
structure GlIs (g : Nat) (k : IntKind) (zs : List Int) (gl : Tr (List AV)) : Prop where
 got : gl.get g = some (zs.map fun z => .int k z)
 fr : ∀ g l, gl.get g = some l → AV.frees l = true
noncomputable def glT (g : Nat) (k : IntKind) (zs : List Int) : Tr (List AV) := Tr.set .leaf g (zs.map fun z => .int k z)
theorem frees_ints {k : IntKind} : ∀ zs : List Int, AV.frees (zs.map fun z => AV.int k z) = true
 | [] => rfl
 | z :: zs => by simp only [List.map_cons, AV.frees]; rw [show AV.free (.int k z) = true from rfl, ifb_true]; exact frees_ints zs
theorem glT_inv {g : Nat} {k : IntKind} {zs : List Int} {g' : Nat} {l : List AV} (h : (glT g k zs).get g' = some l) : g' = g ∧ l = zs.map fun z => .int k z := by
 unfold glT at h
 rw [Tr.get_set] at h
 by_cases e : g' = g
 ·rw [if_pos e] at h; injection h with h; exact ⟨e, h.symm⟩
 ·rw [if_neg e] at h; simp [Tr.get] at h
theorem glT_is {g : Nat} {k : IntKind} {zs : List Int} : GlIs g k zs (glT g k zs) :=
 ⟨by unfold glT; rw [Tr.get_set, if_pos rfl], fun g' l h => by rw [(glT_inv h).2]; exact frees_ints zs⟩
noncomputable def stBg (b : Bool) (gl : Tr (List AV)) : St := { heap := .leaf, next := 0, vm := b, gl := gl }
theorem tab_HR {g : Nat} {k : IntKind} {zs : List Int} {w : World} (h : ∀ (i : Nat) (v : Value), (zs.map fun z => Value.int k z)[i]? = some v → w.cell? ⟨g, i, none⟩ = some v) (b : Bool) : HR (frozenAll w) (stBg b (glT g k zs)) w := by
 refine ⟨(fun b L h => by cases h), (fun b o h => by simp [stBg, Tr.get] at h), (fun b b' o o' L L' h => by simp [stBg, Tr.get] at h), (fun _ _ _ h => h), (fun a i v h b o L hb => by simp [stBg, Tr.get] at hb), fun g' l hl => ?_⟩
 obtain ⟨rfl, rfl⟩ := glT_inv (show (glT g k zs).get g' = some l from hl)
 exact ⟨_, tab_VRs zs, h⟩
theorem law_calls_g {g : Nat} {k : IntKind} {zs : List Int} {f : FuncId} {args : List AV} {st' : St} {b : Bool} (h : CallS P f args (stBg b (glT g k zs)) (.bool true) st') {w : World} {args' : List Value}
  (hg : ∀ (i : Nat) (v : Value), (zs.map fun z => Value.int k z)[i]? = some v → w.cell? ⟨g, i, none⟩ = some v) (hA : VRs (frozenAll w) args args') :
  Calls P f ⟨args'⟩ w fun e w' => e = .returned (.bool true) ∧ Below w.heap.size w w' := by
 refine (h.calls (tab_HR hg b) hA).mono ?_
 rintro e w' ⟨ρ, v', rfl, V, H, G⟩
 cases V
 exact ⟨rfl, G.os, G.tape, G.output, G.size, fun k hk => G.same k hk fun b o L hb => by simp [stBg, Tr.get] at hb⟩
theorem law_plain_g {g : Nat} {k : IntKind} {zs : List Int} (hm : P.follows .mixedOrders = true) {K : Known} (hK : KnownOk P K) {n f : Nat} {shapes : List Sh} {b : Bool}
  (h : ∀ y : ShPls shapes, ShPlOks shapes y → callW P (runW P K n) f (ShPlAvs shapes y) (stBg b (glT g k zs)) fun v _ => yesQ v)
  {x : ShVs shapes} (hx : ShOks shapes x) {w : World} {args' : List Value} (hg : ∀ (i : Nat) (v : Value), (zs.map fun z => Value.int k z)[i]? = some v → w.cell? ⟨g, i, none⟩ = some v) (hA : VRs (frozenAll w) (ShAvs shapes x) args') :
  Calls P f ⟨args'⟩ w fun e w' => e = .returned (.bool true) ∧ Below w.heap.size w w' := by
 obtain ⟨v, st', h1, h2⟩ := CallS.of_W hm hK n (h _ (ShPl_ok shapes x hx))
 obtain rfl := yesQ_eq h2
 exact law_calls_g h1 hg ((ShPl_wk shapes x).vrs hA)
theorem CallS.tab {g : Nat} {k : IntKind} {zs : List Int} {f : FuncId} {args : List AV} {v : AV} {st1 : St} (h : CallS P f args (stG g k zs) v st1) {gl : Tr (List AV)} (hg : GlIs g k zs gl) (vm : Bool) : CallS P f args (stL vm [] gl) v st1 := by
 refine ⟨h.1, fun ρ w args' cs hH hA => ?_⟩
 have hH' : HR ρ (stG g k zs) w := by
  refine ⟨hH.lt, (fun b o h => by simp [stG, Tr.get] at h), (fun b b' o o' L L' h => by simp [stG, Tr.get] at h), hH.mem, (fun a i v h b o L hb => by simp [stG, Tr.get] at hb), fun g' l hl => ?_⟩
  obtain ⟨rfl, rfl⟩ := glT_inv (show (glT g k zs).get g' = some l from hl)
  exact hH.glob _ _ hg.got
 obtain ⟨ρ', w', v', fr', G, H, V, s, l⟩ := h.2 ρ w args' cs hH' hA
 exact ⟨ρ', w', v', fr', ⟨G.le, G.next, G.fresh, G.size, G.img, G.same, G.os, G.tape, G.output, G.drawn, G.grew⟩, H, V, s, l⟩
theorem closed_gl (hm : P.follows .mixedOrders = true) {n f g : Nat} {k : IntKind} {zs : List Int} (h : answersTrue ((run P n).call f [] (stG g k zs)) = true) {gl : Tr (List AV)} (hg : GlIs g k zs gl) (vm : Bool) :
  ∃ st1, CallS P f [] (stL vm [] gl) (.bool true) st1 := by
 unfold answersTrue at h
 split at h
 ·rename_i st hr
  exact ⟨st, CallS.tab ((run_sound hm n).2 f [] (stG g k zs) _ st hr) hg vm⟩
 ·cases h
noncomputable def answersInt (q : IntKind) (z : Int) (r : Option (AV × St)) : Bool := match r with | some (.int q' z', _) => and (eqKind q' q) (eqInt z' z) | _ => false
theorem int_gl (hm : P.follows .mixedOrders = true) {n f g : Nat} {k : IntKind} {zs : List Int} {args : List AV} {q : IntKind} {z : Int} (h : answersInt q z ((run P n).call f args (stG g k zs)) = true) {gl : Tr (List AV)} (hg : GlIs g k zs gl) (vm : Bool) :
  ∃ st1, CallS P f args (stL vm [] gl) (.int q z) st1 := by
 unfold answersInt at h
 split at h
 ·rename_i q' z' st hr
  rw [Bool.and_eq_true] at h
  obtain rfl := eqKind_iff.1 h.1
  obtain rfl := eqInt_iff.1 h.2
  exact ⟨st, CallS.tab ((run_sound hm n).2 f args (stG g k zs) _ st hr) hg vm⟩
 ·cases h
noncomputable def livesG (gl : Tr (List AV)) : CallC := callCg gl 0 Tel.nil BTel.nil (fun _ => True) [⟨_, _, .cons 0 (.con (.bool true) rfl) .nil, BTel.nil, fun _ _ _ => True⟩]
theorem livesG_ok (hm : P.follows .mixedOrders = true) {n f g : Nat} {k : IntKind} {zs : List Int} (h : answersTrue ((run P n).call f [] (stG g k zs)) = true) {gl : Tr (List AV)} (hg : GlIs g k zs gl) : CcOk P f (livesG gl) :=
 call_ok_ofg (vm := false) (rw' := fun _ => false) hg.fr rfl fun z _ => by
  obtain ⟨st1, h1⟩ := closed_gl hm h hg false
  refine ⟨_, st1, h1, ?_⟩
  show resAt 0 _ z (.bool true) st1
  unfold resAt one1
  refine (ifp_iff.2 (Or.inl ⟨rfl, ?_⟩))
  exact ⟨rfl, rfl, trivial⟩
end Go.Det
namespace Go.Det
open Go.RowKit Go.Sort Go.Proofs
variable {P : Program}
theorem grow_of_goes {ρ ρ' : Names} {st st' : St} {W w' : World} (G : Goes ρ st W ρ' st' w') (hs : st.heap = .leaf) : ∃ q os', w' = grow (W.drewN q) os' := by
 refine ⟨w'.drawn - W.drawn, w'.heap.extract W.heap.size w'.heap.size, ?_⟩
 have hsame : ∀ k, k < W.heap.size → w'.heap[k]? = W.heap[k]? := fun k hk => G.same k hk fun b o L hb => by rw [hs] at hb; simp [Tr.get] at hb
 have hd := G.drawn
 have hsz := G.size
 have hheap : w'.heap = W.heap ++ w'.heap.extract W.heap.size w'.heap.size := by
  apply Array.ext_getElem?
  intro i
  by_cases h : i < W.heap.size
  ·rw [Array.getElem?_append_left h, hsame i h]
  ·rw [Array.getElem?_append_right (by omega), Array.getElem?_extract]
   by_cases h2 : i < w'.heap.size
   ·rw [if_pos (by omega)]; congr 1; omega
   ·rw [if_neg (by omega), Array.getElem?_eq_none (by omega)]
 have h1 := G.os
 have h2 := G.tape
 have h3 := G.output
 obtain ⟨heap, tape, drawn, os, output⟩ := w'
 obtain ⟨heap0, tape0, drawn0, os0, output0⟩ := W
 simp only [grow, World.drewN] at *
 subst h1; subst h2; subst h3
 rw [← hheap, show drawn0 + (drawn - drawn0) = drawn by omega]
section
theorem twin_flat {α : Type} {E : Enc α} {g : α → List Value} (hg' : ∀ ρ x l, VRs ρ (E.f x) l → l = g x) {ρ : Names} : ∀ {l : List α} {l' : List Value}, VRs ρ (l.flatMap E.f) l' → l' = l.flatMap g
 | [], l', h => by cases h; rfl
 | a :: l, l', h => by
  rw [List.flatMap_cons] at h ⊢
  have h1 := h.take E.e
  have h2 := h.drop E.e
  rw [List.take_left' (E.len a)] at h1
  rw [List.drop_left' (E.len a)] at h2
  rw [← List.take_append_drop E.e l', hg' _ _ _ h1, twin_flat hg' h2]
theorem flat_twin {α : Type} {E : Enc α} {g : α → List Value} (hg : ∀ ρ x, VRs ρ (E.f x) (g x)) {ρ : Names} : ∀ l : List α, VRs ρ (l.flatMap E.f) (l.flatMap g)
 | [] => .nil
 | a :: l => by
  rw [List.flatMap_cons, List.flatMap_cons]
  exact VRs.append (hg ρ a) (flat_twin hg l)
variable {α : Type} [Inhabited α] {E : Enc α} {g : α → List Value}
theorem cmp_lays (hg : ∀ ρ x, VRs ρ (E.f x) (g x)) {fc : FuncId} {cf : α → α → Int} (h : ∀ x y, Val P fc [.agg (E.f x), .agg (E.f y)] (.int .i64 (cf x y))) (k blk off size : Nat) (w : World) :
  CmpLays P fc #[] g k cf blk off size w := by
 intro m os dk _ x y
 generalize sortWorldK g k w blk off m dk os = W
 have hA : VRs (frozenAll W) [.agg (E.f x), .agg (E.f y)] [.agg ⟨g x⟩, .agg ⟨g y⟩] := .cons (.agg (hg _ _)) (.cons (.agg (hg _ _)) .nil)
 have hc := (h x y _).calls (frozenAll_HR W false) hA
 rw [Array.append_empty]
 refine Calls.mono (show Calls P fc ⟨[.agg ⟨g x⟩, .agg ⟨g y⟩]⟩ W _ from hc) ?_
 rintro e w' ⟨ρ', v', rfl, V, H, G⟩
 cases V
 exact ⟨rfl, grow_of_goes G rfl⟩
theorem flat_get {k : Nat} (hk : ∀ x, (g x).length = k) : ∀ (l : List α) (t : Nat), t < l.length * k → (l.flatMap g)[t]? = some ((g l[t / k]!)[t % k]!)
  | [], t, h => by simp at h
  | a :: l, t, h => by
    have hk0 : 0 < k := by rcases Nat.eq_zero_or_pos k with h0 | h0; · subst h0; simp at h
                           · exact h0
    rw [List.flatMap_cons]
    by_cases c : t < k
    · rw [List.getElem?_append_left (by rw [hk]; exact c), Nat.div_eq_of_lt c, Nat.mod_eq_of_lt c, List.getElem?_eq_getElem (by rw [hk]; exact c)]
      simp [List.getElem!_eq_getElem?_getD, hk, c]
    · obtain ⟨u, rfl⟩ : ∃ u, t = u + k := ⟨t - k, by omega⟩
      rw [List.getElem?_append_right (by rw [hk]; omega), hk, show u + k - k = u by omega, flat_get hk l u (by rw [List.length_cons, Nat.succ_mul] at h; omega), Nat.add_div_right u hk0, Nat.add_mod_right]
      simp
theorem sort_row (hg : ∀ ρ x, VRs ρ (E.f x) (g x)) (hg' : ∀ ρ x l, VRs ρ (E.f x) l → l = g x) {fs fc : FuncId} {cf : α → α → Int}
  (hen : ∀ (X : Array Value) (w : World), (callFunc fs X).run P w = .ok (.enter fs X) w) (hv : ∀ x y, Val P fc [.agg (E.f x), .agg (E.f y)] (.int .i64 (cf x y)))
  (K : ∀ (blk off cap : Nat) (d : Array α) (w : World), CmpLays P fc #[] g E.e cf blk off d.size w → HoldsK g E.e w blk off d → blk < w.heap.size → d.size < 4611686018427387904 →
   Calls P fs #[.slice (some ⟨blk, off, none⟩) d.size cap, .func (.func fc) #[] #[]] w fun e w' => e = .returned (.tuple #[]) ∧ ∃ n os, w' = sortWorldK g E.e w blk off n (d.toList.mergeSort fun x y => !(ltOf cf) y x).toArray os)
  (K0 : ∀ (p : Option Addr) (cap : Nat) (fv : Value) (w : World), Calls P fs #[.slice p 0 cap, fv] w fun e w' => e = .returned (.tuple #[]) ∧ w' = w)
  {vm : Bool} {ty : TypeId} (l : List α) (c : Nat) (hl : l.length < 4611686018427387904) :
  CallS P fs [.slice 0 0 l.length c false E.e, .func fc [] []] (stL vm [.row (l.flatMap E.f) ty]) (.tuple []) (stL vm [.row ((l.mergeSort fun x y => !(ltOf cf) y x).flatMap E.f) ty]) := by
 refine CallS.of_calls hen fun ρ w args' hH hA => ?_
 cases hA with | cons hs hA =>
 cases hA with | cons hf hA =>
 cases hA
 cases hf with | func ha hc =>
 cases ha; cases hc
 cases hs with | slice q1 q2 q3 q4 q5 =>
 rename_i L a cap'
 by_cases h0 : l.length = 0
 ·obtain rfl := List.length_eq_zero_iff.1 h0
  refine (K0 _ _ _ w).mono ?_
  rintro e w' ⟨rfl, rfl⟩
  exact ⟨ρ, _, rfl, by simpa using Goes.refl, by simpa using hH, .tuple .nil⟩
 have hk : ∀ x, (g x).length = E.e := fun x => by have h := (hg ⟨fun _ => none, fun _ _ => none⟩ x).length; have h2 := E.len x; omega
 have hg0 : (stL vm [.row (l.flatMap E.f) ty]).heap.get 0 = some (.row (l.flatMap E.f) ty) := heapL_at (l := [Ob.row (l.flatMap E.f) ty]) (k := 0) (i := 0) rfl
 obtain ⟨L', hL', hO⟩ := hH.obj 0 _ hg0
 obtain rfl : L' = L := by rw [q1] at hL'; injection hL' with h; exact h.symm
 obtain ⟨arr, e, lo, hi, k1, k2, k3, k4, k5⟩ := hO
 have hfl : (l.flatMap E.f).length = l.length * E.e := E.flen l
 rcases q5 with q5 | ⟨rfl, q6⟩
 ·omega
 have hblk := (hH.lt _ _ q1).2
 have harr : arr.toList.length = L'.tot := by rw [Array.length_toList, k2]
 have hvr : VRs ρ (l.flatMap E.f) (arr.toList.take (l.flatMap E.f).length) := VRs.of_get (by rw [List.length_take]; omega) fun i v hv => by
  obtain ⟨_, v', p1, p2⟩ := k5 i v hv
  have hi : i < (l.flatMap E.f).length := by
   rcases Nat.lt_or_ge i (l.flatMap E.f).length with q | q
   ·exact q
   ·rw [List.getElem?_eq_none q] at hv; cases hv
  refine ⟨v', ?_, p2⟩
  rw [List.getElem?_take_of_lt hi, Array.getElem?_toList]
  rw [k3.1, Nat.zero_add] at p1; exact p1
 have htw := twin_flat hg' hvr
 have hoff : L'.off + 0 = 0 := by rw [k3.1]
 have hcell : ∀ j, j < l.length * E.e → arr[j]? = some ((g l[j / E.e]!)[j % E.e]!) := fun j hj => by
  rw [← flat_get hk l j hj, ← htw, List.getElem?_take_of_lt (by omega), Array.getElem?_toList]
 have hHold : HoldsK g E.e w L'.blk (L'.off + 0) l.toArray := by
  intro j hj
  rw [size_flatK] at hj
  have hj' : j < l.length * E.e := hj
  rw [get_flatK _ _ _ _ hj, hoff, Nat.zero_add]
  constructor
  ·rw [World.cell?, k1]
   show arr[j]? = _
   rw [hcell j hj']; simp
  ·have := k4 j (by have := k3.2; omega)
   simp only [World.frozen?, k1]
   simp; omega
 refine (K L'.blk (L'.off + 0) cap' l.toArray w (cmp_lays hg hv _ _ _ _ _) hHold hblk (by simpa using hl)).mono ?_
 rintro e' w' ⟨rfl, n, os, rfl⟩
 show ∃ ρ' v', _
 generalize hsrt : (l.toArray.toList.mergeSort fun x y => !(ltOf cf) y x) = s
 have hsrt' : (l.mergeSort fun x y => !(ltOf cf) y x) = s := hsrt
 have hsl : s.length = l.length := by rw [← hsrt', List.length_mergeSort]
 have hsf : (s.flatMap E.f).length = l.length * E.e := by rw [E.flen s, hsl]
 let arr' := putCells id (L'.off + 0) (flatK g E.e s.toArray) arr
 have harr' : arr'.size = arr.size := by simp [arr', putCells]
 have hget : ∀ i, i < l.length * E.e → arr'[L'.off + i]? = some ((g s[i / E.e]!)[i % E.e]!) := fun i hi => by
  have hi2 : L'.off + i < arr.size := by rw [k2]; have := k3.2; omega
  show (putCells id (L'.off + 0) (flatK g E.e s.toArray) arr)[L'.off + i]? = _
  rw [putCells, Array.getElem?_mapIdx, Array.getElem?_eq_getElem hi2]
  simp only [Option.map_some]
  rw [if_pos (by rw [size_flatK]; simp only [List.size_toArray, hsl]; omega)]
  simp only [id]
  rw [show L'.off + i - (L'.off + 0) = i by omega, get_flatK _ _ _ _ (by simp only [List.size_toArray, hsl]; exact hi)]
  simp
 have ho : OR ρ L' (.row (s.flatMap E.f) ty) (some (.cells arr' e (lo, hi))) := by
  refine ⟨arr', e, lo, hi, rfl, by rw [harr', k2], ⟨k3.1, by rw [hsf, ← hfl]; exact k3.2⟩, k4, fun i v hv => ?_⟩
  have hi : i < l.length * E.e := by
   rcases Nat.lt_or_ge i (l.length * E.e) with q | q
   ·exact q
   ·rw [List.getElem?_eq_none (by rw [hsf]; exact q)] at hv; cases hv
  refine ⟨allScalar_iff.1 (E.fscal s) _ (List.mem_of_getElem? hv), ?_⟩
  obtain ⟨v', p1, p2⟩ := (flat_twin hg (ρ := ρ) s).get hv
  rw [flat_get hk s i (by rw [hsl]; exact hi)] at p1
  exact ⟨v', by rw [hget i hi]; exact p1, p2⟩
 obtain ⟨H1, G1⟩ := hH.put hg0 q1 (.row (s.flatMap E.f) ty) _ ho _ rfl
 have H2 := H1.drew (w.drawn + n)
 have G2 := G1.drew (w.drawn + n) (Nat.le_add_right _ _)
 have hst : (stL vm [.row (l.flatMap E.f) ty]).put 0 (.row (s.flatMap E.f) ty) = stL vm [.row (s.flatMap E.f) ty] := rfl
 rw [hst] at H2 G2
 have hw : sortWorldK g E.e w L'.blk (L'.off + 0) n s.toArray os = grow { ({ w with heap := w.heap.setIfInBounds L'.blk (.cells arr' e (lo, hi)) } : World) with drawn := w.drawn + n } os := by
  have hm : w.heap.modify L'.blk (onCells (putCells id (L'.off + 0) (flatK g E.e s.toArray))) = w.heap.setIfInBounds L'.blk (.cells arr' e (lo, hi)) := by
   apply Array.ext_getElem?
   intro i
   rw [Array.getElem?_modify, Array.getElem?_setIfInBounds]
   by_cases c : L'.blk = i
   ·subst c; simp only [if_true, k1, hblk]; rfl
   ·simp [c]
  show grow (mapBlock (Go.Sort.ahead w n) L'.blk _) os = _
  unfold mapBlock
  show grow { (Go.Sort.ahead w n) with heap := w.heap.modify L'.blk _ } os = _
  rw [hm]; rfl
 rw [hw]
 have hb : Below (World.heap { ({ w with heap := w.heap.setIfInBounds L'.blk (.cells arr' e (lo, hi)) } : World) with drawn := w.drawn + n }).size { ({ w with heap := w.heap.setIfInBounds L'.blk (.cells arr' e (lo, hi)) } : World) with drawn := w.drawn + n } (grow { ({ w with heap := w.heap.setIfInBounds L'.blk (.cells arr' e (lo, hi)) } : World) with drawn := w.drawn + n } os) :=
  ⟨rfl, rfl, rfl, by simp [grow], fun k hk => by simp only [grow]; rw [Array.getElem?_append_left hk]⟩
 obtain ⟨H3, G3⟩ := H2.beside hb (Nat.le_refl _)
 exact ⟨ρ, .tuple ⟨[]⟩, rfl, G2.trans G3, H3, .tuple .nil⟩
structure Sorts (P : Program) (fs fc : FuncId) (E : Enc α) (g : α → List Value) (cf : α → α → Int) : Prop where
 to : ∀ ρ x, VRs ρ (E.f x) (g x)
 from' : ∀ ρ x l, VRs ρ (E.f x) l → l = g x
 enter : ∀ (X : Array Value) (w : World), (callFunc fs X).run P w = .ok (.enter fs X) w
 val : ∀ x y, Val P fc [.agg (E.f x), .agg (E.f y)] (.int .i64 (cf x y))
 some' : ∀ (blk off cap : Nat) (d : Array α) (w : World), CmpLays P fc #[] g E.e cf blk off d.size w → HoldsK g E.e w blk off d → blk < w.heap.size → d.size < 4611686018427387904 →
   Calls P fs #[.slice (some ⟨blk, off, none⟩) d.size cap, .func (.func fc) #[] #[]] w fun e w' => e = .returned (.tuple #[]) ∧ ∃ n os, w' = sortWorldK g E.e w blk off n (d.toList.mergeSort fun x y => !(ltOf cf) y x).toArray os
 none' : ∀ (p : Option Addr) (cap : Nat) (fv : Value) (w : World), Calls P fs #[.slice p 0 cap, fv] w fun e w' => e = .returned (.tuple #[]) ∧ w' = w
end
def orC (A B : CallC) : CallC := fun args st Q => A args st Q ∨ B args st Q
theorem orC_ok {f : FuncId} {A B : CallC} (h : CcOk P f A) (h' : CcOk P f B) : CcOk P f (orC A B) := fun args st Q hQ => by
 rcases (show A args st Q ∨ B args st Q from hQ) with q | q
 ·exact h args st Q q
 ·exact h' args st Q q
noncomputable def sortT (fc e : Nat) : Tel ((Nat × Nat) × Unit × Unit) := .cons 0 (.slq 0 e) (.cons 1 (.fnp fc []) .nil)
noncomputable def sortB {α : Type} (E : Enc α) (ty : TypeId) : BTel (List α × Unit) := .cons (.rows E ty) .nil
noncomputable def sortRes {α : Type} (E : Enc α) (ty : TypeId) (srt : List α → List α) : List (Res (((Nat × Nat) × Unit × Unit) × (List α × Unit))) :=
 [⟨Unit, List α × Unit, .nil, .cons (.rows E ty) .nil, fun (_, (l, _)) _ (m, _) => m = srt l⟩]
noncomputable def sortC {α : Type} (E : Enc α) (ty fc : Nat) (srt : List α → List α) : CallC :=
 orC (callC 1 (sortT fc E.e) (sortB E ty) (fun ((n, _), (l, _)) => n.1 = l.length ∧ l.length < 4611686018427387904) (sortRes E ty srt))
  (valC (.cons 0 .nilS (.cons 1 (.fnp fc []) .nil) : Tel (Unit × Unit × Unit)) (fun _ => True) fun _ => .tuple [])
theorem sort_ok {α : Type} [Inhabited α] {fs fc : FuncId} {E : Enc α} {g : α → List Value} {cf : α → α → Int} (S : Sorts P fs fc E g cf) {srt : List α → List α} (hs : ∀ l, srt l = l.mergeSort fun x y => !(ltOf cf) y x) (ty : TypeId) : CcOk P fs (sortC E ty fc srt) := by
 refine orC_ok (call_ok_of (vm := false) (rw' := fun _ => false) rfl ?_) (val_ok rfl ?_)
 ·rintro ⟨⟨⟨n, c⟩, _, _⟩, l, _⟩ ⟨h1, h2⟩
  obtain rfl : n = l.length := h1
  exact ⟨.tuple [], _, sort_row S.to S.from' S.enter S.val S.some' S.none' (vm := false) (ty := ty) l c h2, (ifp_pos (show Nat.beq ty ty = true from beq_t rfl)).mpr ⟨_, rfl, rfl, (hs l).symm⟩⟩
 ·intro _ _ st
  refine CallS.of_calls S.enter fun ρ w args' hH hA => ?_
  cases hA with | cons hx hA =>
  cases hA with | cons hf hA =>
  cases hA
  cases hx
  refine (S.none' _ _ _ w).mono ?_
  rintro e w' ⟨rfl, rfl⟩
  exact ⟨ρ, _, rfl, Goes.refl, hH, .tuple .nil⟩
def orL (A B : LoopC) : LoopC := fun ro nt T D st Q => A ro nt T D st Q ∨ B ro nt T D st Q
theorem orL_ok {fn : FuncId} {nt : Nat} {c : Code} {A B : LoopC} (h : LoopOk P fn nt c A) (h' : LoopOk P fn nt c B) : LoopOk P fn nt c (orL A B) := fun ro T D st Q hQ => by
 rcases hQ with hQ | hQ
 ·exact h ro T D st Q hQ
 ·exact h' ro T D st Q hQ
end Go.Det
namespace Go.Det.Hp
variable {α : Type}
structure Lt (lt : α → α → Bool) : Prop where
 irr : ∀ a, lt a a = false
 tr : ∀ a b c, lt a b = true → lt b c = true → lt a c = true
 tot : ∀ a b, lt a b = false → lt b a = false → a = b
theorem Lt.le_tr {lt : α → α → Bool} (h : Lt lt) {a b c : α} (h1 : lt b a = false) (h2 : lt c b = false) : lt c a = false := by
 cases h3 : lt c a with
 | false => rfl
 | true =>
  cases h4 : lt a b with
  | true => rw [h.tr _ _ _ h3 h4] at h2; cases h2
  | false => rw [h.tot a b h4 h1] at h3; rw [h3] at h2; cases h2
theorem Lt.asym {lt : α → α → Bool} (h : Lt lt) {a b : α} (h1 : lt a b = true) : lt b a = false := by
 cases h2 : lt b a with
 | false => rfl
 | true => rw [← h.irr a, h.tr _ _ _ h1 h2]
def swap (l : List α) (i j : Nat) (hi : i < l.length) (hj : j < l.length) : List α := (l.set i l[j]).set j l[i]
theorem swap_length (l : List α) (i j : Nat) (hi : i < l.length) (hj : j < l.length) : (swap l i j hi hj).length = l.length := by simp [swap]
theorem swap_perm (l : List α) (i j : Nat) (hi : i < l.length) (hj : j < l.length) : (swap l i j hi hj).Perm l := List.set_set_perm hi hj
theorem swap_get (l : List α) (i j : Nat) (hi : i < l.length) (hj : j < l.length) (k : Nat) (hk : k < (swap l i j hi hj).length) : (swap l i j hi hj)[k] = if k = j then l[i] else if k = i then l[j] else l[k]'(by rw [swap_length] at hk; exact hk) := by
 simp only [swap, List.getElem_set]
 by_cases h1 : j = k
 ·subst h1; simp
 ·rw [if_neg h1, if_neg (Ne.symm h1)]
  by_cases h2 : i = k
  ·subst h2; simp
  ·rw [if_neg h2, if_neg (Ne.symm h2)]
def HeapUp (lt : α → α → Bool) (l : List α) (x : Nat) : Prop :=
 (∀ j (hj : j < l.length), 0 < j → j ≠ x → lt (l[(j - 1) / 2]'(by omega)) l[j] = false) ∧
 (∀ j (hj : j < l.length), 0 < j → ∀ (he : (j - 1) / 2 = x) (hx : 0 < x), lt (l[(x - 1) / 2]'(by omega)) l[j] = false)
def Heap (lt : α → α → Bool) (l : List α) : Prop := ∀ j (hj : j < l.length), 0 < j → lt (l[(j - 1) / 2]'(by omega)) l[j] = false
theorem Heap.up {lt : α → α → Bool} {l : List α} (h : Heap lt l) (a : α) : HeapUp lt (l ++ [a]) l.length := by
 refine ⟨fun j hj h0 hn => ?_, fun j hj h0 he => ?_⟩
 ·have hlt : j < l.length := by simp at hj; omega
  rw [List.getElem_append_left hlt, List.getElem_append_left (by omega)]
  exact h j hlt h0
 ·simp at hj; omega
theorem HeapUp.done {lt : α → α → Bool} {l : List α} {x : Nat} (h : HeapUp lt l x) (hx : x < l.length) (hd : x = 0 ∨ lt (l[(x - 1) / 2]'(by omega)) l[x] = false) : Heap lt l := by
 intro j hj h0
 by_cases e : j = x
 ·subst e
  rcases hd with hd | hd
  ·omega
  ·exact hd
 ·exact h.1 j hj h0 e
theorem HeapUp.step {lt : α → α → Bool} (ho : Lt lt) {l : List α} {x : Nat} (h : HeapUp lt l x) (hx : x < l.length) (h0 : 0 < x) (hl : lt (l[(x - 1) / 2]'(by omega)) l[x] = true) :
  HeapUp lt (swap l ((x - 1) / 2) x (by omega) hx) ((x - 1) / 2) := by
 have hp : (x - 1) / 2 < l.length := by omega
 have g := swap_get l ((x - 1) / 2) x hp hx
 have hlen := swap_length l ((x - 1) / 2) x hp hx
 have hpx : (x - 1) / 2 ≠ x := by omega
 refine ⟨fun j hj hj0 hn => ?_, fun j hj hj0 he hp0 => ?_⟩
 ·have hj' : j < l.length := by omega
  rw [g, g]
  by_cases e : j = x
  ·subst e
   rw [if_neg hpx, if_pos rfl, if_pos rfl]
   exact ho.asym hl
  ·rw [if_neg e, if_neg hn]
   by_cases e2 : (j - 1) / 2 = x
   ·rw [if_pos e2]
    exact h.2 j hj' hj0 e2 h0
   ·rw [if_neg e2]
    by_cases e3 : (j - 1) / 2 = (x - 1) / 2
    ·rw [if_pos e3]
     have h1 := h.1 j hj' hj0 e
     have : lt (l[(x - 1) / 2]) l[j] = false := by simpa [e3] using h1
     cases q2 : lt l[x] l[j] with
     | false => rfl
     | true => rw [ho.tr _ _ _ hl q2] at this; cases this
    ·rw [if_neg e3]
     exact h.1 j hj' hj0 e
 ·have hj' : j < l.length := by omega
  have hgp : ((x - 1) / 2 - 1) / 2 < l.length := by omega
  rw [g, g]
  have n1 : ((x - 1) / 2 - 1) / 2 ≠ x := by omega
  have n2 : ((x - 1) / 2 - 1) / 2 ≠ (x - 1) / 2 := by omega
  have hgx : lt (l[((x - 1) / 2 - 1) / 2]) (l[(x - 1) / 2]) = false := h.1 ((x - 1) / 2) hp hp0 hpx
  rw [if_neg n1, if_neg n2]
  by_cases e : j = x
  ·subst e
   rw [if_pos rfl]
   exact hgx
  ·rw [if_neg e, if_neg (by omega)]
   have h1 := h.1 j hj' hj0 e
   have h2 : lt (l[(x - 1) / 2]) l[j] = false := by simpa [he] using h1
   cases q : lt (l[((x - 1) / 2 - 1) / 2]) l[j] with
   | false => rfl
   | true =>
    cases q2 : lt (l[(x - 1) / 2]) (l[((x - 1) / 2 - 1) / 2]) with
    | true => rw [ho.tr _ _ _ q2 q] at h2; cases h2
    | false => rw [ho.tot _ _ hgx q2] at q; rw [q] at h2; cases h2
def HeapDown (lt : α → α → Bool) (l : List α) (x : Nat) : Prop :=
 (∀ j (hj : j < l.length), 0 < j → (j - 1) / 2 ≠ x → lt (l[(j - 1) / 2]'(by omega)) l[j] = false) ∧
 (∀ j (hj : j < l.length), 0 < j → ∀ (he : (j - 1) / 2 = x) (hx : 0 < x), lt (l[(x - 1) / 2]'(by omega)) l[j] = false)
theorem Heap.down {lt : α → α → Bool} {l : List α} (h : Heap lt l) (a : α) : HeapDown lt (l.set 0 a) 0 := by
 refine ⟨fun j hj h0 hn => ?_, fun j hj h0 he hx => by omega⟩
 have hj' : j < l.length := by simpa using hj
 rw [List.getElem_set, List.getElem_set, if_neg (Ne.symm hn), if_neg (by omega)]
 exact h j hj' h0
theorem HeapDown.done {lt : α → α → Bool} {l : List α} {x : Nat} (h : HeapDown lt l x) (hd : ∀ j (hj : j < l.length), 0 < j → (j - 1) / 2 = x → lt (l[(j - 1) / 2]'(by omega)) l[j] = false) : Heap lt l := by
 intro j hj h0
 by_cases e : (j - 1) / 2 = x
 ·exact hd j hj h0 e
 ·exact h.1 j hj h0 e
theorem HeapDown.step {lt : α → α → Bool} (ho : Lt lt) {l : List α} {x k : Nat} (h : HeapDown lt l x) (hk : k < l.length) (h0 : 0 < k) (hp : (k - 1) / 2 = x) (hx : x < l.length) (hg : ∀ j (hj : j < l.length), 0 < j → (j - 1) / 2 = x → lt l[k] l[j] = false) (hl : lt l[x] l[k] = true) :
  HeapDown lt (swap l x k hx hk) k := by
 have g := swap_get l x k hx hk
 have hlen := swap_length l x k hx hk
 have hxk : x ≠ k := by omega
 refine ⟨fun j hj hj0 hn => ?_, fun j hj hj0 he hk0 => ?_⟩
 ·have hj' : j < l.length := by omega
  rw [g, g, if_neg hn]
  by_cases e2 : (j - 1) / 2 = x
  ·rw [if_pos e2]
   by_cases e : j = k
   ·rw [if_pos e]; exact ho.asym hl
   ·rw [if_neg e, if_neg (by omega)]; exact hg j hj' hj0 e2
  ·rw [if_neg e2]
   by_cases e : j = k
   ·subst e; exact absurd hp e2
   ·rw [if_neg e]
    by_cases e3 : j = x
    ·subst e3
     rw [if_pos rfl]
     exact h.2 k hk h0 hp hj0
    ·rw [if_neg e3]; exact h.1 j hj' hj0 e2
 ·have hj' : j < l.length := by omega
  rw [g, g, if_neg (by omega), if_pos hp, if_neg (by omega), if_neg (by omega)]
  have := h.1 j hj' hj0 (by omega)
  simpa [he] using this
theorem Heap.root {lt : α → α → Bool} (ho : Lt lt) {l : List α} (h : Heap lt l) : ∀ j (hj : j < l.length), lt (l[0]'(by omega)) l[j] = false
 | 0, hj => ho.irr _
 | j + 1, hj => by
  have h1 := h (j + 1) hj (by omega)
  have h2 := Heap.root ho h ((j + 1 - 1) / 2) (by omega)
  cases q : lt (l[0]'(by omega)) l[j + 1] with
  | false => rfl
  | true =>
   cases q2 : lt (l[(j + 1 - 1) / 2]'(by omega)) (l[0]'(by omega)) with
   | true => rw [ho.tr _ _ _ q2 q] at h1; cases h1
   | false => rw [ho.tot _ _ h2 q2] at q; rw [q] at h1; cases h1
termination_by j => j
decreasing_by omega
end Go.Det.Hp
namespace Go.Det.Stab
variable {α : Type}
structure Weak (lt : α → α → Bool) : Prop where
 irr : ∀ a, lt a a = false
 tr : ∀ a b c, lt a b = true → lt b c = true → lt a c = true
 ntr : ∀ a b c, lt a b = false → lt b c = false → lt a c = false
theorem Weak.asym {lt : α → α → Bool} (w : Weak lt) {a b : α} (h : lt a b = true) : lt b a = false := by
 cases c : lt b a with
 | false => rfl
 | true => have := w.tr _ _ _ h c; rw [w.irr] at this; cases this
def mg (lt : α → α → Bool) : List α → List α → List α
 | [], ys => ys
 | x :: xs, [] => x :: xs
 | x :: xs, y :: ys => if lt y x = true then y :: mg lt (x :: xs) ys else x :: mg lt xs (y :: ys)
termination_by a b => a.length + b.length
variable {lt : α → α → Bool}
theorem mg_nil (ys : List α) : mg lt [] ys = ys := by rw [mg]
theorem mg_nil' (xs : List α) : mg lt xs [] = xs := by cases xs <;> rw [mg]
theorem mg_cons (x y : α) (xs ys : List α) : mg lt (x :: xs) (y :: ys) = if lt y x = true then y :: mg lt (x :: xs) ys else x :: mg lt xs (y :: ys) := by rw [mg]
theorem mg_perm : ∀ (n : Nat) (a b : List α), a.length + b.length ≤ n → (mg lt a b).Perm (a ++ b)
 | n, [], b, _ => by rw [mg_nil]; exact List.Perm.refl _
 | n, x :: xs, [], _ => by rw [mg_nil', List.append_nil]
 | 0, x :: xs, y :: ys, h => by simp at h
 | n + 1, x :: xs, y :: ys, h => by
  rw [mg_cons]
  split
  ·refine (List.Perm.cons y (mg_perm n (x :: xs) ys (by simp at h ⊢; omega))).trans ?_
   exact (List.perm_middle (l₁ := x :: xs) (l₂ := ys) (a := y)).symm
  ·exact List.Perm.cons x (mg_perm n xs (y :: ys) (by simp at h ⊢; omega))
theorem mg_len (a b : List α) : (mg lt a b).length = a.length + b.length := by
 rw [(mg_perm _ a b (Nat.le_refl _)).length_eq, List.length_append]
def Srt (lt : α → α → Bool) (l : List α) : Prop := l.Pairwise fun a b => lt b a = false
theorem mg_srt (w : Weak lt) : ∀ (n : Nat) (a b : List α), a.length + b.length ≤ n → Srt lt a → Srt lt b → Srt lt (mg lt a b)
 | n, [], b, _, _, hb => by rw [mg_nil]; exact hb
 | n, x :: xs, [], _, ha, _ => by rw [mg_nil']; exact ha
 | 0, x :: xs, y :: ys, h, _, _ => by simp at h
 | n + 1, x :: xs, y :: ys, h, ha, hb => by
  rw [mg_cons]
  have ha' := List.pairwise_cons.1 ha
  have hb' := List.pairwise_cons.1 hb
  split
  ·rename_i c
   refine List.pairwise_cons.2 ⟨fun z hz => ?_, mg_srt w n (x :: xs) ys (by simp at h ⊢; omega) ha hb'.2⟩
   rcases List.mem_append.1 ((mg_perm _ (x :: xs) ys (Nat.le_refl _)).mem_iff.1 hz) with hz | hz
   ·rcases List.mem_cons.1 hz with rfl | hz
    ·exact w.asym c
    ·exact w.ntr _ _ _ (ha'.1 z hz) (w.asym c)
   ·exact hb'.1 z hz
  ·rename_i c
   have c' : lt y x = false := by simpa using c
   refine List.pairwise_cons.2 ⟨fun z hz => ?_, mg_srt w n xs (y :: ys) (by simp at h ⊢; omega) ha'.2 hb⟩
   rcases List.mem_append.1 ((mg_perm _ xs (y :: ys) (Nat.le_refl _)).mem_iff.1 hz) with hz | hz
   ·exact ha'.1 z hz
   ·rcases List.mem_cons.1 hz with rfl | hz
    ·exact c'
    ·exact w.ntr _ _ _ (hb'.1 z hz) c'
theorem mg_split : ∀ (n : Nat) (a1 b1 a2 b2 : List α), a1.length + b1.length ≤ n → (∀ x ∈ a1, ∀ y ∈ b2, lt y x = false) → (∀ y ∈ b1, ∀ x ∈ a2, lt y x = true) → mg lt (a1 ++ a2) (b1 ++ b2) = mg lt a1 b1 ++ mg lt a2 b2
 | n, [], [], a2, b2, _, _, _ => by simp [mg_nil]
 | n, [], y :: b1, [], b2, _, _, _ => by simp [mg_nil]
 | 0, [], y :: b1, x :: a2, b2, h, _, _ => by simp at h
 | n + 1, [], y :: b1, x :: a2, b2, h, h1, h2 => by
  have := mg_split n [] b1 (x :: a2) b2 (by simp at h ⊢; omega) h1 (fun y hy => h2 y (by simp [hy]))
  simp only [List.nil_append, mg_nil] at this ⊢
  rw [List.cons_append, mg_cons, if_pos (h2 y (by simp) x (by simp)), this, List.cons_append]
 | 0, x :: a1, b1, a2, b2, h, _, _ => by simp at h
 | n + 1, x :: a1, [], a2, [], h, _, _ => by simp [mg_nil']
 | n + 1, x :: a1, [], a2, y :: b2, h, h1, h2 => by
  have := mg_split n a1 [] a2 (y :: b2) (by simp at h ⊢; omega) (fun x hx => h1 x (by simp [hx])) h2
  simp only [List.nil_append, mg_nil'] at this ⊢
  rw [List.cons_append, mg_cons, if_neg (by rw [h1 x (by simp) y (by simp)]; simp), this, List.cons_append]
 | n + 1, x :: a1, y :: b1, a2, b2, h, h1, h2 => by
  rw [List.cons_append, List.cons_append, mg_cons, mg_cons]
  split
  ·have := mg_split n (x :: a1) b1 a2 b2 (by simp at h ⊢; omega) h1 (fun y hy => h2 y (by simp [hy]))
   rw [List.cons_append] at this
   rw [this, List.cons_append]
  ·have := mg_split n a1 (y :: b1) a2 b2 (by simp at h ⊢; omega) (fun x hx => h1 x (by simp [hx])) h2
   rw [List.cons_append] at this
   rw [this, List.cons_append]
theorem mg_assoc (w : Weak lt) : ∀ (n : Nat) (a b c : List α), a.length + b.length + c.length ≤ n → mg lt (mg lt a b) c = mg lt a (mg lt b c)
 | n, [], b, c, _ => by rw [mg_nil, mg_nil]
 | n, x :: a, [], c, _ => by rw [mg_nil', mg_nil]
 | n, x :: a, y :: b, [], _ => by rw [mg_nil', mg_nil']
 | 0, x :: a, y :: b, z :: c, h => by simp at h
 | n + 1, x :: a, y :: b, z :: c, h => by
  simp only [List.length_cons] at h
  rw [mg_cons x y, mg_cons y z]
  by_cases h1 : lt y x = true
  ·rw [if_pos h1]
   by_cases h2 : lt z y = true
   ·have h3 := w.tr _ _ _ h2 h1
    rw [if_pos h2, mg_cons, if_pos h2, mg_cons, if_pos h3]
    have := mg_assoc w n (x :: a) (y :: b) c (by simp; omega)
    rw [mg_cons, if_pos h1] at this
    rw [this]
   ·rw [if_neg h2, mg_cons, if_neg h2, mg_cons, if_pos h1]
    rw [mg_assoc w n (x :: a) b (z :: c) (by simp; omega)]
  ·rw [if_neg h1]
   by_cases h2 : lt z y = true
   ·rw [if_pos h2]
    by_cases h3 : lt z x = true
    ·rw [mg_cons, if_pos h3, mg_cons, if_pos h3]
     have := mg_assoc w n (x :: a) (y :: b) c (by simp; omega)
     rw [mg_cons, if_neg h1] at this
     rw [this]
    ·rw [mg_cons, if_neg h3, mg_cons, if_neg h3]
     have := mg_assoc w n a (y :: b) (z :: c) (by simp; omega)
     rw [mg_cons y z, if_pos h2] at this
     rw [this]
   ·have h3 : ¬ lt z x = true := by
     have e1 : lt z y = false := by simpa using h2
     have e2 : lt y x = false := by simpa using h1
     rw [w.ntr _ _ _ e1 e2]; simp
    rw [if_neg h2, mg_cons, if_neg h3, mg_cons, if_neg h1]
    have := mg_assoc w n a (y :: b) (z :: c) (by simp; omega)
    rw [mg_cons y z, if_neg h2] at this
    rw [this]
theorem mg_one {x : α} : ∀ {b : List α}, (∀ y ∈ b, lt y x = false) → mg lt [x] b = x :: b
 | [], _ => by rw [mg_nil']
 | y :: b, h => by rw [mg_cons, if_neg (by rw [h y (by simp)]; simp), mg_nil]
theorem mg_one' {y : α} : ∀ {a : List α}, (∀ x ∈ a, lt y x = true) → mg lt a [y] = y :: a
 | [], _ => by rw [mg_nil]
 | x :: a, h => by rw [mg_cons, if_pos (h x (by simp)), mg_nil']
theorem snocRec {p : List α → Prop} (nil : p []) (snoc : ∀ (b : List α) (x : α), p b → p (b ++ [x])) (l : List α) : p l := by
 have : ∀ l : List α, p l.reverse := fun l => by
  induction l with
  | nil => exact nil
  | cons x l ih => rw [List.reverse_cons]; exact snoc _ _ ih
 have h := this l.reverse
 rwa [List.reverse_reverse] at h
def sort (lt : α → α → Bool) (l : List α) : List α := l.foldl (fun acc x => mg lt acc [x]) []
theorem sort_snoc (l : List α) (x : α) : sort lt (l ++ [x]) = mg lt (sort lt l) [x] := by
 rw [sort, List.foldl_append]; rfl
theorem sort_nil : sort lt ([] : List α) = [] := rfl
theorem sort_app (w : Weak lt) (a : List α) : ∀ b : List α, mg lt (sort lt a) (sort lt b) = sort lt (a ++ b) := by
 intro b
 induction b using snocRec with
 | nil => rw [sort_nil, mg_nil', List.append_nil]
 | snoc b x ih => rw [sort_snoc, ← List.append_assoc, sort_snoc, ← ih, mg_assoc w _ _ _ _ (Nat.le_refl _)]
theorem sort_perm (l : List α) : (sort lt l).Perm l := by
 induction l using snocRec with
 | nil => exact List.Perm.refl _
 | snoc b x ih => rw [sort_snoc]; exact (mg_perm _ _ _ (Nat.le_refl _)).trans (ih.append_right _)
theorem sort_srt (w : Weak lt) (l : List α) : Srt lt (sort lt l) := by
 induction l using snocRec with
 | nil => exact List.Pairwise.nil
 | snoc b x ih => rw [sort_snoc]; exact mg_srt w _ _ _ (Nat.le_refl _) ih (List.pairwise_singleton _ _)
theorem sort_len (l : List α) : (sort lt l).length = l.length := (sort_perm l).length_eq
theorem sort_id : ∀ {l : List α}, Srt lt l → sort lt l = l := by
 intro l
 induction l using snocRec with
 | nil => intro _; rfl
 | snoc b x ih =>
  intro h
  have h' := List.pairwise_append.1 h
  rw [sort_snoc, ih h'.1]
  have := mg_split (lt := lt) _ b [] [] [x] (Nat.le_refl _) (fun y hy z hz => by simp at hz; subst hz; exact h'.2.2 y hy z (by simp)) (fun y hy => by cases hy)
  simpa [mg_nil, mg_nil'] using this
theorem mg_take : ∀ (k : Nat) (a b : List α) (i j : Nat), k ≤ i → k ≤ j → (mg lt (a.take i) (b.take j)).take k = (mg lt a b).take k
 | 0, a, b, i, j, _, _ => by simp
 | k + 1, [], b, i, j, _, hj => by simp only [List.take_nil, mg_nil, List.take_take]; congr 1; omega
 | k + 1, x :: a, [], i, j, hi, _ => by simp only [List.take_nil, mg_nil', List.take_take]; congr 1; omega
 | k + 1, x :: a, y :: b, i + 1, j + 1, hi, hj => by
  simp only [List.take_succ_cons, mg_cons]
  split
  ·have := mg_take k (x :: a) b (i + 1) j (by omega) (by omega)
   simp only [List.take_succ_cons] at this ⊢
   rw [this]
  ·have := mg_take k a (y :: b) i (j + 1) (by omega) (by omega)
   simp only [List.take_succ_cons] at this ⊢
   rw [this]
 | k + 1, x :: a, y :: b, 0, j, hi, _ => by omega
 | k + 1, x :: a, y :: b, i + 1, 0, _, hj => by omega
theorem Srt.get {l : List α} (w : Weak lt) (h : Srt lt l) {i j : Nat} (hi : i < l.length) (hj : j < l.length) (hij : i ≤ j) : lt l[j] l[i] = false := by
 rcases Nat.lt_or_ge i j with c | c
 ·exact List.pairwise_iff_getElem.1 h i j hi hj c
 ·obtain rfl : i = j := by omega
  exact w.irr _
end Go.Det.Stab
namespace Go.Det.Stab
variable {α : Type} {lt : α → α → Bool}
def sw (l : List α) (i j : Nat) : List α := match l[i]?, l[j]? with | some x, some y => (l.set i y).set j x | _, _ => l
theorem sw_eq {l : List α} {i j : Nat} (hi : i < l.length) (hj : j < l.length) : sw l i j = (l.set i l[j]).set j l[i] := by simp [sw, hi, hj]
theorem sw_len (l : List α) (i j : Nat) : (sw l i j).length = l.length := by unfold sw; split <;> simp
theorem sw_cons (p : α) (l : List α) (i j : Nat) : sw (p :: l) (i + 1) (j + 1) = p :: sw l i j := by
 simp only [sw, List.getElem?_cons_succ, List.set_cons_succ]
 split <;> rfl
theorem sw_symm (l : List α) (i j : Nat) : sw l i j = sw l j i := by
 unfold sw
 cases h1 : l[i]? with
 | none => cases h2 : l[j]? <;> rfl
 | some x =>
  cases h2 : l[j]? with
  | none => rfl
  | some y =>
   by_cases e : i = j
   ·subst e; rw [h1] at h2; injection h2 with h2; subst h2; rfl
   ·simp only; rw [List.set_comm _ _ e]
theorem set_mid (M S : List α) (x y : α) : (M ++ y :: S).set M.length x = M ++ x :: S := by
 induction M with
 | nil => rfl
 | cons a M ih => simp [ih]
theorem get_mid (M S : List α) (y : α) : (M ++ y :: S)[M.length]? = some y := by simp
theorem sw_app (P M S : List α) (x y : α) : sw (P ++ x :: (M ++ y :: S)) P.length (P.length + 1 + M.length) = P ++ y :: (M ++ x :: S) := by
 induction P with
 | nil =>
  show sw (x :: (M ++ y :: S)) 0 (0 + 1 + M.length) = y :: (M ++ x :: S)
  rw [show 0 + 1 + M.length = M.length + 1 by omega]
  unfold sw
  simp only [List.getElem?_cons_zero, List.getElem?_cons_succ, get_mid, List.set_cons_zero, List.set_cons_succ, set_mid]
 | cons p P ih =>
  rw [List.cons_append, List.length_cons, show P.length + 1 + 1 + M.length = (P.length + 1 + M.length) + 1 by omega, sw_cons, ih, List.cons_append]
theorem sw_adj (P S : List α) (x y : α) : sw (P ++ x :: y :: S) P.length (P.length + 1) = P ++ y :: x :: S := sw_app P [] S x y
theorem cut {l : List α} {a : Nat} (h : a ≤ l.length) : ∃ P S, l = P ++ S ∧ P.length = a := ⟨l.take a, l.drop a, (List.take_append_drop _ _).symm, by rw [List.length_take]; omega⟩
theorem cutR {l : List α} {a : Nat} (h : a ≤ l.length) : ∃ P S, l = P ++ S ∧ S.length = a := by
 obtain ⟨P, S, e, h1⟩ := cut (l := l) (a := l.length - a) (by omega)
 exact ⟨P, S, e, by have := congrArg List.length e; rw [List.length_append] at this; omega⟩
theorem ne_cons {l : List α} {n : Nat} (h : l.length = n) (hn : 0 < n) : ∃ x l', l = x :: l' ∧ l'.length = n - 1 := by
 cases l with
 | nil => simp at h; omega
 | cons x l => exact ⟨x, l, rfl, by simp at h; omega⟩
theorem ne_snoc {l : List α} {n : Nat} (h : l.length = n) (hn : 0 < n) : ∃ x l', l = l' ++ [x] ∧ l'.length = n - 1 := by
 obtain ⟨P, S, e, h1⟩ := cutR (l := l) (a := 1) (by omega)
 obtain ⟨x, S', rfl, h2⟩ := ne_cons h1 (by omega)
 obtain rfl : S' = [] := List.length_eq_zero_iff.1 (by omega)
 exact ⟨x, P, e, by have := congrArg List.length e; rw [List.length_append] at this; simp at this; omega⟩
def SwapR (l : List α) (a b n : Nat) (l2 : List α) : Prop := ∀ P X M Y S, l = P ++ (X ++ (M ++ (Y ++ S))) → P.length = a → X.length = n → a + n + M.length = b → Y.length = n → l2 = P ++ (Y ++ (M ++ (X ++ S)))
theorem SwapR.zero (l : List α) (a b : Nat) : SwapR l a b 0 l := by
 intro P X M Y S e _ hx _ hy
 obtain rfl := List.length_eq_zero_iff.1 hx
 obtain rfl := List.length_eq_zero_iff.1 hy
 simpa using e
theorem SwapR.step {l l2 : List α} {a b n : Nat} (hn : 0 < n) (h : SwapR (sw l a b) (a + 1) (b + 1) (n - 1) l2) : SwapR l a b n l2 := by
 intro P X M Y S e hp hx hm hy
 obtain ⟨x, X, rfl, hx2⟩ := ne_cons hx hn
 obtain ⟨y, Y, rfl, hy2⟩ := ne_cons hy hn
 have e2 : sw l a b = P ++ y :: ((X ++ M) ++ x :: (Y ++ S)) := by
  rw [e, ← hp, show b = P.length + 1 + (X ++ M).length by rw [List.length_append]; omega]
  have := sw_app P (X ++ M) (Y ++ S) x y
  rw [← this]; congr 1; simp
 have := h (P ++ [y]) X (M ++ [x]) Y S (by rw [e2]; simp) (by simp [hp]) hx2 (by simp; omega) hy2
 rw [this]; simp
def RotR (l : List α) (a m b : Nat) (l2 : List α) : Prop := ∀ P X Y S, l = P ++ (X ++ (Y ++ S)) → P.length = a → a + X.length = m → m + Y.length = b → l2 = P ++ (Y ++ (X ++ S))
theorem RotR.last {l l2 : List α} {i m : Nat} (hi : i ≤ m) (h : SwapR l (m - i) m i l2) : RotR l (m - i) m (m + i) l2 := by
 intro P X Y S e hp hx hy
 exact h P X [] Y S (by simpa using e) hp (by omega) (by simp; omega) (by omega)
theorem RotR.left {l l' l2 : List α} {i j m : Nat} (hi : i ≤ m) (hij : j < i) (h : SwapR l (m - i) m j l') (h2 : RotR l' (m - (i - j)) m (m + j) l2) : RotR l (m - i) m (m + j) l2 := by
 intro P X Y S e hp hx hy
 obtain ⟨X1, X2, rfl, h1⟩ := cut (l := X) (a := j) (by omega)
 rw [List.length_append] at hx
 have e2 := h P X1 X2 Y S (by rw [e]; simp) hp h1 (by omega) (by omega)
 have := h2 (P ++ Y) X2 X1 S (by rw [e2]; simp) (by simp; omega) (by omega) (by omega)
 rw [this]; simp
theorem RotR.right {l l' l2 : List α} {i j m : Nat} (hi : i ≤ m) (hij : i < j) (h : SwapR l (m - i) (m + j - i) i l') (h2 : RotR l' (m - i) m (m + (j - i)) l2) : RotR l (m - i) m (m + j) l2 := by
 intro P X Y S e hp hx hy
 obtain ⟨Y1, Y2, rfl, h1⟩ := cutR (l := Y) (a := i) (by omega)
 rw [List.length_append] at hy
 have e2 := h P X Y1 Y2 S (by rw [e]; simp) hp (by omega) (by omega) h1
 have := h2 P Y2 Y1 (X ++ S) (by rw [e2]) hp (by omega) (by omega)
 rw [this]; simp
def MoveR (l : List α) (k e : Nat) (l2 : List α) : Prop := ∀ P x X S, l = P ++ x :: (X ++ S) → P.length = k → k + X.length = e → l2 = P ++ (X ++ x :: S)
theorem MoveR.zero {l : List α} {k e : Nat} (h : e ≤ k) : MoveR l k e l := by
 intro P x X S el hp hx
 obtain rfl : X = [] := List.length_eq_zero_iff.1 (by omega)
 simpa using el
theorem MoveR.step {l l2 : List α} {k e : Nat} (hk : k < e) (h : MoveR (sw l k (k + 1)) (k + 1) e l2) : MoveR l k e l2 := by
 intro P x X S el hp hx
 obtain ⟨y, X, rfl, hx2⟩ := ne_cons (l := X) rfl (by omega)
 have := h (P ++ [y]) x X S (by rw [el, ← hp]; simpa using sw_adj P (X ++ S) x y) (by simp [hp]) (by simp at hx; omega)
 rw [this]; simp
def MoveL (l : List α) (k i : Nat) (l2 : List α) : Prop := ∀ P X x S, l = P ++ (X ++ x :: S) → P.length = i → i + X.length = k → l2 = P ++ x :: (X ++ S)
theorem MoveL.zero {l : List α} {k i : Nat} (h : k ≤ i) : MoveL l k i l := by
 intro P X x S el hp hx
 obtain rfl : X = [] := List.length_eq_zero_iff.1 (by omega)
 simpa using el
theorem MoveL.step {l l2 : List α} {k i : Nat} (hk : i < k) (h : MoveL (sw l k (k - 1)) (k - 1) i l2) : MoveL l k i l2 := by
 intro P X x S el hp hx
 obtain ⟨y, X', hX, hx2⟩ := ne_snoc (l := X) rfl (by omega)
 have e2 : sw l k (k - 1) = P ++ (X' ++ x :: y :: S) := by
  rw [sw_symm, el, hX, show k - 1 = (P ++ X').length by rw [List.length_append]; omega, show k = (P ++ X').length + 1 by rw [List.length_append]; omega]
  have := sw_adj (P ++ X') S y x
  simpa using this
 have := h P X' x (y :: S) e2 hp (by omega)
 rw [this, hX]; simp
def InsL (lt : α → α → Bool) (l : List α) (a j : Nat) (l2 : List α) : Prop := ∀ P X x S, l = P ++ (X ++ x :: S) → P.length = a → a + X.length = j → Srt lt X → l2 = P ++ (mg lt X [x] ++ S)
theorem InsL.zero {l : List α} {a j : Nat} (h : j ≤ a) : InsL lt l a j l := by
 intro P X x S el hp hx _
 obtain rfl : X = [] := List.length_eq_zero_iff.1 (by omega)
 rw [mg_nil]; simpa using el
theorem InsL.stop (w : Weak lt) {l : List α} {a j : Nat} (hj : a < j) (hl : j < l.length) (hn : lt l[j] (l[j - 1]'(by omega)) = false) : InsL lt l a j l := by
 intro P X x S el hp hx hs
 obtain ⟨y, X', rfl, hx2⟩ := ne_snoc (l := X) rfl (by omega)
 simp only [List.length_append, List.length_cons, List.length_nil] at hx
 subst el
 have e1 : (P ++ (X' ++ [y] ++ x :: S))[j]? = some x := by
  rw [List.getElem?_append_right (by omega), List.getElem?_append_right (by simp; omega)]
  simp; rw [show j - P.length - (X'.length + 1) = 0 by omega]; rfl
 have e2 : (P ++ (X' ++ [y] ++ x :: S))[j - 1]? = some y := by
  rw [List.getElem?_append_right (by omega), List.append_assoc, List.getElem?_append_right (by omega)]
  rw [show j - 1 - P.length - X'.length = 0 by omega]; rfl
 rw [List.getElem?_eq_getElem (by omega)] at e1 e2
 injection e1 with e1; injection e2 with e2
 rw [e1, e2] at hn
 have hm : mg lt (X' ++ [y]) [x] = X' ++ [y] ++ [x] := by
  have := mg_split (lt := lt) _ (X' ++ [y]) [] [] [x] (Nat.le_refl _) (fun z hz q hq => by
   simp at hq; subst hq
   rcases List.mem_append.1 hz with hz | hz
   ·have := (List.pairwise_append.1 hs).2.2 z hz y (by simp)
    exact w.ntr _ _ _ hn this
   ·simp at hz; subst hz; exact hn) (fun q hq => by cases hq)
  simpa [mg_nil, mg_nil'] using this
 rw [hm]; simp
theorem InsL.step {l l2 : List α} {a j : Nat} (hj : a < j) (hl : j < l.length) (hn : lt l[j] (l[j - 1]'(by omega)) = true) (h : InsL lt (sw l j (j - 1)) a (j - 1) l2) : InsL lt l a j l2 := by
 intro P X x S el hp hx hs
 obtain ⟨y, X', hX, hx2⟩ := ne_snoc (l := X) rfl (by omega)
 have e1 : l[j]? = some x := by
  rw [el, List.getElem?_append_right (by omega), List.getElem?_append_right (by omega)]
  rw [show j - P.length - X.length = 0 by omega]; rfl
 have e2 : l[j - 1]? = some y := by
  rw [el, hX, List.getElem?_append_right (by omega), List.append_assoc, List.getElem?_append_right (by omega)]
  rw [show j - 1 - P.length - X'.length = 0 by omega]; rfl
 rw [List.getElem?_eq_getElem (by omega)] at e1 e2
 injection e1 with e1; injection e2 with e2
 rw [e1, e2] at hn
 have e3 : sw l j (j - 1) = P ++ (X' ++ x :: (y :: S)) := by
  rw [sw_symm, el, hX, show j - 1 = (P ++ X').length by rw [List.length_append]; omega, show j = (P ++ X').length + 1 by rw [List.length_append]; omega]
  have := sw_adj (P ++ X') S y x
  simpa using this
 rw [hX] at hs
 have := h P X' x (y :: S) e3 hp (by omega) (List.pairwise_append.1 hs).1
 rw [this]
 have hm : mg lt (X' ++ [y]) [x] = mg lt X' [x] ++ [y] := by
  have := mg_split (lt := lt) _ X' [x] [y] [] (Nat.le_refl _) (fun z hz q hq => by cases hq) (fun q hq z hz => by simp at hq hz; subst hq; subst hz; exact hn)
  simpa [mg_nil'] using this
 rw [hX, hm]; simp
def InsO (lt : α → α → Bool) (l : List α) (a i b : Nat) (l2 : List α) : Prop := ∀ P X Y S, l = P ++ (X ++ (Y ++ S)) → P.length = a → a + X.length = i → i + Y.length = b → Srt lt X → l2 = P ++ (Y.foldl (fun acc x => mg lt acc [x]) X ++ S)
theorem InsO.zero {l : List α} {a i b : Nat} (h : b ≤ i) : InsO lt l a i b l := by
 intro P X Y S el hp hx hy _
 obtain rfl : Y = [] := List.length_eq_zero_iff.1 (by omega)
 simpa using el
theorem InsO.step (w : Weak lt) {l l' l2 : List α} {a i b : Nat} (hi : i < b) (h : InsL lt l a i l') (h2 : InsO lt l' a (i + 1) b l2) : InsO lt l a i b l2 := by
 intro P X Y S el hp hx hy hs
 obtain ⟨y, Y, rfl, hy2⟩ := ne_cons (l := Y) rfl (by omega)
 have e1 := h P X y (Y ++ S) (by rw [el]; simp) hp hx hs
 have hs2 : Srt lt (mg lt X [y]) := mg_srt w _ _ _ (Nat.le_refl _) hs (List.pairwise_singleton _ _)
 simp only [List.length_cons] at hy hy2
 exact h2 P (mg lt X [y]) Y S e1 hp (by rw [mg_len]; simp; omega) (by omega) hs2
def SortR (lt : α → α → Bool) (l : List α) (a b : Nat) (l2 : List α) : Prop := ∀ P X S, l = P ++ (X ++ S) → P.length = a → a + X.length = b → l2 = P ++ (sort lt X ++ S)
theorem SortR.ofO {l l2 : List α} {a b : Nat} (hab : a < b) (h : InsO lt l a (a + 1) b l2) : SortR lt l a b l2 := by
 intro P X S el hp hx
 obtain ⟨x, X, rfl, hx2⟩ := ne_cons (l := X) rfl (by omega)
 simp only [List.length_cons] at hx hx2
 have := h P [x] X S (by rw [el]; simp) hp (by simp) (by omega) (List.pairwise_singleton _ _)
 rw [this, sort, List.foldl_cons, mg_nil]
theorem SortR.triv {l : List α} {a b : Nat} (hab : b ≤ a + 1) : SortR lt l a b l := by
 intro P X S el hp hx
 rw [el]
 cases X with
 | nil => rfl
 | cons x X =>
  obtain rfl : X = [] := List.length_eq_zero_iff.1 (by simp at hx; omega)
  rw [sort, List.foldl_cons, mg_nil]; rfl
def BS (p : Nat → Bool) (i j r : Nat) : Prop := i ≤ r ∧ r ≤ j ∧ (r = i ∨ p (r - 1) = true) ∧ (r = j ∨ p r = false)
theorem BS.done (p : Nat → Bool) (i : Nat) : BS p i i i := ⟨Nat.le_refl _, Nat.le_refl _, .inl rfl, .inl rfl⟩
theorem BS.up {p : Nat → Bool} {i j h r : Nat} (hi : i ≤ h) (hp : p h = true) (b : BS p (h + 1) j r) : BS p i j r := by
 obtain ⟨h1, h2, h3, h4⟩ := b
 refine ⟨by omega, h2, ?_, h4⟩
 rcases h3 with h3 | h3
 ·exact .inr (by rw [h3]; exact hp)
 ·exact .inr h3
theorem BS.down {p : Nat → Bool} {i j h r : Nat} (hj : h ≤ j) (hp : p h = false) (b : BS p i h r) : BS p i j r := by
 obtain ⟨h1, h2, h3, h4⟩ := b
 refine ⟨h1, by omega, h3, ?_⟩
 rcases h4 with h4 | h4
 ·exact .inr (by rw [h4]; exact hp)
 ·exact .inr h4
def at_ (lt : α → α → Bool) (l : List α) (i j : Nat) : Bool := match l[i]?, l[j]? with | some x, some y => lt x y | _, _ => false
theorem at_eq {l : List α} {i j : Nat} (hi : i < l.length) (hj : j < l.length) : at_ lt l i j = lt l[i] l[j] := by simp [at_, hi, hj]
def SymR (lt : α → α → Bool) (l : List α) (a m b : Nat) (l2 : List α) : Prop := ∀ P X Y S, l = P ++ (X ++ (Y ++ S)) → P.length = a → a + X.length = m → m + Y.length = b → Srt lt X → Srt lt Y → l2 = P ++ (mg lt X Y ++ S)
theorem le_ext (w : Weak lt) {A B : List α} {x y : α} (hA : Srt lt (A ++ [x])) (hB : Srt lt (y :: B)) (h : lt y x = false) : ∀ u ∈ A ++ [x], ∀ v ∈ y :: B, lt v u = false := by
 intro u hu v hv
 have h1 : lt x u = false := by
  rcases List.mem_append.1 hu with hu | hu
  ·exact (List.pairwise_append.1 hA).2.2 u hu x (by simp)
  ·simp at hu; subst hu; exact w.irr _
 have h2 : lt v y = false := by
  rcases List.mem_cons.1 hv with rfl | hv
  ·exact w.irr _
  ·exact (List.pairwise_cons.1 hB).1 v hv
 exact w.ntr _ _ _ (w.ntr _ _ _ h2 h) h1
theorem lt_ext (w : Weak lt) {A B : List α} {x y : α} (hA : Srt lt (A ++ [y])) (hB : Srt lt (x :: B)) (h : lt y x = true) : ∀ v ∈ A ++ [y], ∀ u ∈ x :: B, lt v u = true := by
 intro v hv u hu
 have h1 : lt y v = false := by
  rcases List.mem_append.1 hv with hv | hv
  ·exact (List.pairwise_append.1 hA).2.2 v hv y (by simp)
  ·simp at hv; subst hv; exact w.irr _
 have h2 : lt u x = false := by
  rcases List.mem_cons.1 hu with rfl | hu
  ·exact w.irr _
  ·exact (List.pairwise_cons.1 hB).1 u hu
 cases c : lt v u with
 | true => rfl
 | false => rw [w.ntr _ _ _ (w.ntr _ _ _ h1 c) h2] at h; cases h
theorem get_cut {P Q : List α} {x : α} {i : Nat} (h : P.length = i) : (P ++ x :: Q)[i]? = some x := by subst h; simp
theorem Srt.left {A B : List α} (h : Srt lt (A ++ B)) : Srt lt A := (List.pairwise_append.1 h).1
theorem Srt.right {A B : List α} (h : Srt lt (A ++ B)) : Srt lt B := (List.pairwise_append.1 h).2.1
theorem at_of {l : List α} {i j : Nat} {x y : α} (h1 : l[i]? = some x) (h2 : l[j]? = some y) : at_ lt l i j = lt x y := by simp [at_, h1, h2]
theorem SymR.one (w : Weak lt) {l l2 : List α} {a b r : Nat} (hb : BS (fun h => at_ lt l h a) (a + 1) b r) (h2 : MoveR l a (r - 1) l2) : SymR lt l a (a + 1) b l2 := by
 intro P X Y S e hp hx hy hX hY
 obtain ⟨x, X, rfl, hx2⟩ := ne_cons (l := X) rfl (by omega)
 obtain rfl : X = [] := List.length_eq_zero_iff.1 (by simp only [List.length_cons] at hx; omega)
 obtain ⟨g1, g2, g3, g4⟩ := hb
 change r = a + 1 ∨ at_ lt l (r - 1) a = true at g3
 change r = b ∨ at_ lt l r a = false at g4
 obtain ⟨Y1, Y2, rfl, hy1⟩ := cut (l := Y) (a := r - (a + 1)) (by omega)
 rw [List.length_append] at hy
 have ea : l[a]? = some x := by rw [e]; exact get_cut hp
 have c1 : ∀ y ∈ Y1, lt y x = true := by
  rcases g3 with g3 | g3
  ·obtain rfl : Y1 = [] := List.length_eq_zero_iff.1 (by omega)
   intro y hy; cases hy
  ·by_cases h0 : Y1.length = 0
   ·obtain rfl : Y1 = [] := List.length_eq_zero_iff.1 h0
    intro y hy; cases hy
   ·obtain ⟨y, Y1', rfl, hy3⟩ := ne_snoc (l := Y1) rfl (by omega)
    simp only [List.length_append, List.length_cons, List.length_nil] at hy1 hy
    have er : l[r - 1]? = some y := by
     rw [e, show P ++ ([x] ++ (Y1' ++ [y] ++ Y2 ++ S)) = (P ++ (x :: Y1')) ++ y :: (Y2 ++ S) by simp]
     exact get_cut (by simp; omega)
    have : lt y x = true := by rw [at_of er ea] at g3; exact g3
    have hall := lt_ext w hY.left (List.pairwise_singleton _ x) this
    exact fun v hv => hall v hv x (by simp)
 have c2 : ∀ y ∈ Y2, lt y x = false := by
  rcases g4 with g4 | g4
  ·obtain rfl : Y2 = [] := List.length_eq_zero_iff.1 (by omega)
   intro y hy; cases hy
  ·by_cases h0 : Y2.length = 0
   ·obtain rfl : Y2 = [] := List.length_eq_zero_iff.1 h0
    intro y hy; cases hy
   ·obtain ⟨y, Y2', rfl, hy3⟩ := ne_cons (l := Y2) rfl (by omega)
    have er : l[r]? = some y := by
     rw [e, show P ++ ([x] ++ (Y1 ++ y :: Y2' ++ S)) = (P ++ (x :: Y1)) ++ y :: (Y2' ++ S) by simp]
     exact get_cut (by simp; omega)
    have : lt y x = false := by rw [at_of er ea] at g4; exact g4
    have hall := le_ext w (A := []) (List.pairwise_singleton _ x) hY.right this
    exact fun v hv => hall x (by simp) v hv
 have hm : mg lt [x] (Y1 ++ Y2) = Y1 ++ x :: Y2 := by
  have := mg_split (lt := lt) _ [] Y1 [x] Y2 (Nat.le_refl _) (fun z hz => by cases hz) (fun y hy z hz => by simp at hz; subst hz; exact c1 y hy)
  rw [List.nil_append, mg_nil, mg_one c2] at this
  exact this
 rw [hm, h2 P x Y1 (Y2 ++ S) (by rw [e]; simp) hp (by omega)]
 simp
theorem SymR.last (w : Weak lt) {l l2 : List α} {a m r : Nat} (hb : BS (fun h => !at_ lt l m h) a m r) (h2 : MoveL l m r l2) : SymR lt l a m (m + 1) l2 := by
 intro P X Y S e hp hx hy hX hY
 obtain ⟨y, Y, rfl, hy2⟩ := ne_cons (l := Y) rfl (by omega)
 obtain rfl : Y = [] := List.length_eq_zero_iff.1 (by simp only [List.length_cons] at hy; omega)
 obtain ⟨g1, g2, g3, g4⟩ := hb
 change r = a ∨ (!at_ lt l m (r - 1)) = true at g3
 change r = m ∨ (!at_ lt l m r) = false at g4
 obtain ⟨X1, X2, rfl, hx1⟩ := cut (l := X) (a := r - a) (by omega)
 rw [List.length_append] at hx
 have em : l[m]? = some y := by
  rw [e, show P ++ (X1 ++ X2 ++ ([y] ++ S)) = (P ++ (X1 ++ X2)) ++ y :: S by simp]
  exact get_cut (by simp; omega)
 have c1 : ∀ x ∈ X1, lt y x = false := by
  rcases g3 with g3 | g3
  ·obtain rfl : X1 = [] := List.length_eq_zero_iff.1 (by omega)
   intro y hy; cases hy
  ·by_cases h0 : X1.length = 0
   ·obtain rfl : X1 = [] := List.length_eq_zero_iff.1 h0
    intro y hy; cases hy
   ·obtain ⟨x, X1', rfl, hy3⟩ := ne_snoc (l := X1) rfl (by omega)
    simp only [List.length_append, List.length_cons, List.length_nil] at hx1 hx
    have er : l[r - 1]? = some x := by
     rw [e, show P ++ (X1' ++ [x] ++ X2 ++ ([y] ++ S)) = (P ++ X1') ++ x :: (X2 ++ y :: S) by simp]
     exact get_cut (by simp; omega)
    have : lt y x = false := by rw [at_of em er] at g3; simpa using g3
    have hall := le_ext w hX.left (B := []) (List.pairwise_singleton _ y) this
    exact fun u hu => hall u hu y (by simp)
 have c2 : ∀ x ∈ X2, lt y x = true := by
  rcases g4 with g4 | g4
  ·obtain rfl : X2 = [] := List.length_eq_zero_iff.1 (by omega)
   intro y hy; cases hy
  ·by_cases h0 : X2.length = 0
   ·obtain rfl : X2 = [] := List.length_eq_zero_iff.1 h0
    intro y hy; cases hy
   ·obtain ⟨x, X2', rfl, hy3⟩ := ne_cons (l := X2) rfl (by omega)
    have er : l[r]? = some x := by
     rw [e, show P ++ (X1 ++ x :: X2' ++ ([y] ++ S)) = (P ++ X1) ++ x :: (X2' ++ y :: S) by simp]
     exact get_cut (by simp; omega)
    have : lt y x = true := by rw [at_of em er] at g4; simpa using g4
    have hall := lt_ext w (A := []) (List.pairwise_singleton _ y) hX.right this
    exact fun u hu => hall y (by simp) u hu
 have hm : mg lt (X1 ++ X2) [y] = X1 ++ y :: X2 := by
  have := mg_split (lt := lt) _ X1 [] X2 [y] (Nat.le_refl _) (fun x hx z hz => by simp at hz; subst hz; exact c1 x hx) (fun z hz => by cases hz)
  rw [List.nil_append, mg_nil', mg_one' c2] at this
  exact this
 rw [hm, h2 (P ++ X1) X2 y S (by rw [e]; simp) (by simp; omega) (by omega)]
 simp
theorem SymR.halves (w : Weak lt) {l l1 l2 l3 : List α} {a m b mid lo hi s : Nat} (ham : a < m) (hmb : m < b) (hmid : mid = (a + b) / 2)
  (hlo : (mid < m ∧ lo = mid + m - b ∧ hi = mid) ∨ (m ≤ mid ∧ lo = a ∧ hi = m))
  (hb : BS (fun c => !at_ lt l (mid + m - 1 - c) c) lo hi s)
  (h1 : (s < m ∧ m < mid + m - s ∧ RotR l s m (mid + m - s) l1) ∨ (¬ (s < m ∧ m < mid + m - s) ∧ l1 = l))
  (h2 : (a < s ∧ s < mid ∧ SymR lt l1 a s mid l2) ∨ (¬ (a < s ∧ s < mid) ∧ l2 = l1))
  (h3 : (mid < mid + m - s ∧ mid + m - s < b ∧ SymR lt l2 mid (mid + m - s) b l3) ∨ (¬ (mid < mid + m - s ∧ mid + m - s < b) ∧ l3 = l2)) : SymR lt l a m b l3 := by
 intro P X Y S e hp hx hy hX hY
 obtain ⟨g1, g2, g3, g4⟩ := hb
 change s = lo ∨ (!at_ lt l (mid + m - 1 - (s - 1)) (s - 1)) = true at g3
 change s = hi ∨ (!at_ lt l (mid + m - 1 - s) s) = false at g4
 have hsm : a ≤ s ∧ s ≤ m ∧ s ≤ mid ∧ mid + m - s ≤ b := by omega
 obtain ⟨s1, s2, s3, s4⟩ := hsm
 obtain ⟨X1, X2, rfl, hx1⟩ := cut (l := X) (a := s - a) (by omega)
 obtain ⟨Y1, Y2, rfl, hy1⟩ := cut (l := Y) (a := mid - s) (by omega)
 rw [List.length_append] at hx hy
 have e1 : l1 = P ++ (X1 ++ (Y1 ++ (X2 ++ (Y2 ++ S)))) := by
  rcases h1 with ⟨q1, q2, h1⟩ | ⟨q, h1⟩
  ·have := h1 (P ++ X1) X2 Y1 (Y2 ++ S) (by rw [e]; simp) (by simp; omega) (by omega) (by omega)
   rw [this]; simp
  ·rw [h1, e]
   by_cases c : X2.length = 0
   ·obtain rfl := List.length_eq_zero_iff.1 c; simp
   ·obtain rfl : Y1 = [] := List.length_eq_zero_iff.1 (by omega)
    simp
 have e2 : l2 = P ++ (mg lt X1 Y1 ++ (X2 ++ (Y2 ++ S))) := by
  rcases h2 with ⟨q1, q2, h2⟩ | ⟨q, h2⟩
  ·exact h2 P X1 Y1 (X2 ++ (Y2 ++ S)) e1 hp (by omega) (by omega) hX.left hY.left
  ·rw [h2, e1]
   by_cases c : X1.length = 0
   ·obtain rfl := List.length_eq_zero_iff.1 c; rw [mg_nil]; simp
   ·obtain rfl : Y1 = [] := List.length_eq_zero_iff.1 (by omega)
    rw [mg_nil']; simp
 have hmgl := mg_len (lt := lt) X1 Y1
 have e3 : l3 = P ++ (mg lt X1 Y1 ++ (mg lt X2 Y2 ++ S)) := by
  rcases h3 with ⟨q1, q2, h3⟩ | ⟨q, h3⟩
  ·have := h3 (P ++ mg lt X1 Y1) X2 Y2 S (by rw [e2]; simp) (by rw [List.length_append, hmgl]; omega) (by omega) (by omega) hX.right hY.right
   rw [this]; simp
  ·rw [h3, e2]
   by_cases c : X2.length = 0
   ·obtain rfl := List.length_eq_zero_iff.1 c; rw [mg_nil]; simp
   ·obtain rfl : Y2 = [] := List.length_eq_zero_iff.1 (by omega)
    rw [mg_nil']; simp
 have k1 : ∀ x ∈ X1, ∀ y ∈ Y2, lt y x = false := by
  by_cases cx : X1.length = 0
  ·obtain rfl := List.length_eq_zero_iff.1 cx
   intro x hx; cases hx
  by_cases cy : Y2.length = 0
  ·obtain rfl := List.length_eq_zero_iff.1 cy
   intro x hx y hy; cases hy
  obtain ⟨x, X1', rfl, _⟩ := ne_snoc (l := X1) rfl (by omega)
  obtain ⟨y, Y2', rfl, _⟩ := ne_cons (l := Y2) rfl (by omega)
  simp only [List.length_append, List.length_cons, List.length_nil] at hx hy hx1
  have gs : at_ lt l (mid + m - 1 - (s - 1)) (s - 1) = false := by
   rcases g3 with g3 | g3
   ·omega
   ·simpa using g3
  have ex : l[s - 1]? = some x := by
   rw [e, show P ++ (X1' ++ [x] ++ X2 ++ (Y1 ++ y :: Y2' ++ S)) = (P ++ X1') ++ x :: (X2 ++ (Y1 ++ y :: Y2' ++ S)) by simp]
   exact get_cut (by simp; omega)
  have ey : l[mid + m - 1 - (s - 1)]? = some y := by
   rw [e, show P ++ (X1' ++ [x] ++ X2 ++ (Y1 ++ y :: Y2' ++ S)) = (P ++ (X1' ++ [x] ++ X2 ++ Y1)) ++ y :: (Y2' ++ S) by simp]
   exact get_cut (by simp; omega)
  rw [at_of ey ex] at gs
  exact le_ext w hX.left hY.right gs
 have k2 : ∀ y ∈ Y1, ∀ x ∈ X2, lt y x = true := by
  by_cases cy : Y1.length = 0
  ·obtain rfl := List.length_eq_zero_iff.1 cy
   intro y hy; cases hy
  by_cases cx : X2.length = 0
  ·obtain rfl := List.length_eq_zero_iff.1 cx
   intro y hy x hx; cases hx
  obtain ⟨y, Y1', rfl, _⟩ := ne_snoc (l := Y1) rfl (by omega)
  obtain ⟨x, X2', rfl, _⟩ := ne_cons (l := X2) rfl (by omega)
  simp only [List.length_append, List.length_cons, List.length_nil] at hx hy hy1
  have gs : at_ lt l (mid + m - 1 - s) s = true := by
   rcases g4 with g4 | g4
   ·omega
   ·simpa using g4
  have ex : l[s]? = some x := by
   rw [e, show P ++ (X1 ++ x :: X2' ++ (Y1' ++ [y] ++ Y2 ++ S)) = (P ++ X1) ++ x :: (X2' ++ (Y1' ++ [y] ++ Y2 ++ S)) by simp]
   exact get_cut (by simp; omega)
  have ey : l[mid + m - 1 - s]? = some y := by
   rw [e, show P ++ (X1 ++ x :: X2' ++ (Y1' ++ [y] ++ Y2 ++ S)) = (P ++ (X1 ++ x :: X2' ++ Y1')) ++ y :: (Y2 ++ S) by simp]
   exact get_cut (by simp; omega)
  rw [at_of ey ex] at gs
  exact lt_ext w hY.left hX.right gs
 rw [e3, mg_split _ X1 Y1 X2 Y2 (Nat.le_refl _) k1 k2]
 simp
inductive Blk (lt : α → α → Bool) (w : Nat) : List α → List α → Prop where
 | last {l : List α} : l.length ≤ w → Blk lt w l (sort lt l)
 | cons {A B B' : List α} : A.length = w → Blk lt w B B' → Blk lt w (A ++ B) (sort lt A ++ B')
theorem Blk.len {w : Nat} {l l' : List α} (h : Blk lt w l l') : l'.length = l.length := by
 induction h with
 | last _ => exact sort_len _
 | cons h1 _ ih => rw [List.length_append, List.length_append, sort_len, ih]
theorem Blk.short {w : Nat} {l l' : List α} (h : Blk lt w l l') (hl : l.length ≤ w) : l' = sort lt l := by
 induction h with
 | last _ => rfl
 | cons h1 h2 ih =>
  rename_i A B B'
  rw [List.length_append] at hl
  obtain rfl : B = [] := List.length_eq_zero_iff.1 (by omega)
  have := h2.len
  obtain rfl : B' = [] := List.length_eq_zero_iff.1 (by simpa using this)
  simp
theorem Blk.split {w : Nat} {l l' : List α} (h : Blk lt w l l') (hl : w ≤ l'.length) : ∃ A B B', l = A ++ B ∧ A.length = w ∧ l' = sort lt A ++ B' ∧ Blk lt w B B' := by
 cases h with
 | last h1 => rw [sort_len] at hl; exact ⟨l, [], [], by simp, by omega, by simp, .last (Nat.zero_le _)⟩
 | cons h1 h2 => exact ⟨_, _, _, rfl, h1, rfl, h2⟩
def StR1 (lt : α → α → Bool) (w : Nat) (l : List α) (a : Nat) (l2 : List α) : Prop := ∀ P R, l = P ++ R → P.length = a → ∃ R', l2 = P ++ R' ∧ Blk lt w R R'
theorem StR1.step {w : Nat} {l l' l2 : List α} {a : Nat} (hb : a + w ≤ l.length) (h : SortR lt l a (a + w) l') (h2 : StR1 lt w l' (a + w) l2) : StR1 lt w l a l2 := by
 intro P R e hp
 have hl := congrArg List.length e
 rw [List.length_append] at hl
 obtain ⟨A, B, rfl, hA⟩ := cut (l := R) (a := w) (by omega)
 have e1 := h P A B e hp (by omega)
 obtain ⟨B', e2, hB⟩ := h2 (P ++ sort lt A) B (by rw [e1]; simp) (by rw [List.length_append, sort_len]; omega)
 exact ⟨sort lt A ++ B', by rw [e2]; simp, .cons hA hB⟩
theorem StR1.done {w : Nat} {l l2 : List α} {a : Nat} (hb : l.length < a + w) (h : SortR lt l a l.length l2) : StR1 lt w l a l2 := by
 intro P R e hp
 have hl := congrArg List.length e
 rw [List.length_append] at hl
 have e1 := h P R [] (by simpa using e) hp (by omega)
 exact ⟨sort lt R, by rw [e1]; simp, .last (by omega)⟩
def PassR (lt : α → α → Bool) (w : Nat) (l : List α) (a : Nat) (l2 : List α) : Prop := ∀ P R R0, l = P ++ R → P.length = a → Blk lt w R0 R → ∃ R', l2 = P ++ R' ∧ Blk lt (2 * w) R0 R'
theorem PassR.step (wk : Weak lt) {w : Nat} {l l' l2 : List α} {a : Nat} (hb : a + 2 * w ≤ l.length) (h : SymR lt l a (a + w) (a + 2 * w) l') (h2 : PassR lt w l' (a + 2 * w) l2) : PassR lt w l a l2 := by
 intro P R R0 e hp hB
 have hl := congrArg List.length e
 rw [List.length_append] at hl
 obtain ⟨A, B0, B, rfl, hA, rfl, hB1⟩ := hB.split (by omega)
 rw [List.length_append, sort_len] at hl
 obtain ⟨A2, B2, B', rfl, hA2, rfl, hB2⟩ := hB1.split (by omega)
 have e1 := h P (sort lt A) (sort lt A2) B' (by rw [e]) hp (by rw [sort_len]; omega) (by rw [sort_len]; omega) (sort_srt wk _) (sort_srt wk _)
 rw [sort_app wk] at e1
 obtain ⟨R', e2, hR⟩ := h2 (P ++ sort lt (A ++ A2)) B' B2 (by rw [e1]; simp) (by rw [List.length_append, sort_len, List.length_append]; omega) hB2
 refine ⟨sort lt (A ++ A2) ++ R', by rw [e2]; simp, ?_⟩
 rw [← List.append_assoc]
 exact .cons (by rw [List.length_append]; omega) hR
theorem PassR.part (wk : Weak lt) {w : Nat} {l l2 : List α} {a : Nat} (hb : l.length < a + 2 * w) (hm : a + w < l.length) (h : SymR lt l a (a + w) l.length l2) : PassR lt w l a l2 := by
 intro P R R0 e hp hB
 have hl := congrArg List.length e
 rw [List.length_append] at hl
 obtain ⟨A, B0, B, rfl, hA, rfl, hB1⟩ := hB.split (by omega)
 rw [List.length_append, sort_len] at hl
 have hs := hB1.short (by rw [← hB1.len]; omega)
 subst hs
 have hBl := hB1.len
 have e1 := h P (sort lt A) (sort lt B0) [] (by rw [e]; simp) hp (by rw [sort_len]; omega) (by omega) (sort_srt wk _) (sort_srt wk _)
 rw [sort_app wk] at e1
 exact ⟨sort lt (A ++ B0), by rw [e1]; simp, .last (by rw [List.length_append]; omega)⟩
theorem PassR.none (wk : Weak lt) {w : Nat} {l : List α} {a : Nat} (hm : l.length ≤ a + w) : PassR lt w l a l := by
 intro P R R0 e hp hB
 have hl := congrArg List.length e
 rw [List.length_append] at hl
 have hs := hB.short (by rw [← hB.len]; omega)
 have := hB.len
 exact ⟨R, e, by rw [hs]; exact .last (by omega)⟩
def StR2 (lt : α → α → Bool) (w : Nat) (l l2 : List α) : Prop := ∀ l0, Blk lt w l0 l → l2 = sort lt l0
theorem StR2.done {w : Nat} {l : List α} (h : l.length ≤ w) : StR2 lt w l l := fun l0 hB => hB.short (by rw [← hB.len]; exact h)
theorem StR2.step {w : Nat} {l l' l2 : List α} (h : PassR lt w l 0 l') (h2 : StR2 lt (2 * w) l' l2) : StR2 lt w l l2 := fun l0 hB => by
 obtain ⟨R', e, hR⟩ := h [] l l0 rfl rfl hB
 rw [List.nil_append] at e
 subst e
 exact h2 l0 hR
end Go.Det.Stab
namespace Go.Det
variable {α : Type} {E : Enc α}
theorem enc_get : ∀ (l : List α) (k j : Nat) (h : k < l.length), j < E.e → (l.flatMap E.f)[k * E.e + j]? = (E.f l[k])[j]?
 | [], k, j, h, _ => by simp at h
 | a :: l, 0, j, h, hj => by
  rw [List.flatMap_cons, List.getElem?_append_left (by rw [E.len]; omega)]; simp
 | a :: l, k + 1, j, h, hj => by
  have e : (k + 1) * E.e = k * E.e + E.e := Nat.succ_mul _ _
  rw [List.flatMap_cons, List.getElem?_append_right (by rw [E.len]; omega), E.len, show (k + 1) * E.e + j - E.e = k * E.e + j by omega]
  exact enc_get l k j (by simpa using h) hj
theorem enc_take : ∀ (l : List α) (k : Nat), (l.flatMap E.f).take (k * E.e) = (l.take k).flatMap E.f
 | [], k => by simp
 | a :: l, 0 => by simp
 | a :: l, k + 1 => by
  rw [show (k + 1) * E.e = (E.f a).length + k * E.e by rw [E.len, Nat.succ_mul, Nat.add_comm], List.take_succ_cons, List.flatMap_cons, List.flatMap_cons, List.take_length_add_append, enc_take l k]
theorem enc_drop : ∀ (l : List α) (k : Nat), (l.flatMap E.f).drop (k * E.e) = (l.drop k).flatMap E.f
 | [], k => by simp
 | a :: l, 0 => by simp
 | a :: l, k + 1 => by
  rw [show (k + 1) * E.e = (E.f a).length + k * E.e by rw [E.len, Nat.succ_mul, Nat.add_comm], List.drop_succ_cons, List.flatMap_cons, List.drop_length_add_append, enc_drop l k]
theorem enc_set {l : List α} {k : Nat} {x : α} (h : k < l.length) : setAt (k * E.e) (E.f x) (l.flatMap E.f) = (l.set k x).flatMap E.f := by
 rw [setAt, enc_take, E.len, show k * E.e + E.e = (k + 1) * E.e from (Nat.succ_mul _ _).symm, enc_drop, List.set_eq_take_append_cons_drop, if_pos h, List.flatMap_append, List.flatMap_cons, List.append_assoc]
end Go.Det
namespace Go.Det
open Go Go.Shelf Go.RowKit Go.Lib Go.Proofs
variable {P : Program} {ρ : Ren}
theorem wpList_append_none {w : World} {ops : Array Oper} {rest : List Oper} {o : Oper} {a : Act} {Q : Exit → Act → World → Prop} (hgd : o.guard = none) (s x : Operand) (t : TypeId)
  (ho : o.op = .call { callee := .builtin .append, args := #[s, x], argTypes := #[t, t] }) (e : TypeId) (i : TypeInfo) (ht : P.underlying t = some (.slice e)) (hi : P.info? e = some i)
  (b ad : Addr) (cap c : Nat) (hs : a.eval s = .slice (some b) 0 cap) (hx : a.eval x = .slice (some ad) 0 c)
  (h : wpList P ops Q rest (a.put o.dst (.slice (some b) 0 cap)) w) : wpList P ops Q (o :: rest) a w := by
 refine wpList_plain hgd fun K hK => ?_
 have hr : (Builtin.append_ #[t, t] o.type #[.slice (some b) 0 cap, .slice (some ad) 0 c]).run P w = .ok (.slice (some b) 0 cap) w :=
  append_fit (P := P) (A := #[t, t]) (X := #[.slice (some b) 0 cap, .slice (some ad) 0 c]) (new := []) (n := 0) rfl rfl rfl rfl ht hi
   (.plain (.inr ⟨t, _, rfl, ht, fun k => by simp⟩) (by simp [Builtin.lenOf]) (fun m => by simp [Builtin.firstCells, loadCells, loadCellsFrom])) (by omega) (fun a ha => by simp [storeCells]) (fun h => by cases h)
 unfold Oper.wp execOp
 simp only [ho, resolve, invoke, builtin, Sem.run_bind, Sem.run_pure, Result.andThen_ok, List.map_toArray, List.map_cons, List.map_nil, hs, hx, hr]
 exact hK _ _ h
set_option maxHeartbeats 2000000 in
set_option maxRecDepth 100000 in
theorem clone_zero (L : SlLaysE0.n41 P ρ) (i0 : TypeInfo) (z : Value) (size bytes : Nat) (hi : P.info? (ρ.t 23) = some i0) (hz0 : i0.zero = some z) (hz1 : i0.size = size) (hz2 : i0.bytes = bytes) (hzs : z.cells.size = size) (hsz : 0 < size)
  (z23 : ∀ w, (Go.sizeOf (ρ.t 23)).run P w = .ok size w) (a : Addr) (c : Nat) (w : World) :
  Calls P (ρ.f 41) #[.slice (some a) 0 c] w fun e w' => ∃ v', e = .returned v' ∧ w'.ownsRow w.heap.size (ρ.t 23) size v' 0 [] ∧ v' ≠ .slice none 0 0 ∧ Below w.heap.size w w' ∧ w.drawn ≤ w'.drawn := by
 have mixed := L.mixed; have t4 := L.t4; have a4 := L.a4; have z4 := L.z4; have v4 := L.v4; have t22 := L.t22; have a22 := L.a22; have z22 := L.z22; have v22 := L.v22
 have q22 : ∀ (w : World) (a : Option Addr) (n c n' c' : Nat), (binOp .eql (ρ.t 22) (.slice a n c) (.slice none n' c')).run P w = .ok (.bool a.isNone) w := fun w a n c n' c' => Lib.run_eql_slice_nil w _ _ a n c n' c' L.t22
 have u22 : ∀ w, Sem.run P (underlying (ρ.t 22)) w = .ok (TypeDesc.slice (ρ.t 23)) w := run_underlying t22
 obtain ⟨_, _, FG⟩ := L.f41
 go_enter FG, SlBodyN.n41_ntmps ρ
 go_wp2_with (at_builtin; refine wpList_append_none rfl _ _ (ρ.t 22) rfl (ρ.t 23) i0 t22 hi _ a _ c rfl rfl ?_)
 go_wp2
 go_ret
 refine ⟨_, rfl, ?_, ?_, ?_, ?_⟩
 ·exact World.ownsRow_made w #[] 0 (Nat.le_refl _) (Nat.zero_le _) (by simp)
 ·simp
 ·exact (Below.refl _ w).alloc (Nat.le_refl _) _
 ·exact Nat.le_refl _
theorem clone_empty (L : SlLaysE0.n41 P ρ) (i0 : TypeInfo) (z : Value) (size bytes : Nat) (hi : P.info? (ρ.t 23) = some i0) (hz0 : i0.zero = some z) (hz1 : i0.size = size) (hz2 : i0.bytes = bytes) (hzs : z.cells.size = size) (hsz : 0 < size)
  (z23 : ∀ w, (Go.sizeOf (ρ.t 23)).run P w = .ok size w) (hen : ∀ (X : Array Value) (w : World), (callFunc (ρ.f 41) X).run P w = .ok (.enter (ρ.f 41) X) w) (e : Nat) :
  Val P (ρ.f 41) [.vs [] 0 0 false none e] (.vs [] 0 0 false none e) := fun st => CallS.of_calls hen fun σ w args' hH hA => by
 cases hA with
 | cons hs hA =>
  cases hA
  cases hs with
  | vs h hsc hl h1 h2 h3 h4 h5 =>
   refine Calls.mono (clone_zero L i0 z size bytes hi hz0 hz1 hz2 hzs hsz z23 _ _ w) ?_
   rintro ev w' ⟨v', rfl, ⟨_, hown⟩, hne, hb, hd⟩
   obtain ⟨hH', hG⟩ := hH.beside hb hd
   rcases hown with ⟨h0, _⟩ | ⟨g, cap, cur, rfl, _⟩
   ·exact absurd h0 hne
   ·exact ⟨σ, _, rfl, hG, hH', .vs (blk := g) (off := 0) .nil rfl (by simp) (Nat.le_refl _) (Nat.zero_le _) (by simp) (.inr ⟨rfl, by simp⟩) (by simp)⟩
  | vsNil =>
   refine Calls.mono (AnyE.slices_Clone_nil L 0 0 w) ?_
   rintro ev w' ⟨rfl, rfl⟩
   exact ⟨σ, _, rfl, Goes.refl, hH, .vsNil⟩
end Go.Det
namespace Go.Det
abbrev I64 (x : Int) : AV := .int .i64 x
abbrev Sa {α : Type} (E : Enc α) (a b : List α) : Prop := a.flatMap E.f = b.flatMap E.f
abbrev Ow {α : Type} (E : Enc α) (a b : List α) (n : Nat) : Prop := WkL (a.flatMap E.f) (b.flatMap E.f) ∧ a.length = b.length ∧ n = n
abbrev Wv {α : Type} (E : Enc α) (a b : List α) : Prop := Wk (lst E a) (lst E b)
abbrev Nt {α : Type} (E : Enc α) (k e j : Nat) (l : List α) (x : Int) : Prop := nth ((k.mul e).add j) (l.flatMap E.f) = some (.int .i64 x)
abbrev Ag2 {β : Type} (x y : Int) (a : Int × Int × β) : Prop := AV.agg [.int .i64 x, .int .i64 y] = AV.agg [.int .i64 a.1, .int .i64 a.2.1]
abbrev Ag4 {β : Type} (x y z w : Int) (a : Int × Int × Int × Int × β) : Prop := AV.agg [.int .i64 x, .int .i64 y, .int .i64 z, .int .i64 w] = AV.agg [.int .i64 a.1, .int .i64 a.2.1, .int .i64 a.2.2.1, .int .i64 a.2.2.2.1]
abbrev T3 (p : Prop) : Prop := True ∧ True ∧ True ∧ p
abbrev T4 (p : Prop) : Prop := True ∧ True ∧ True ∧ True ∧ p
abbrev T5 (p : Prop) : Prop := True ∧ True ∧ True ∧ True ∧ True ∧ p
abbrev T6 (p : Prop) : Prop := True ∧ True ∧ True ∧ True ∧ True ∧ True ∧ p
abbrev T7 (p : Prop) : Prop := True ∧ True ∧ True ∧ True ∧ True ∧ True ∧ True ∧ p
abbrev T8 (p : Prop) : Prop := True ∧ True ∧ True ∧ True ∧ True ∧ True ∧ True ∧ True ∧ p
abbrev T9 (p : Prop) : Prop := True ∧ True ∧ True ∧ True ∧ True ∧ True ∧ True ∧ True ∧ True ∧ p
abbrev T10 (p : Prop) : Prop := True ∧ True ∧ True ∧ True ∧ True ∧ True ∧ True ∧ True ∧ True ∧ True ∧ p
abbrev T11 (p : Prop) : Prop := True ∧ True ∧ True ∧ True ∧ True ∧ True ∧ True ∧ True ∧ True ∧ True ∧ True ∧ p
abbrev T12 (p : Prop) : Prop := True ∧ True ∧ True ∧ True ∧ True ∧ True ∧ True ∧ True ∧ True ∧ True ∧ True ∧ True ∧ p
abbrev T13 (p : Prop) : Prop := True ∧ True ∧ True ∧ True ∧ True ∧ True ∧ True ∧ True ∧ True ∧ True ∧ True ∧ True ∧ True ∧ p
abbrev T14 (p : Prop) : Prop := True ∧ True ∧ True ∧ True ∧ True ∧ True ∧ True ∧ True ∧ True ∧ True ∧ True ∧ True ∧ True ∧ True ∧ p
abbrev T15 (p : Prop) : Prop := True ∧ True ∧ True ∧ True ∧ True ∧ True ∧ True ∧ True ∧ True ∧ True ∧ True ∧ True ∧ True ∧ True ∧ True ∧ p
abbrev T16 (p : Prop) : Prop := True ∧ True ∧ True ∧ True ∧ True ∧ True ∧ True ∧ True ∧ True ∧ True ∧ True ∧ True ∧ True ∧ True ∧ True ∧ True ∧ p
abbrev T17 (p : Prop) : Prop := True ∧ True ∧ True ∧ True ∧ True ∧ True ∧ True ∧ True ∧ True ∧ True ∧ True ∧ True ∧ True ∧ True ∧ True ∧ True ∧ True ∧ p
abbrev T18 (p : Prop) : Prop := True ∧ True ∧ True ∧ True ∧ True ∧ True ∧ True ∧ True ∧ True ∧ True ∧ True ∧ True ∧ True ∧ True ∧ True ∧ True ∧ True ∧ True ∧ p
abbrev T19 (p : Prop) : Prop := True ∧ True ∧ True ∧ True ∧ True ∧ True ∧ True ∧ True ∧ True ∧ True ∧ True ∧ True ∧ True ∧ True ∧ True ∧ True ∧ True ∧ True ∧ True ∧ p
abbrev T20 (p : Prop) : Prop := True ∧ True ∧ True ∧ True ∧ True ∧ True ∧ True ∧ True ∧ True ∧ True ∧ True ∧ True ∧ True ∧ True ∧ True ∧ True ∧ True ∧ True ∧ True ∧ True ∧ p
noncomputable abbrev Tel.ji {β : Type} (i : Nat) (t : Tel β) : Tel (Int × β) := .cons i (.int .i64) t
end Go.Det
