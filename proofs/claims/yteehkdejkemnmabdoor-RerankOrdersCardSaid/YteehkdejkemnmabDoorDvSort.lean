/- slices.SortFunc over a row: from the library's contract to the machine's. -/
import Derived.Test.YteehkdejkemnmabDoorDvUse
import Derived.Test.YteehkdejkemnmabDoorDvArg
import Derived.Shelf.SlSortCmp.InsertionK
set_option linter.unusedVariables false
set_option linter.unusedSimpArgs false
namespace Go.Det
open Go.RowKit Go.Sort Go.Proofs
variable {P : Program}

theorem grow_of_goes {ρ ρ' : Names} {st st' : St} {W w' : World} (G : Goes ρ st W ρ' st' w') (hs : st.heap = .leaf) : ∃ q os', w' = grow (W.drewN q) os' := by
  refine ⟨w'.drawn - W.drawn, w'.heap.extract W.heap.size w'.heap.size, ?_⟩
  have hsame : ∀ k, k < W.heap.size → w'.heap[k]? = W.heap[k]? := fun k hk => G.same k hk fun b o L hb => by rw [hs] at hb; simp [Tr.get] at hb
  have hd := G.drawn
  have hsz := G.size
  have hheap : w'.heap = W.heap ++ w'.heap.extract W.heap.size w'.heap.size := by
    apply Array.ext_getElem?
    intro i
    by_cases h : i < W.heap.size
    · rw [Array.getElem?_append_left h, hsame i h]
    · rw [Array.getElem?_append_right (by omega), Array.getElem?_extract]
      by_cases h2 : i < w'.heap.size
      · rw [if_pos (by omega)]; congr 1; omega
      · rw [if_neg (by omega), Array.getElem?_eq_none (by omega)]
  have h1 := G.os
  have h2 := G.tape
  have h3 := G.output
  obtain ⟨heap, tape, drawn, os, output⟩ := w'
  obtain ⟨heap0, tape0, drawn0, os0, output0⟩ := W
  simp only [grow, World.drewN] at *
  subst h1; subst h2; subst h3
  rw [← hheap, show drawn0 + (drawn - drawn0) = drawn by omega]
section
theorem twin_flat {α : Type} {E : Enc α} {g : α → List Value} (hg' : ∀ ρ x l, VRs ρ (E.f x) l → l = g x) {ρ : Names} : ∀ {l : List α} {l' : List Value}, VRs ρ (l.flatMap E.f) l' → l' = l.flatMap g
  | [], l', h => by cases h; rfl
  | a :: l, l', h => by
    rw [List.flatMap_cons] at h ⊢
    have h1 := h.take E.e
    have h2 := h.drop E.e
    rw [List.take_left' (E.len a)] at h1
    rw [List.drop_left' (E.len a)] at h2
    rw [← List.take_append_drop E.e l', hg' _ _ _ h1, twin_flat hg' h2]
theorem flat_twin {α : Type} {E : Enc α} {g : α → List Value} (hg : ∀ ρ x, VRs ρ (E.f x) (g x)) {ρ : Names} : ∀ l : List α, VRs ρ (l.flatMap E.f) (l.flatMap g)
  | [] => .nil
  | a :: l => by
    rw [List.flatMap_cons, List.flatMap_cons]
    exact VRs.append (hg ρ a) (flat_twin hg l)
variable {α : Type} [Inhabited α] {E : Enc α} {g : α → List Value}
theorem cmp_lays (hg : ∀ ρ x, VRs ρ (E.f x) (g x)) {fc : FuncId} {cf : α → α → Int} (h : ∀ x y, Val P fc [.agg (E.f x), .agg (E.f y)] (.int .i64 (cf x y))) (k blk off size : Nat) (w : World) :
    CmpLays P fc #[] g k cf blk off size w := by
  intro m os dk _ x y
  generalize sortWorldK g k w blk off m dk os = W
  have hA : VRs (frozenAll W) [.agg (E.f x), .agg (E.f y)] [.agg ⟨g x⟩, .agg ⟨g y⟩] := .cons (.agg (hg _ _)) (.cons (.agg (hg _ _)) .nil)
  have hc := (h x y _).calls (frozenAll_HR W false) hA
  rw [Array.append_empty]
  refine Calls.mono (show Calls P fc ⟨[.agg ⟨g x⟩, .agg ⟨g y⟩]⟩ W _ from hc) ?_
  rintro e w' ⟨ρ', v', rfl, V, H, G⟩
  cases V
  exact ⟨rfl, grow_of_goes G rfl⟩
theorem flat_get {k : Nat} (hk : ∀ x, (g x).length = k) : ∀ (l : List α) (t : Nat), t < l.length * k → (l.flatMap g)[t]? = some ((g l[t / k]!)[t % k]!)
  | [], t, h => by simp at h
  | a :: l, t, h => by
    have hk0 : 0 < k := by rcases Nat.eq_zero_or_pos k with h0 | h0; · subst h0; simp at h
                           · exact h0
    rw [List.flatMap_cons]
    by_cases c : t < k
    · rw [List.getElem?_append_left (by rw [hk]; exact c), Nat.div_eq_of_lt c, Nat.mod_eq_of_lt c, List.getElem?_eq_getElem (by rw [hk]; exact c)]
      simp [List.getElem!_eq_getElem?_getD, hk, c]
    · obtain ⟨u, rfl⟩ : ∃ u, t = u + k := ⟨t - k, by omega⟩
      rw [List.getElem?_append_right (by rw [hk]; omega), hk, show u + k - k = u by omega, flat_get hk l u (by rw [List.length_cons, Nat.succ_mul] at h; omega), Nat.add_div_right u hk0, Nat.add_mod_right]
      simp
theorem sort_row (hg : ∀ ρ x, VRs ρ (E.f x) (g x)) (hg' : ∀ ρ x l, VRs ρ (E.f x) l → l = g x) {fs fc : FuncId} {cf : α → α → Int}
    (hen : ∀ (X : Array Value) (w : World), (callFunc fs X).run P w = .ok (.enter fs X) w) (hv : ∀ x y, Val P fc [.agg (E.f x), .agg (E.f y)] (.int .i64 (cf x y)))
    (K : ∀ (blk off cap : Nat) (d : Array α) (w : World), CmpLays P fc #[] g E.e cf blk off d.size w → HoldsK g E.e w blk off d → blk < w.heap.size → d.size < 4611686018427387904 →
      Calls P fs #[.slice (some ⟨blk, off, none⟩) d.size cap, .func (.func fc) #[] #[]] w fun e w' => e = .returned (.tuple #[]) ∧ ∃ n os, w' = sortWorldK g E.e w blk off n (d.toList.mergeSort fun x y => !(ltOf cf) y x).toArray os)
    (K0 : ∀ (p : Option Addr) (cap : Nat) (fv : Value) (w : World), Calls P fs #[.slice p 0 cap, fv] w fun e w' => e = .returned (.tuple #[]) ∧ w' = w)
    {vm : Bool} {ty : TypeId} (l : List α) (c : Nat) (hl : l.length < 4611686018427387904) :
    CallS P fs [.slice 0 0 l.length c false E.e, .func fc [] []] (stL vm [.row (l.flatMap E.f) ty]) (.tuple []) (stL vm [.row ((l.mergeSort fun x y => !(ltOf cf) y x).flatMap E.f) ty]) := by
  refine CallS.of_calls hen fun ρ w args' hH hA => ?_
  cases hA with | cons hs hA =>
  cases hA with | cons hf hA =>
  cases hA
  cases hf with | func ha hc =>
  cases ha; cases hc
  cases hs with | slice q1 q2 q3 q4 q5 =>
  rename_i L a cap'
  by_cases h0 : l.length = 0
  · obtain rfl := List.length_eq_zero_iff.1 h0
    refine (K0 _ _ _ w).mono ?_
    rintro e w' ⟨rfl, rfl⟩
    exact ⟨ρ, _, rfl, by simpa using Goes.refl, by simpa using hH, .tuple .nil⟩
  have hk : ∀ x, (g x).length = E.e := fun x => by have h := (hg ⟨fun _ => none, fun _ _ => none⟩ x).length; have h2 := E.len x; omega
  have hg0 : (stL vm [.row (l.flatMap E.f) ty]).heap.get 0 = some (.row (l.flatMap E.f) ty) := heapL_at (l := [Ob.row (l.flatMap E.f) ty]) (k := 0) (i := 0) rfl
  obtain ⟨L', hL', hO⟩ := hH.obj 0 _ hg0
  obtain rfl : L' = L := by rw [q1] at hL'; injection hL' with h; exact h.symm
  obtain ⟨arr, e, lo, hi, k1, k2, k3, k4, k5⟩ := hO
  have hfl : (l.flatMap E.f).length = l.length * E.e := E.flen l
  rcases q5 with q5 | ⟨rfl, q6⟩
  · omega
  have hblk := (hH.lt _ _ q1).2
  have harr : arr.toList.length = L'.tot := by rw [Array.length_toList, k2]
  have hvr : VRs ρ (l.flatMap E.f) (arr.toList.take (l.flatMap E.f).length) := VRs.of_get (by rw [List.length_take]; omega) fun i v hv => by
    obtain ⟨_, v', p1, p2⟩ := k5 i v hv
    have hi : i < (l.flatMap E.f).length := by
      rcases Nat.lt_or_ge i (l.flatMap E.f).length with q | q
      · exact q
      · rw [List.getElem?_eq_none q] at hv; cases hv
    refine ⟨v', ?_, p2⟩
    rw [List.getElem?_take_of_lt hi, Array.getElem?_toList]
    rw [k3.1, Nat.zero_add] at p1; exact p1
  have htw := twin_flat hg' hvr
  have hoff : L'.off + 0 = 0 := by rw [k3.1]
  have hcell : ∀ j, j < l.length * E.e → arr[j]? = some ((g l[j / E.e]!)[j % E.e]!) := fun j hj => by
    rw [← flat_get hk l j hj, ← htw, List.getElem?_take_of_lt (by omega), Array.getElem?_toList]
  have hHold : HoldsK g E.e w L'.blk (L'.off + 0) l.toArray := by
    intro j hj
    rw [size_flatK] at hj
    have hj' : j < l.length * E.e := hj
    rw [get_flatK _ _ _ _ hj, hoff, Nat.zero_add]
    constructor
    · rw [World.cell?, k1]
      show arr[j]? = _
      rw [hcell j hj']; simp
    · have := k4 j (by have := k3.2; omega)
      simp only [World.frozen?, k1]
      simp; omega
  refine (K L'.blk (L'.off + 0) cap' l.toArray w (cmp_lays hg hv _ _ _ _ _) hHold hblk (by simpa using hl)).mono ?_
  rintro e' w' ⟨rfl, n, os, rfl⟩
  show ∃ ρ' v', _
  generalize hsrt : (l.toArray.toList.mergeSort fun x y => !(ltOf cf) y x) = s
  have hsrt' : (l.mergeSort fun x y => !(ltOf cf) y x) = s := hsrt
  have hsl : s.length = l.length := by rw [← hsrt', List.length_mergeSort]
  have hsf : (s.flatMap E.f).length = l.length * E.e := by rw [E.flen s, hsl]
  let arr' := putCells id (L'.off + 0) (flatK g E.e s.toArray) arr
  have harr' : arr'.size = arr.size := by simp [arr', putCells]
  have hget : ∀ i, i < l.length * E.e → arr'[L'.off + i]? = some ((g s[i / E.e]!)[i % E.e]!) := fun i hi => by
    have hi2 : L'.off + i < arr.size := by rw [k2]; have := k3.2; omega
    show (putCells id (L'.off + 0) (flatK g E.e s.toArray) arr)[L'.off + i]? = _
    rw [putCells, Array.getElem?_mapIdx, Array.getElem?_eq_getElem hi2]
    simp only [Option.map_some]
    rw [if_pos (by rw [size_flatK]; simp only [List.size_toArray, hsl]; omega)]
    simp only [id]
    rw [show L'.off + i - (L'.off + 0) = i by omega, get_flatK _ _ _ _ (by simp only [List.size_toArray, hsl]; exact hi)]
    simp
  have ho : OR ρ L' (.row (s.flatMap E.f) ty) (some (.cells arr' e (lo, hi))) := by
    refine ⟨arr', e, lo, hi, rfl, by rw [harr', k2], ⟨k3.1, by rw [hsf, ← hfl]; exact k3.2⟩, k4, fun i v hv => ?_⟩
    have hi : i < l.length * E.e := by
      rcases Nat.lt_or_ge i (l.length * E.e) with q | q
      · exact q
      · rw [List.getElem?_eq_none (by rw [hsf]; exact q)] at hv; cases hv
    refine ⟨allScalar_iff.1 (E.fscal s) _ (List.mem_of_getElem? hv), ?_⟩
    obtain ⟨v', p1, p2⟩ := (flat_twin hg (ρ := ρ) s).get hv
    rw [flat_get hk s i (by rw [hsl]; exact hi)] at p1
    exact ⟨v', by rw [hget i hi]; exact p1, p2⟩
  obtain ⟨H1, G1⟩ := hH.put hg0 q1 (.row (s.flatMap E.f) ty) _ ho _ rfl
  have H2 := H1.drew (w.drawn + n)
  have G2 := G1.drew (w.drawn + n) (Nat.le_add_right _ _)
  have hst : (stL vm [.row (l.flatMap E.f) ty]).put 0 (.row (s.flatMap E.f) ty) = stL vm [.row (s.flatMap E.f) ty] := rfl
  rw [hst] at H2 G2
  have hw : sortWorldK g E.e w L'.blk (L'.off + 0) n s.toArray os = grow { ({ w with heap := w.heap.setIfInBounds L'.blk (.cells arr' e (lo, hi)) } : World) with drawn := w.drawn + n } os := by
    have hm : w.heap.modify L'.blk (onCells (putCells id (L'.off + 0) (flatK g E.e s.toArray))) = w.heap.setIfInBounds L'.blk (.cells arr' e (lo, hi)) := by
      apply Array.ext_getElem?
      intro i
      rw [Array.getElem?_modify, Array.getElem?_setIfInBounds]
      by_cases c : L'.blk = i
      · subst c; simp only [if_true, k1, hblk]; rfl
      · simp [c]
    show grow (mapBlock (Go.Sort.ahead w n) L'.blk _) os = _
    unfold mapBlock
    show grow { (Go.Sort.ahead w n) with heap := w.heap.modify L'.blk _ } os = _
    rw [hm]; rfl
  rw [hw]
  have hb : Below (World.heap { ({ w with heap := w.heap.setIfInBounds L'.blk (.cells arr' e (lo, hi)) } : World) with drawn := w.drawn + n }).size { ({ w with heap := w.heap.setIfInBounds L'.blk (.cells arr' e (lo, hi)) } : World) with drawn := w.drawn + n } (grow { ({ w with heap := w.heap.setIfInBounds L'.blk (.cells arr' e (lo, hi)) } : World) with drawn := w.drawn + n } os) :=
    ⟨rfl, rfl, rfl, by simp [grow], fun k hk => by simp only [grow]; rw [Array.getElem?_append_left hk]⟩
  obtain ⟨H3, G3⟩ := H2.beside hb (Nat.le_refl _)
  exact ⟨ρ, .tuple ⟨[]⟩, rfl, G2.trans G3, H3, .tuple .nil⟩
/-- What sorts: a function of the library, with its order. -/
structure Sorts (P : Program) (fs fc : FuncId) (E : Enc α) (g : α → List Value) (cf : α → α → Int) : Prop where
  to : ∀ ρ x, VRs ρ (E.f x) (g x)
  from' : ∀ ρ x l, VRs ρ (E.f x) l → l = g x
  enter : ∀ (X : Array Value) (w : World), (callFunc fs X).run P w = .ok (.enter fs X) w
  val : ∀ x y, Val P fc [.agg (E.f x), .agg (E.f y)] (.int .i64 (cf x y))
  some' : ∀ (blk off cap : Nat) (d : Array α) (w : World), CmpLays P fc #[] g E.e cf blk off d.size w → HoldsK g E.e w blk off d → blk < w.heap.size → d.size < 4611686018427387904 →
      Calls P fs #[.slice (some ⟨blk, off, none⟩) d.size cap, .func (.func fc) #[] #[]] w fun e w' => e = .returned (.tuple #[]) ∧ ∃ n os, w' = sortWorldK g E.e w blk off n (d.toList.mergeSort fun x y => !(ltOf cf) y x).toArray os
  none' : ∀ (p : Option Addr) (cap : Nat) (fv : Value) (w : World), Calls P fs #[.slice p 0 cap, fv] w fun e w' => e = .returned (.tuple #[]) ∧ w' = w
end
def orC (A B : CallC) : CallC := fun args st Q => A args st Q ∨ B args st Q
theorem orC_ok {f : FuncId} {A B : CallC} (h : CcOk P f A) (h' : CcOk P f B) : CcOk P f (orC A B) := fun args st Q hQ => by
  rcases (show A args st Q ∨ B args st Q from hQ) with q | q
  · exact h args st Q q
  · exact h' args st Q q
noncomputable def sortT (fc e : Nat) : Tel ((Nat × Nat) × Unit × Unit) := .cons 0 (.slq 0 e) (.cons 1 (.fnp fc []) .nil)
noncomputable def sortB {α : Type} (E : Enc α) (ty : TypeId) : BTel (List α × Unit) := .cons (.rows E ty) .nil
noncomputable def sortRes {α : Type} (E : Enc α) (ty : TypeId) (srt : List α → List α) : List (Res (((Nat × Nat) × Unit × Unit) × (List α × Unit))) :=
  [⟨Unit, List α × Unit, .nil, .cons (.rows E ty) .nil, fun (_, (l, _)) _ (m, _) => m = srt l⟩]
/-- Of a row; of no slice. -/
noncomputable def sortC {α : Type} (E : Enc α) (ty fc : Nat) (srt : List α → List α) : CallC :=
  orC (callC 1 (sortT fc E.e) (sortB E ty) (fun ((n, _), (l, _)) => n.1 = l.length ∧ l.length < 4611686018427387904) (sortRes E ty srt))
    (valC (.cons 0 .nilS (.cons 1 (.fnp fc []) .nil) : Tel (Unit × Unit × Unit)) (fun _ => True) fun _ => .tuple [])
theorem sort_ok {α : Type} [Inhabited α] {fs fc : FuncId} {E : Enc α} {g : α → List Value} {cf : α → α → Int} (S : Sorts P fs fc E g cf) {srt : List α → List α} (hs : ∀ l, srt l = l.mergeSort fun x y => !(ltOf cf) y x) (ty : TypeId) : CcOk P fs (sortC E ty fc srt) := by
  refine orC_ok (call_ok_of (vm := false) (rw' := fun _ => false) rfl ?_) (val_ok rfl ?_)
  · rintro ⟨⟨⟨n, c⟩, _, _⟩, l, _⟩ ⟨h1, h2⟩
    obtain rfl : n = l.length := h1
    exact ⟨.tuple [], _, sort_row S.to S.from' S.enter S.val S.some' S.none' (vm := false) (ty := ty) l c h2, (ifp_pos (show Nat.beq ty ty = true from beq_t rfl)).mpr ⟨_, rfl, rfl, (hs l).symm⟩⟩
  · intro _ _ st
    refine CallS.of_calls S.enter fun ρ w args' hH hA => ?_
    cases hA with | cons hx hA =>
    cases hA with | cons hf hA =>
    cases hA
    cases hx
    refine (S.none' _ _ _ w).mono ?_
    rintro e w' ⟨rfl, rfl⟩
    exact ⟨ρ, _, rfl, Goes.refl, hH, .tuple .nil⟩
/-- Two contracts of one loop. -/
def orL (A B : LoopC) : LoopC := fun ro nt T D st Q => A ro nt T D st Q ∨ B ro nt T D st Q
theorem orL_ok {fn : FuncId} {nt : Nat} {c : Code} {A B : LoopC} (h : LoopOk P fn nt c A) (h' : LoopOk P fn nt c B) : LoopOk P fn nt c (orL A B) := fun ro T D st Q hQ => by
  rcases hQ with hQ | hQ
  · exact h ro T D st Q hQ
  · exact h' ro T D st Q hQ
end Go.Det
