/- Values of lists; what is read of a state; what comes of a loop, said of any state of which its own is a part. -/
import Derived.Test.YteehkdejkemnmabDoorDvFrame
set_option linter.unusedVariables false
set_option linter.unusedSimpArgs false
namespace Go.Det
universe u
variable {P : Program}

/-! Values without names. -/
mutual
theorem ren_free (τ : Nat → Nat) : ∀ v : AV, AV.free v = true → AV.ren τ v = v
  | .ptr b o, h => by simp [AV.free] at h
  | .slice b o n c x e, h => by simp [AV.free] at h
  | .map b, h => by simp [AV.free] at h
  | .yield b, h => by simp [AV.free] at h
  | .func f a c, h => by
    simp only [AV.free, ifb_none, ifb_eq] at h
    split at h
    · rename_i h0; simp only [AV.ren, rens_free τ a h0, rens_free τ c h]
    · cases h
  | .agg l, h => by simp only [AV.ren, rens_free τ l (by simpa [AV.free] using h)]
  | .tuple l, h => by simp only [AV.ren, rens_free τ l (by simpa [AV.free] using h)]
  | .vs l n c x w e, h => by
    simp only [AV.free, ifb_eq] at h
    split at h
    · rename_i h0
      cases w with
      | some b => simp at h0
      | none => simp only [AV.ren, rens_free τ l h]; rfl
    · cases h
  | .vptr l o, h => by simp only [AV.ren, rens_free τ l (by simpa [AV.free] using h)]
  | .iface t v, h => by simp only [AV.ren, ren_free τ v (by simpa [AV.free] using h)]
  | .bool _, _ => rfl
  | .int _ _, _ => rfl
  | .str _, _ => rfl
  | .nilPtr, _ => rfl
  | .nilSlice, _ => rfl
  | .nilMap, _ => rfl
  | .nilFunc, _ => rfl
  | .nilIface, _ => rfl
  | .gptr _ _, _ => rfl
theorem rens_free (τ : Nat → Nat) : ∀ l : List AV, AV.frees l = true → AV.rens τ l = l
  | [], _ => rfl
  | v :: l, h => by
    simp only [AV.frees, ifb_eq] at h
    split at h
    · rename_i h0; simp only [AV.rens, ren_free τ v h0, rens_free τ l h]
    · cases h
end
mutual
theorem under_free (n : Nat) : ∀ v : AV, AV.free v = true → AV.under n v
  | .ptr b o, h => by simp [AV.free] at h
  | .slice b o k c x e, h => by simp [AV.free] at h
  | .map b, h => by simp [AV.free] at h
  | .yield b, h => by simp [AV.free] at h
  | .func f a c, h => by
    simp only [AV.free, ifb_eq] at h
    split at h
    · rename_i h0; exact ⟨unders_free n a h0, unders_free n c h⟩
    · cases h
  | .agg l, h => unders_free n l (by simpa [AV.free] using h)
  | .tuple l, h => unders_free n l (by simpa [AV.free] using h)
  | .vs l k c x w e, h => by
    simp only [AV.free, ifb_eq] at h
    split at h
    · rename_i h0
      cases w with
      | some b => simp at h0
      | none => exact ⟨unders_free n l h, fun b hb => by cases hb⟩
    · cases h
  | .vptr l o, h => unders_free n l (by simpa [AV.free] using h)
  | .iface t v, h => under_free n v (by simpa [AV.free] using h)
  | .bool _, _ => trivial
  | .int _ _, _ => trivial
  | .str _, _ => trivial
  | .nilPtr, _ => trivial
  | .nilSlice, _ => trivial
  | .nilMap, _ => trivial
  | .nilFunc, _ => trivial
  | .nilIface, _ => trivial
  | .gptr _ _, _ => trivial
theorem unders_free (n : Nat) : ∀ l : List AV, AV.frees l = true → AV.unders n l
  | [], _ => trivial
  | v :: l, h => by
    simp only [AV.frees, ifb_eq] at h
    split at h
    · rename_i h0; exact ⟨under_free n v h0, unders_free n l h⟩
    · cases h
end
theorem frees_append : ∀ {a b : List AV}, AV.frees a = true → AV.frees b = true → AV.frees (a ++ b) = true
  | [], _, _, h => h
  | v :: l, b, h, h' => by
    simp only [AV.frees, ifb_eq, List.cons_append] at h ⊢
    split at h
    · rename_i h0; rw [if_pos h0]; exact frees_append h h'
    · cases h

/-! How an element's cells are told. -/
structure Enc (α : Type) where
  f : α → List AV
  e : Nat
  len : ∀ a, (f a).length = e
  scal : ∀ a, allScalar (f a) = true
  free : ∀ a, AV.frees (f a) = true
  drop : ∀ a, AV.drops (f a) = f a
theorem drops_append : ∀ a b : List AV, AV.drops (a ++ b) = AV.drops a ++ AV.drops b
  | [], _ => rfl
  | v :: a, b => by simp [AV.drops, drops_append a b]
theorem Enc.fdrop {α : Type} (E : Enc α) : ∀ l : List α, AV.drops (l.flatMap E.f) = l.flatMap E.f
  | [] => rfl
  | a :: l => by rw [List.flatMap_cons, drops_append, E.drop, Enc.fdrop E l]
theorem Enc.flen {α : Type} (E : Enc α) (l : List α) : (l.flatMap E.f).length = l.length * E.e := flatMap_len E.len l
theorem Enc.fscal {α : Type} (E : Enc α) (l : List α) : allScalar (l.flatMap E.f) = true := flatMap_scal E.scal l
theorem Enc.ffree {α : Type} (E : Enc α) : ∀ l : List α, AV.frees (l.flatMap E.f) = true
  | [] => rfl
  | a :: l => by rw [List.flatMap_cons]; exact frees_append (E.free a) (E.ffree l)
/-- A slice that nothing writes. -/
def lst {α : Type} (E : Enc α) (l : List α) : AV := .vs (l.flatMap E.f) l.length l.length false none E.e
/-- A slice that may grow. -/
def own {α : Type} (E : Enc α) (l : List α) (b : Nat) : AV := .vs (l.flatMap E.f) l.length l.length false (some b) E.e
theorem lst_free {α : Type} (E : Enc α) (l : List α) : AV.free (lst E l) = true := by simp [lst, AV.free, E.ffree]
def Enc.int (k : IntKind) : Enc Int := ⟨fun x => [.int k x], 1, fun _ => rfl, fun _ => rfl, fun _ => rfl, fun _ => rfl⟩
def Enc.list {α : Type} (E : Enc α) : Enc (List α) := ⟨fun l => [lst E l], 1, fun _ => rfl, fun _ => rfl, fun l => by simp [AV.frees, lst_free], fun l => by simp [AV.drops, AV.drop, lst, E.fdrop]⟩
theorem own_ren {α : Type} (E : Enc α) (l : List α) (b : Nat) (τ : Nat → Nat) : (own E l b).ren τ = own E l (τ b) := by simp [own, AV.ren, rens_free _ _ (E.ffree l)]
theorem own_under {α : Type} (E : Enc α) (l : List α) {b n : Nat} (h : b < n) : (own E l b).under n := ⟨unders_free _ _ (E.ffree l), fun b' hb => by injection hb with hb; omega⟩
theorem wk_nil {α : Type} (E : Enc α) : Wk .nilSlice (lst E []) := fun ρ x h => by cases h; exact .vsNil
theorem wk_vs {α : Type} {E : Enc α} {l : List α} {cs : List AV} {n c e : Nat} {x : Bool} {w : Option Nat} (h : cs = l.flatMap E.f ∧ n = l.length ∧ e = E.e) : Wk (.vs cs n c x w e) (lst E l) := by
  obtain ⟨rfl, rfl, rfl⟩ := h
  intro ρ v hv
  unfold lst
  generalize hcs : l.flatMap E.f = cs at hv ⊢
  generalize hn : l.length = n at hv ⊢
  cases hv with
  | vs h hs hl h1 h2 h3 h4 h5 => exact .vs h hs hl (Nat.le_refl _) (by omega) (fun h => by cases h) h4 (fun b hb => by cases hb)
  | vsNil => exact .vsNil
theorem wk_own {α : Type} {E : Enc α} {l : List α} {cs : List AV} {n c e b : Nat} {x : Bool} (h : WkL cs (l.flatMap E.f) ∧ n = l.length ∧ e = E.e) : Wk (.vs cs n c x (some b) e) (own E l b) := by
  obtain ⟨hcs, hn, rfl⟩ := h
  intro ρ v hv
  unfold own
  rw [← hn]
  cases hv with
  | vs g hs hl h1 h2 h3 h4 h5 => exact VR.vs (hcs.vrs g) (E.fscal l) (by rw [E.flen, hn]) (Nat.le_refl _) (by omega) (fun h => by cases h) h4 h5

/-! What is read. -/
def noD (D : List ADef) : Prop := match D with | [] => True | _ => False
theorem noD_eq {D : List ADef} (h : noD D) : D = [] := by cases D with | nil => rfl | cons a l => exact h.elim
def Got (T : Tr AV) (i : Nat) (u : AV) : Prop := ∃ v, T.get i = some v ∧ Wk v u
def onInt (q : IntKind) (v : AV) (k : Int → Prop) : Prop := match v with | .int q' n => ifp (eqKind q' q) (k n) False | _ => False
def onBool (v : AV) (k : Bool → Prop) : Prop := match v with | .bool b => k b | _ => False
def onStr (v : AV) (k : ByteArray → Prop) : Prop := match v with | .str b => k b | _ => False
def onPtr (v : AV) (k : Nat → Prop) : Prop := match v with | .ptr b o => ifp (Nat.beq o 0) (k b) False | _ => False
/-- A list, whatever the slice. -/
def onLst {α : Type} (E : Enc α) (v : AV) (k : List α → Prop) : Prop := ∃ l : List α, Wk v (lst E l) ∧ k l
def onOwn {α : Type} (E : Enc α) (st : St) (v : AV) (k : Nat → List α → Prop) : Prop :=
  match v with
  | .vs cs n c x (some b) e => obW (spareOf st b) fun _ => ∃ l : List α, (WkL cs (l.flatMap E.f) ∧ n = l.length ∧ e = E.e) ∧ k b l
  | _ => False
def isNilS (v : AV) (k : Prop) : Prop := match v with | .nilSlice => k | _ => False
theorem onInt_inv {q : IntKind} {v : AV} {k : Int → Prop} (h : onInt q v k) : ∃ n, v = .int q n ∧ k n := by
  unfold onInt at h
  split at h
  · rw [ifp_F, eqKind_iff] at h; obtain ⟨rfl, h⟩ := h; exact ⟨_, rfl, h⟩
  · exact h.elim
theorem onBool_inv {v : AV} {k : Bool → Prop} (h : onBool v k) : ∃ n, v = .bool n ∧ k n := by
  unfold onBool at h
  split at h
  · exact ⟨_, rfl, h⟩
  · exact h.elim
theorem onStr_inv {v : AV} {k : ByteArray → Prop} (h : onStr v k) : ∃ n, v = .str n ∧ k n := by
  unfold onStr at h
  split at h
  · exact ⟨_, rfl, h⟩
  · exact h.elim
theorem onPtr_inv {v : AV} {k : Nat → Prop} (h : onPtr v k) : ∃ b, v = .ptr b 0 ∧ k b := by
  unfold onPtr at h
  split at h
  · rw [ifp_F] at h; obtain ⟨h1, h⟩ := h; exact ⟨_, by rw [of_beq h1], h⟩
  · exact h.elim
theorem spareOf_get {st : St} {b : Nat} {u : Unit} (h : spareOf st b = some u) : st.heap.get b = some .spare := by
  unfold spareOf at h
  rw [ob_some] at h
  obtain ⟨o, k1, k2⟩ := h
  cases o <;> first | exact k1 | cases k2
theorem onOwn_inv {α : Type} {E : Enc α} {st : St} {v : AV} {k : Nat → List α → Prop} (h : onOwn E st v k) : ∃ b l, Wk v (own E l b) ∧ st.heap.get b = some .spare ∧ k b l := by
  unfold onOwn at h
  split at h
  · rw [obW_iff] at h
    obtain ⟨u, h1, l, h2, h3⟩ := h
    exact ⟨_, l, wk_own h2, spareOf_get h1, h3⟩
  · exact h.elim
theorem isNilS_inv {v : AV} {k : Prop} (h : isNilS v k) : v = .nilSlice ∧ k := by
  unfold isNilS at h
  split at h
  · exact ⟨rfl, h⟩
  · exact h.elim

/-- What a piece of code comes to from any state of which the part is a part. -/
theorem CodeN.at {bs ds : List Nat} {fn : FuncId} {nt : Nat} {c : Code} {Tc T T' : Tr AV} {st : St} {vm vm' : Bool} {gl gl' : Tr (List AV)} {rw' rw2 : TypeId → Bool} {os ps ns ps' ns' : List Ob} {o : Out} {e : Ex} {Tx : Tr AV}
    (h : CodeN P bs.length none fn nt c Tc (stL vm os gl rw') o) (ho : o = ⟨e, Tx, [], stL vm' (ps ++ ns) gl' rw2⟩)
    (hgl : ∀ g l, gl.get g = some l → st.gl.get g = some l ∧ AV.frees l = true)
    (hbd : (bs ++ ds).Nodup) (hos : (bs ++ ds).length = os.length)
    (hg : ∀ (i : Nat) (b : Nat) (o : Ob), (bs ++ ds)[i]? = some b → os[i]? = some o → (∃ o', st.heap.get b = some o' ∧ WkO o' (o.ren (tauL (bs ++ ds)))) ∧ o.under os.length)
    (hT : ∀ i v, Tc.get i = some v → Got T i (v.ren (tauL (bs ++ ds))) ∧ v.under os.length)
    (hb : bs.length = ps.length) (hpl : ps.length = ps'.length) (hnl : ns.length = ns'.length)
    (hp : ∀ (i : Nat) (o o' : Ob), ps[i]? = some o → ps'[i]? = some o' → WkO (o.ren (shift (tauL (bs ++ ds)) bs.length st.next)) o')
    (hn : ∀ (i : Nat) (o o' : Ob), ns[i]? = some o → ns'[i]? = some o' → WkO (o.ren (shift (tauL (bs ++ ds)) bs.length st.next)) o')
    (hT' : ∀ i v, T'.get i = some v → ∃ u, Tx.get i = some u ∧ Wk (u.ren (shift (tauL (bs ++ ds)) bs.length st.next)) v) :
    CodeS P none fn nt c T [] st ⟨e, T', [], newL (putL (delL st ds) bs ps') ns'⟩ := by
  subst ho
  exact CodeN.frame h rfl (Part.of (N := bs.length) hgl hos hbd hg) hT (Whole.of hb hbd (by simpa using hos.symm) hp hpl hn hnl) hT'

/-! Loops. -/
/-- The slots and blocks that are told are there: the first N blocks under their own names, the others under those of ds. -/
structure At (N : Nat) (ds : List Nat) (sl : List (Nat × AV)) (h : List Ob) (T : Tr AV) (st : St) : Prop where
  len : N + ds.length = h.length
  nd : (List.range N ++ ds).Nodup
  tmp : ∀ p ∈ sl, Got T p.1 (p.2.ren (tauL (List.range N ++ ds))) ∧ p.2.under h.length
  ob : ∀ (i b : Nat) (o : Ob), (List.range N ++ ds)[i]? = some b → h[i]? = some o → (∃ o', st.heap.get b = some o' ∧ WkO o' (o.ren (tauL (List.range N ++ ds)))) ∧ o.under h.length
theorem At.re {N : Nat} {ds : List Nat} {sl : List (Nat × AV)} {h : List Ob} {T : Tr AV} {st : St} (a : At N ds sl h T st) (vm : Bool) {gl : Tr (List AV)} {rw' : TypeId → Bool} (hf : ∀ g l, gl.get g = some l → AV.frees l = true) : Re N (tauL (List.range N ++ ds)) T st (mkT sl) (stL vm h gl rw') := by
  have hl : (List.range N ++ ds).length = h.length := by rw [List.length_append, List.length_range]; exact a.len
  refine ⟨fun i v hv => a.tmp (i, v) (mkT_get hv), fun b o hb => ?_, fun b b' h1 h2 e => ?_, fun b hb => ?_, hf⟩
  · obtain ⟨_, h2⟩ := heapL_get hb
    rw [Nat.sub_zero] at h2
    have hlt : b < h.length := by
      rcases Nat.lt_or_ge b h.length with q | q
      · exact q
      · rw [List.getElem?_eq_none q] at h2; cases h2
    have hx : (List.range N ++ ds)[b]? = some ((List.range N ++ ds)[b]'(by omega)) := List.getElem?_eq_getElem _
    obtain ⟨h3, h4⟩ := a.ob b _ o hx h2
    exact ⟨hlt, by rw [tauL_at hx]; exact h3, h4⟩
  · have h1' : b < (List.range N ++ ds).length := by rw [hl]; exact h1
    have h2' : b' < (List.range N ++ ds).length := by rw [hl]; exact h2
    rw [tauL_at (List.getElem?_eq_getElem h1'), tauL_at (List.getElem?_eq_getElem h2')] at e
    exact (List.getElem_inj a.nd).1 e
  · exact tauL_at (by rw [List.getElem?_append_left (by simpa using hb)]; simp [hb])

theorem heap_loop {Z : Type u} {N : Nat} {k : Z → Nat} {fn : FuncId} {nt : Nat} {y : Code} {vm : Bool} {gl : Tr (List AV)} {rw' : TypeId → Bool} (hgf : ∀ g l, gl.get g = some l → AV.frees l = true) (S : Z → List (Nat × AV)) (H : Z → List Ob) (μ : Z → Nat) (Inv : Z → Prop) (R : Z → Ex → List (Nat × AV) → List Ob → Prop)
    (hH : ∀ z, Inv z → (H z).length = k z) (hNk : ∀ z, Inv z → N ≤ k z)
    (body : ∀ z, Inv z → ∃ o, CodeS P none fn nt y (mkT (S z)) [] (stL vm (H z) gl rw') o ∧ o.defers = [] ∧
      ((o.ex = .normal ∧ ∃ z' ds, Inv z' ∧ μ z' < μ z ∧ At N ds (S z') (H z') o.tmps o.st ∧ ∀ e out h, R z' e out h → R z e out h) ∨
       (o.ex ≠ .normal ∧ ∃ out h ds, At N ds out h o.tmps o.st ∧ R z o.ex out h)))
    {z : Z} (hz : Inv z) {T : Tr AV} {st : St} (hgs : ∀ g l, gl.get g = some l → st.gl.get g = some l) {bs ds : List Nat} (hb : bs.length = N) (hbd : (bs ++ ds).Nodup) (hlen : (bs ++ ds).length = k z)
    (hT : ∀ p ∈ S z, Got T p.1 (p.2.ren (tauL (bs ++ ds))) ∧ p.2.under (k z))
    (hO : ∀ (i b : Nat) (o : Ob), (bs ++ ds)[i]? = some b → (H z)[i]? = some o → (∃ o', st.heap.get b = some o' ∧ WkO o' (o.ren (tauL (bs ++ ds)))) ∧ o.under (k z)) :
    ∃ e out h, N ≤ h.length ∧ R z e out h ∧ ∀ (T' : Tr AV) (ps' ns' : List Ob), ps'.length = N → N + ns'.length = h.length →
      (∀ (i : Nat) (o o' : Ob), i < N → h[i]? = some o → ps'[i]? = some o' → WkO (o.ren (shift (tauL (bs ++ ds)) N st.next)) o') →
      (∀ (i : Nat) (o o' : Ob), h[N + i]? = some o → ns'[i]? = some o' → WkO (o.ren (shift (tauL (bs ++ ds)) N st.next)) o') →
      (∀ i v, T'.get i = some v → ∃ u, (mkT out).get i = some u ∧ Wk (u.ren (shift (tauL (bs ++ ds)) N st.next)) v) →
      CodeS P none fn nt (.loop y) T [] st ⟨e, T', [], newL (putL (delL st ds) bs ps') ns'⟩ := by
  obtain ⟨o, h1, h2, h3, e, out, h, h4, h5, h6⟩ := loop_rule (P := P) (N := N) (fn := fn) (nt := nt) (y := y) μ Inv (fun z => (mkT (S z), stL vm (H z) gl rw'))
    (fun z o => ∃ e out h, N ≤ h.length ∧ R z e out h ∧ o = ⟨e, mkT out, [], stL vm h gl rw'⟩) (fun z hz => by show N ≤ (H z).length; rw [hH z hz]; exact hNk z hz) gl (fun _ _ => rfl)
    (by
      intro z hz
      obtain ⟨o, k1, k2, k3⟩ := body z hz
      refine ⟨o, k1, k2, ?_⟩
      rcases k3 with ⟨he, z', ds, i1, i2, i3, i4⟩ | ⟨he, out, h, ds, i1, i2⟩
      · exact .inl ⟨he, z', _, i1, i2, i3.re vm hgf, fun o' ⟨e, out, h, j0, j1, j2⟩ => ⟨e, out, h, j0, i4 _ _ _ j1, j2⟩⟩
      · have : N ≤ h.length := by have := i1.len; omega
        exact .inr ⟨he, mkT out, stL vm h gl rw', _, i1.re vm hgf, this, rfl, o.ex, out, h, this, i2, rfl⟩)
    (μ z + 1) z (Nat.lt_succ_self _) hz
  refine ⟨e, out, h, h4, h5, fun T' ps' ns' g1 g2 g3 g4 g5 => ?_⟩
  subst hb
  have hsplit : h.take bs.length ++ h.drop bs.length = h := List.take_append_drop _ _
  refine CodeN.at (os := H z) (vm := vm) (vm' := vm) (ps := h.take bs.length) (ns := h.drop bs.length) (Tx := mkT out) (h1) (by rw [h6, hsplit]) (fun g l h => ⟨hgs g l h, hgf g l h⟩) hbd (by rw [hlen, hH z hz]) ?_ ?_ (by rw [List.length_take]; omega) (by rw [List.length_take]; omega) (by rw [List.length_drop]; omega) ?_ ?_ g5
  · intro i b o q1 q2; rw [hH z hz]; exact hO i b o q1 q2
  · intro i v hv; rw [hH z hz]; exact hT (i, v) (mkT_get hv)
  · intro i o o' q1 q2
    have hi : i < bs.length := by
      rcases Nat.lt_or_ge i bs.length with q | q
      · exact q
      · rw [List.getElem?_eq_none (by omega)] at q2; cases q2
    rw [List.getElem?_take_of_lt hi] at q1
    exact g3 i o o' hi q1 q2
  · intro i o o' q1 q2
    rw [List.getElem?_drop] at q1
    exact g4 i o o' q1 q2

/-! For the printed proofs (lp.py). -/
theorem all_nil {α : Type} {Q : α → Prop} : ∀ p ∈ ([] : List α), Q p := fun p h => by cases h
theorem all_cons {α : Type} {Q : α → Prop} {a : α} {l : List α} (h : Q a) (t : ∀ p ∈ l, Q p) : ∀ p ∈ a :: l, Q p := fun p hp => by
  rcases List.mem_cons.1 hp with rfl | hp
  · exact h
  · exact t p hp
theorem got_free {T : Tr AV} {i : Nat} {v u : AV} {τ : Nat → Nat} {k : Nat} (h : T.get i = some v) (w : Wk v u) (f : AV.free u = true) : Got T i (u.ren τ) ∧ u.under k :=
  ⟨⟨v, h, by rw [ren_free τ u f]; exact w⟩, under_free k u f⟩
theorem got_own {T : Tr AV} {i : Nat} {v : AV} {α : Type} {E : Enc α} {l : List α} {j b : Nat} {τ : Nat → Nat} {k : Nat} (h : T.get i = some v) (w : Wk v (own E l b)) (ht : τ j = b) (hj : j < k) : Got T i ((own E l j).ren τ) ∧ (own E l j).under k :=
  ⟨⟨v, h, by rw [own_ren, ht]; exact w⟩, own_under E l hj⟩
theorem nospare {st : St} {τ : Nat → Nat} {k : Nat} : ∀ (i b : Nat) (o : Ob), ([] : List Nat)[i]? = some b → ([] : List Ob)[i]? = some o → (∃ o', st.heap.get b = some o' ∧ WkO o' (o.ren τ)) ∧ o.under k := fun i b o h => by simp at h
theorem spares_cons {st : St} {τ : Nat → Nat} {k c : Nat} {ds : List Nat} {H : List Ob} (s : st.heap.get c = some .spare) (r : ∀ (i b : Nat) (o : Ob), ds[i]? = some b → H[i]? = some o → (∃ o', st.heap.get b = some o' ∧ WkO o' (o.ren τ)) ∧ o.under k) :
    ∀ (i b : Nat) (o : Ob), (c :: ds)[i]? = some b → (Ob.spare :: H)[i]? = some o → (∃ o', st.heap.get b = some o' ∧ WkO o' (o.ren τ)) ∧ o.under k
  | 0, b, o, h1, h2 => by
    simp at h1 h2; subst h1; subst h2
    exact ⟨⟨_, s, WkO.refl _⟩, trivial⟩
  | i + 1, b, o, h1, h2 => r i b o (by simpa using h1) (by simpa using h2)
theorem nd0 : ([] : List Nat).Nodup := List.nodup_nil
theorem nd1 (b : Nat) : [b].Nodup := by simp
noncomputable def notInB (x : Nat) : List Nat → Bool
  | [] => true
  | y :: l => ifb (Nat.beq x y) false (notInB x l)
noncomputable def distB : List Nat → Bool
  | [] => true
  | x :: l => ifb (notInB x l) (distB l) false
noncomputable def distinct (l : List Nat) : Prop := distB l = true
theorem notInB_sound {x : Nat} : ∀ {l : List Nat}, notInB x l = true → x ∉ l
  | [], _ => by simp
  | y :: l, h => by
    simp only [notInB, ifb_eq] at h
    split at h
    · cases h
    · rename_i c
      intro hm
      rcases List.mem_cons.1 hm with rfl | hm
      · exact c (beq_t rfl)
      · exact notInB_sound h hm
theorem distinct.nodup : ∀ {l : List Nat}, distinct l → l.Nodup
  | [], _ => .nil
  | x :: l, h => by
    simp only [distinct, distB, ifb_eq] at h
    split at h
    · rename_i c; exact List.nodup_cons.2 ⟨notInB_sound c, distinct.nodup (l := l) h⟩
    · cases h
theorem news {σ : Nat → Nat} {h ns' : List Ob} (h1 : ∀ o ∈ h, o = Ob.spare) (h2 : ∀ o ∈ ns', o = Ob.spare) : ∀ (i : Nat) (o o' : Ob), h[0 + i]? = some o → ns'[i]? = some o' → WkO (o.ren σ) o' := fun i o o' a b => by
  obtain rfl := h1 o (List.mem_of_getElem? a)
  obtain rfl := h2 o' (List.mem_of_getElem? b)
  exact WkO.refl _
theorem outs_nil {out : Tr AV} {σ : Nat → Nat} : ∀ i v, (mkT ([] : List (Nat × AV))).get i = some v → ∃ u, out.get i = some u ∧ Wk (u.ren σ) v := fun i v h => by simp [mkT, Tr.get] at h
theorem outs_cons {l l' : List (Nat × AV)} {σ : Nat → Nat} {i : Nat} {u v : AV} (w : Wk (u.ren σ) v) (r : ∀ j v, (mkT l').get j = some v → ∃ u, (mkT l).get j = some u ∧ Wk (u.ren σ) v) :
    ∀ j v', (mkT ((i, v) :: l')).get j = some v' → ∃ u', (mkT ((i, u) :: l)).get j = some u' ∧ Wk (u'.ren σ) v' := fun j v' h => by
  simp only [mkT, Tr.get_set] at h ⊢
  by_cases e : j = i
  · rw [if_pos e] at h ⊢; injection h with h; subst h; exact ⟨u, rfl, w⟩
  · rw [if_neg e] at h ⊢; exact r j v' h
theorem outOf_free {u : AV} {σ : Nat → Nat} (h : AV.free u = true) : Wk (u.ren σ) u := by rw [ren_free σ u h]; exact Wk.refl u
theorem outOf_own {α : Type} {E : Enc α} {l : List α} {σ : Nat → Nat} {j b : Nat} (h : σ j = b) : Wk ((own E l j).ren σ) (own E l b) := by rw [own_ren, h]; exact Wk.refl _

end Go.Det
