/- Loops: a round is run at states of one form; what is not needed is forgotten, and names are told anew, between rounds. -/
import Derived.Test.YtenpjnfbpkidoaaGreatDoorDvVal
set_option linter.unusedVariables false
set_option linter.unusedSimpArgs false
namespace Go.Det
universe u
variable {P : Program}

/-! Names told anew: τ tells a new name's old one. -/
mutual
def AV.ren (τ : Nat → Nat) : AV → AV
  | .ptr b o => .ptr (τ b) o
  | .slice b o n c x e => .slice (τ b) o n c x e
  | .map b => .map (τ b)
  | .yield b => .yield (τ b)
  | .func f a c => .func f (AV.rens τ a) (AV.rens τ c)
  | .agg l => .agg (AV.rens τ l)
  | .tuple l => .tuple (AV.rens τ l)
  | .vs l n c x w e => .vs (AV.rens τ l) n c x (w.map τ) e
  | .vptr l o => .vptr (AV.rens τ l) o
  | .iface t v => .iface t (AV.ren τ v)
  | .bool b => .bool b
  | .int k n => .int k n
  | .str s => .str s
  | .nilPtr => .nilPtr
  | .nilSlice => .nilSlice
  | .nilMap => .nilMap
  | .nilFunc => .nilFunc
  | .nilIface => .nilIface
  | .gptr a b => .gptr a b
def AV.rens (τ : Nat → Nat) : List AV → List AV
  | [] => []
  | v :: l => AV.ren τ v :: AV.rens τ l
end
mutual
def AV.under (n : Nat) : AV → Prop
  | .ptr b _ => b < n
  | .slice b _ _ _ _ _ => b < n
  | .map b => b < n
  | .yield b => b < n
  | .func _ a c => AV.unders n a ∧ AV.unders n c
  | .agg l => AV.unders n l
  | .tuple l => AV.unders n l
  | .vs l _ _ _ w _ => AV.unders n l ∧ ∀ b, w = some b → b < n
  | .vptr l _ => AV.unders n l
  | .iface _ v => AV.under n v
  | _ => True
def AV.unders (n : Nat) : List AV → Prop
  | [] => True
  | v :: l => AV.under n v ∧ AV.unders n l
end
theorem rens_length (τ : Nat → Nat) : ∀ l : List AV, (AV.rens τ l).length = l.length
  | [] => rfl
  | v :: l => by simp [AV.rens, rens_length τ l]
theorem ren_scalar (τ : Nat → Nat) (v : AV) : (AV.ren τ v).scalar = v.scalar := by cases v <;> rfl
theorem rens_scalar (τ : Nat → Nat) : ∀ l : List AV, allScalar (AV.rens τ l) = allScalar l
  | [] => rfl
  | v :: l => by simp only [AV.rens, allScalar, ren_scalar, rens_scalar τ l]
theorem rens_get (τ : Nat → Nat) : ∀ (l : List AV) (i : Nat), (AV.rens τ l)[i]? = (l[i]?).map (AV.ren τ)
  | [], i => by simp [AV.rens]
  | v :: l, 0 => by simp [AV.rens]
  | v :: l, i + 1 => by simp [AV.rens, rens_get τ l i]
theorem unders_get {n : Nat} : ∀ {l : List AV} {i : Nat} {v : AV}, AV.unders n l → l[i]? = some v → AV.under n v
  | v :: l, 0, u, h, e => by simp at e; subst e; exact h.1
  | v :: l, i + 1, u, h, e => unders_get (l := l) (i := i) h.2 (by simpa using e)
  | [], _, _, _, e => by simp at e

def Names.ren (ρ : Names) (τ : Nat → Nat) (n : Nat) : Names := ⟨fun b => if b < n then ρ (τ b) else none, ρ.mem⟩
theorem Names.ren_at {ρ : Names} {τ : Nat → Nat} {n b : Nat} (h : b < n) : ρ.ren τ n b = ρ (τ b) := if_pos h
theorem Names.ren_inv {ρ : Names} {τ : Nat → Nat} {n b : Nat} {L : Loc} (h : ρ.ren τ n b = some L) : b < n ∧ ρ (τ b) = some L := by
  simp only [Names.ren] at h
  by_cases hb : b < n
  · rw [if_pos hb] at h; exact ⟨hb, h⟩
  · rw [if_neg hb] at h; cases h

mutual
theorem VR.ren {ρ : Names} {τ : Nat → Nat} {n : Nat} : ∀ {v : AV} {x : Value}, VR ρ (AV.ren τ v) x → AV.under n v → VR (ρ.ren τ n) v x
  | .bool b, _, h, _ => by cases h; exact .bool b
  | .int _ _, _, h, _ => by cases h; exact .int _ _
  | .str _, _, h, _ => by cases h; exact .str _
  | .nilPtr, _, h, _ => by cases h; exact .nilPtr
  | .nilSlice, _, h, _ => by cases h; exact .nilSlice
  | .nilMap, _, h, _ => by cases h; exact .nilMap
  | .nilFunc, _, h, _ => by cases h; exact .nilFunc
  | .nilIface, _, h, _ => by cases h; exact .nilIface
  | .gptr _ _, _, h, _ => by cases h; exact .gptr
  | .ptr b o, _, h, u => by
    simp only [AV.ren] at h
    cases h with
    | ptr h => exact .ptr (by rw [Names.ren_at u]; exact h)
  | .slice b o len c e k, _, h, u => by
    simp only [AV.ren] at h
    cases h with
    | slice h h1 h2 h3 h4 => exact .slice (by rw [Names.ren_at u]; exact h) h1 h2 h3 h4
  | .map b, _, h, u => by
    simp only [AV.ren] at h
    cases h with
    | map h => exact .map (by rw [Names.ren_at u]; exact h)
  | .yield b, _, h, u => by
    simp only [AV.ren] at h
    cases h with
    | yield h => exact .yield (by rw [Names.ren_at u]; exact h)
  | .func f a c, _, h, u => by
    simp only [AV.ren] at h
    cases h with
    | func h h' => exact .func (VRs.ren h u.1) (VRs.ren h' u.2)
  | .agg l, _, h, u => by
    simp only [AV.ren] at h
    cases h with
    | agg h => exact .agg (VRs.ren h u)
  | .tuple l, _, h, u => by
    simp only [AV.ren] at h
    cases h with
    | tuple h => exact .tuple (VRs.ren h u)
  | .vs l k c x w e, _, h, u => by
    simp only [AV.ren] at h
    generalize hr : AV.rens τ l = rl at h
    generalize hw : w.map τ = rw at h
    cases h with
    | vs h hs hl h1 h2 h3 h4 h5 =>
      subst hr; subst hw
      refine .vs (VRs.ren h u.1) (by rw [rens_scalar] at hs; exact hs) (by rw [rens_length] at hl; exact hl) h1 h2 h3 h4 ?_
      intro b hb
      subst hb
      obtain ⟨a1, a2, L, a3, a4⟩ := h5 _ rfl
      exact ⟨a1, a2, L, by rw [Names.ren_at (u.2 b rfl)]; exact a3, a4⟩
    | vsNil =>
      have hl : l = [] := by cases l with | nil => rfl | cons a t => simp [AV.rens] at hr
      have hw' : w = none := by cases w with | none => rfl | some b => simp at hw
      subst hl; subst hw'
      exact .vsNil
  | .vptr l o, _, h, u => by
    simp only [AV.ren] at h
    cases h with
    | vptr h hs hm => exact .vptr (VRs.ren h u) (by rw [rens_scalar] at hs; exact hs) hm
  | .iface t v, _, h, u => by
    simp only [AV.ren] at h
    cases h with
    | iface h => exact .iface (VR.ren h u)
theorem VRs.ren {ρ : Names} {τ : Nat → Nat} {n : Nat} : ∀ {l : List AV} {x : List Value}, VRs ρ (AV.rens τ l) x → AV.unders n l → VRs (ρ.ren τ n) l x
  | [], _, h, _ => by cases h; exact .nil
  | v :: l, _, h, u => by
    simp only [AV.rens] at h
    cases h with
    | cons h t => exact .cons (VR.ren h u.1) (VRs.ren t u.2)
end

mutual
/-- Whatever the names, told by other names. -/
theorem VR.fwd {ρ ρ' : Names} {τ : Nat → Nat} (hl : ∀ b L, ρ b = some L → ρ' (τ b) = some L) (hm : ∀ a i v, ρ.mem a i = some v → ρ'.mem a i = some v) : ∀ {v : AV} {x : Value}, VR ρ v x → VR ρ' (AV.ren τ v) x
  | _, _, .bool b => .bool b
  | _, _, .int k n => .int k n
  | _, _, .str s => .str s
  | _, _, .ptr h => .ptr (hl _ _ h)
  | _, _, .nilPtr => .nilPtr
  | _, _, .slice h h1 h2 h3 h4 => .slice (hl _ _ h) h1 h2 h3 h4
  | _, _, .nilSlice => .nilSlice
  | _, _, .map h => .map (hl _ _ h)
  | _, _, .nilMap => .nilMap
  | _, _, .func h h' => .func (VRs.fwd hl hm h) (VRs.fwd hl hm h')
  | _, _, .yield h => .yield (hl _ _ h)
  | _, _, .nilFunc => .nilFunc
  | _, _, .nilIface => .nilIface
  | _, _, .agg h => .agg (VRs.fwd hl hm h)
  | _, _, .tuple h => .tuple (VRs.fwd hl hm h)
  | _, _, .vs h hs hn h1 h2 h3 h4 h5 => .vs (VRs.fwd hl hm h) (by rw [rens_scalar]; exact hs) (by rw [rens_length]; exact hn) h1 h2 h3 (h4.imp id fun h => ⟨h.1, fun i v hv => hm _ _ _ (h.2 i v hv)⟩)
      (fun b hb => by
        obtain ⟨b0, e0, rfl⟩ := Option.map_eq_some_iff.1 hb
        obtain ⟨a, m, L, p, q⟩ := h5 b0 e0
        exact ⟨a, fun i v hv => hm _ _ _ (m i v hv), L, hl _ _ p, q⟩)
  | _, _, .vsNil => .vsNil
  | _, _, .vptr h hs hmm => .vptr (VRs.fwd hl hm h) (by rw [rens_scalar]; exact hs) (fun i v hv => hm _ _ _ (hmm i v hv))
  | _, _, .gptr => .gptr
  | _, _, .iface h => .iface (VR.fwd hl hm h)
theorem VRs.fwd {ρ ρ' : Names} {τ : Nat → Nat} (hl : ∀ b L, ρ b = some L → ρ' (τ b) = some L) (hm : ∀ a i v, ρ.mem a i = some v → ρ'.mem a i = some v) : ∀ {l : List AV} {x : List Value}, VRs ρ l x → VRs ρ' (AV.rens τ l) x
  | _, _, .nil => .nil
  | _, _, .cons h t => .cons (VR.fwd hl hm h) (VRs.fwd hl hm t)
end

/-- What is known of v is known of u: less may be. -/
def Wk (v u : AV) : Prop := ∀ (ρ : Names) (x : Value), VR ρ v x → VR ρ u x
theorem Wk.refl (v : AV) : Wk v v := fun _ _ h => h
theorem Wk.trans {u v w : AV} (h : Wk u v) (h' : Wk v w) : Wk u w := fun ρ x hx => h' ρ x (h ρ x hx)
def WkL : List AV → List AV → Prop
  | [], [] => True
  | v :: l, u :: m => Wk v u ∧ WkL l m
  | _, _ => False
theorem WkL.refl : ∀ l : List AV, WkL l l
  | [] => trivial
  | v :: l => ⟨Wk.refl v, WkL.refl l⟩
theorem WkL.vrs {ρ : Names} : ∀ {l m : List AV} {x : List Value}, WkL l m → VRs ρ l x → VRs ρ m x
  | [], [], _, _, h => h
  | v :: l, u :: m, _, ⟨h1, h2⟩, .cons hv t => .cons (h1 _ _ hv) (h2.vrs t)
  | [], _ :: _, _, h, _ => h.elim
  | _ :: _, [], _, h, _ => h.elim
theorem WkL.length : ∀ {l m : List AV}, WkL l m → l.length = m.length
  | [], [], _ => rfl
  | v :: l, u :: m, h => by simp [WkL.length h.2]
  | [], _ :: _, h => h.elim
  | _ :: _, [], h => h.elim
theorem WkL.get : ∀ {l m : List AV} {i : Nat} {u : AV}, WkL l m → m[i]? = some u → ∃ v, l[i]? = some v ∧ Wk v u
  | [], [], _, _, _, h => by simp at h
  | v :: l, u :: m, 0, w, h, e => by simp at e; subst e; exact ⟨v, by simp, h.1⟩
  | v :: l, u :: m, i + 1, w, h, e => by
    obtain ⟨v', h1, h2⟩ := h.2.get (i := i) (by simpa using e)
    exact ⟨v', by simpa using h1, h2⟩
  | [], _ :: _, _, _, h, _ => h.elim
  | _ :: _, [], _, _, h, _ => h.elim
/-- So of a block. -/
def WkO (o o' : Ob) : Prop := (∀ (ρ : Names) (L : Loc) (x : Option Obj), OR ρ L o x → OR ρ L o' x) ∧ (o = .spare → o' = .spare)
theorem WkO.refl (o : Ob) : WkO o o := ⟨fun _ _ _ h => h, id⟩

def Tr.map {α β : Type} (f : α → β) : Tr α → Tr β
  | .leaf => .leaf
  | .node l v r => .node (l.map f) (v.map f) (r.map f)
theorem Tr.get_map {α β : Type} (f : α → β) : ∀ (t : Tr α) (k : Nat), (t.map f).get k = (t.get k).map f
  | .leaf, k => rfl
  | .node l v r, k => by
    simp only [Tr.map, Tr.get_node, Tr.get_map f l, Tr.get_map f r]
    split
    · rfl
    · split <;> rfl
def AEntry.ren (τ : Nat → Nat) (e : AEntry) : AEntry := ⟨e.key.ren τ, e.val.ren τ, e.born⟩
def Ob.ren (τ : Nat → Nat) : Ob → Ob
  | .row cs e => .row (AV.rens τ cs) e
  | .map es c => .map (es.map (AEntry.ren τ)) c
  | .loop l => .loop { l with tmps := l.tmps.map (AV.ren τ), defers := τ l.defers }
  | .deferred b => .deferred b
  | .spare => .spare
  | .mit m => .mit (m.map τ)
  | .mitN b s sn c => .mitN (τ b) s sn c
def Ob.under (n : Nat) : Ob → Prop
  | .row cs _ => AV.unders n cs
  | .map es _ => ∀ e ∈ es, AV.under n e.key ∧ AV.under n e.val
  | .loop l => l.defers < n ∧ ∀ i v, l.tmps.get i = some v → AV.under n v
  | .mit m => ∀ b, m = some b → b < n
  | .mitN b _ _ _ => b < n
  | _ => True
theorem ERs.ren {ρ : Names} {τ : Nat → Nat} {n : Nat} : ∀ {l : List AEntry} {x : List MapEntry}, ERs ρ (l.map (AEntry.ren τ)) x → (∀ e ∈ l, AV.under n e.key ∧ AV.under n e.val) → ERs (ρ.ren τ n) l x
  | [], _, h, _ => by cases h; exact .nil
  | ⟨k, v, b⟩ :: l, _, h, u => by
    simp only [List.map_cons, AEntry.ren] at h
    cases h with
    | cons hk hv t => exact .cons (hk.ren (u ⟨k, v, b⟩ (by simp)).1) (hv.ren (u ⟨k, v, b⟩ (by simp)).2) (ERs.ren t fun e he => u e (by simp [he]))
theorem OR.ren {ρ : Names} {τ : Nat → Nat} {n : Nat} {L : Loc} {o : Ob} {x : Option Obj} (h : OR ρ L (o.ren τ) x) (u : o.under n) : OR (ρ.ren τ n) L o x := by
  cases o with
  | row cs e =>
    obtain ⟨arr, e', lo, hi, h1, h2, h3, h4, h5⟩ := h
    refine ⟨arr, e', lo, hi, h1, h2, by rw [rens_length] at h3; exact h3, h4, fun i v hv => ?_⟩
    obtain ⟨a, v', b, c⟩ := h5 i (v.ren τ) (by rw [rens_get, hv]; rfl)
    exact ⟨by rw [ren_scalar] at a; exact a, v', b, c.ren (unders_get u hv)⟩
  | map es c =>
    obtain ⟨es', h1, h2⟩ := h
    exact ⟨es', h1, h2.ren u⟩
  | loop l =>
    obtain ⟨tm, d, h1, h2, h3⟩ := h
    refine ⟨tm, d, h1, ⟨h2.1, fun t v hv => ?_⟩, ?_⟩
    · obtain ⟨v', a, b⟩ := h2.2 t (v.ren τ) (by rw [Tr.get_map, hv]; rfl)
      exact ⟨v', a, b.ren (u.2 t v hv)⟩
    · rw [Names.ren_at u.1]; exact h3
  | deferred b => exact h
  | spare => exact h
  | mit m =>
    obtain ⟨mm, s, seen, c, h0, h1, h2⟩ := h
    refine ⟨mm, s, seen, c, h0, h1, ?_⟩
    rcases h2 with ⟨h2, h3⟩ | ⟨b, K, h2, h3, h4⟩
    · left; cases m <;> simp at h2; exact ⟨rfl, h3⟩
    · right
      cases m with
      | none => simp at h2
      | some b0 =>
        simp at h2; subst h2
        exact ⟨b0, K, rfl, by rw [Names.ren_at (u b0 rfl)]; exact h3, h4⟩
  | mitN b s sn c =>
    obtain ⟨K, h0, h1, h2⟩ := h
    exact ⟨K, h0, by rw [Names.ren_at u]; exact h1, h2⟩

theorem ERs.fwd {ρ ρ' : Names} {τ : Nat → Nat} (hl : ∀ b L, ρ b = some L → ρ' (τ b) = some L) (hm : ∀ a i v, ρ.mem a i = some v → ρ'.mem a i = some v) : ∀ {l : List AEntry} {x : List MapEntry}, ERs ρ l x → ERs ρ' (l.map (AEntry.ren τ)) x
  | _, _, .nil => .nil
  | _, _, .cons hk hv t => .cons (hk.fwd hl hm) (hv.fwd hl hm) (ERs.fwd hl hm t)
theorem OR.fwd {ρ ρ' : Names} {τ : Nat → Nat} (hl : ∀ b L, ρ b = Option.some L → ρ' (τ b) = Option.some L) (hm : ∀ a i v, ρ.mem a i = Option.some v → ρ'.mem a i = Option.some v) {L : Loc} {o : Ob} {x : Option Obj} (h : OR ρ L o x) : OR ρ' L (o.ren τ) x := by
  cases o with
  | row cs e =>
    obtain ⟨arr, e', lo, hi, h1, h2, h3, h4, h5⟩ := h
    refine ⟨arr, e', lo, hi, h1, h2, by rw [rens_length]; exact h3, h4, fun i v hv => ?_⟩
    rw [rens_get, Option.map_eq_some_iff] at hv
    obtain ⟨v0, e0, rfl⟩ := hv
    obtain ⟨a, v', b, c⟩ := h5 i v0 e0
    exact ⟨by rw [ren_scalar]; exact a, v', b, c.fwd hl hm⟩
  | map es c =>
    obtain ⟨es', h1, h2⟩ := h
    exact ⟨es', h1, h2.fwd hl hm⟩
  | loop l =>
    obtain ⟨tm, d, h1, h2, h3⟩ := h
    refine ⟨tm, d, h1, ⟨h2.1, fun t v hv => ?_⟩, hl _ _ h3⟩
    have hv' : (l.tmps.map (AV.ren τ)).get t = Option.some v := hv
    rw [Tr.get_map, Option.map_eq_some_iff] at hv'
    obtain ⟨v0, e0, rfl⟩ := hv'
    obtain ⟨v', a, b⟩ := h2.2 t v0 e0
    exact ⟨v', a, b.fwd hl hm⟩
  | deferred b => exact h
  | spare => exact h
  | mit m =>
    obtain ⟨mm, s, seen, c, h0, h1, h2⟩ := h
    refine ⟨mm, s, seen, c, h0, h1, ?_⟩
    rcases h2 with ⟨h2, h3⟩ | ⟨b, K, h2, h3, h4⟩
    · subst h2; exact .inl ⟨rfl, h3⟩
    · subst h2; exact .inr ⟨τ b, K, rfl, hl _ _ h3, h4⟩
  | mitN b s sn c =>
    obtain ⟨K, h0, h1, h2⟩ := h
    exact ⟨K, h0, hl _ _ h1, h2⟩
theorem ren_spare {τ : Nat → Nat} {o : Ob} : o.ren τ = .spare ↔ o = .spare := by cases o <;> simp [Ob.ren]

/-- The state (T, st), seen as (Tc, stc). -/
structure Re (N : Nat) (τ : Nat → Nat) (T : Tr AV) (st : St) (Tc : Tr AV) (stc : St) : Prop where
  tmp : ∀ i v, Tc.get i = some v → (∃ u, T.get i = some u ∧ Wk u (v.ren τ)) ∧ v.under stc.next
  obj : ∀ b o, stc.heap.get b = some o → b < stc.next ∧ (∃ o', st.heap.get (τ b) = some o' ∧ WkO o' (o.ren τ)) ∧ o.under stc.next
  inj : ∀ b b', b < stc.next → b' < stc.next → τ b = τ b' → b = b'
  old : ∀ b, b < N → τ b = b
  fr : ∀ g l, stc.gl.get g = some l → AV.frees l = true

/-- What is known of tables. -/
def GlobOk (ρ : Names) (gl : Tr (List AV)) : Prop := ∀ g l, gl.get g = some l → ∃ l' : List Value, VRs ρ l l' ∧ ∀ (i : Nat) (v : Value), l'[i]? = some v → ρ.mem g i = some v
theorem GlobOk.of {ρ : Names} {st : St} {w : World} {gl : Tr (List AV)} (hH : HR ρ st w) (e : ∀ g l, gl.get g = some l → st.gl.get g = some l) : GlobOk ρ gl := fun g l h => hH.glob g l (e g l h)
theorem GlobOk.mono {ρ ρ' : Names} {gl : Tr (List AV)} (h : GlobOk ρ gl) (hm : ∀ a i v, ρ.mem a i = some v → ρ'.mem a i = some v) (hf : ∀ g l, gl.get g = some l → AV.frees l = true) : GlobOk ρ' gl := fun g l hg =>
  let ⟨l', a, c⟩ := h g l hg; ⟨l', VRs.free hm a (hf g l hg), fun i v hv => hm _ _ _ (c i v hv)⟩

theorem Re.HR {N : Nat} {τ : Nat → Nat} {T : Tr AV} {st : St} {Tc : Tr AV} {stc : St} (h : Re N τ T st Tc stc) {ρ : Names} {w : World} (hg0 : GlobOk ρ stc.gl) (hH : HR ρ st w) : HR (ρ.ren τ stc.next) stc w := by
  refine ⟨fun b L hb => ?_, fun b o hb => ?_, fun b b' o o' L L' h1 h2 h3 h4 e => ?_, hH.mem, fun a i v hv b o L hb hL he => ?_, fun g l hg => ?_⟩
  · obtain ⟨h1, h2⟩ := Names.ren_inv hb
    exact ⟨h1, (hH.lt _ _ h2).2⟩
  · obtain ⟨h1, ⟨o', h2, hw⟩, h3⟩ := h.obj b o hb
    obtain ⟨L, hL, hO⟩ := hH.obj _ _ h2
    exact ⟨L, by rw [Names.ren_at h1]; exact hL, (hw.1 _ _ _ hO).ren h3⟩
  · obtain ⟨a1, ⟨_, a2, _⟩, _⟩ := h.obj b o h1
    obtain ⟨c1, ⟨_, c2, _⟩, _⟩ := h.obj b' o' h2
    rw [Names.ren_at a1] at h3
    rw [Names.ren_at c1] at h4
    exact h.inj b b' a1 c1 (hH.inj _ _ _ _ _ _ a2 c2 h3 h4 e)
  · obtain ⟨a1, ⟨o', a2, hw⟩, _⟩ := h.obj b o hb
    rw [Names.ren_at a1] at hL
    obtain ⟨k1, k2⟩ := hH.sep a i v hv _ _ L a2 hL he
    exact ⟨ren_spare.1 (hw.2 k1), k2⟩
  · obtain ⟨l', a, c⟩ := hg0 g l hg
    exact ⟨l', VRs.free (ρ := ρ) (ρ' := ρ.ren τ stc.next) (fun _ _ _ h => h) a (h.fr g l hg), c⟩
theorem Re.TR {N : Nat} {τ : Nat → Nat} {T : Tr AV} {st : St} {Tc : Tr AV} {stc : St} (h : Re N τ T st Tc stc) {ρ : Names} {nt : Nat} {tm : Array Value} (hT : TR ρ nt T tm) : TR (ρ.ren τ stc.next) nt Tc tm :=
  ⟨hT.1, fun t v hv => let ⟨⟨u, a, aw⟩, b⟩ := h.tmp t v hv; let ⟨v', c, d⟩ := hT.2 t _ a; ⟨v', c, (aw _ _ d).ren b⟩⟩

/-- As Goes; of names below N alone it is known that they stay. -/
structure GoesN (N : Nat) (ρ : Names) (st : St) (w : World) (ρ' : Names) (st' : St) (w' : World) : Prop where
  nm : ∀ b L, b < N → ρ' b = some L → ρ b = some L
  mem : ∀ a i v, ρ.mem a i = some v → ρ'.mem a i = some v
  size : w.heap.size ≤ w'.heap.size
  img : ∀ b o L, st'.heap.get b = some o → ρ' b = some L → L.blk < w.heap.size → ∃ b0 o0 L0, st.heap.get b0 = some o0 ∧ ρ b0 = some L0 ∧ L0.blk = L.blk
  same : ∀ x, x < w.heap.size → (∀ b o L, st.heap.get b = some o → ρ b = some L → L.blk ≠ x) → w'.heap[x]? = w.heap[x]?
  os : w'.os = w.os
  tape : w'.tape = w.tape
  output : w'.output = w.output
  grew : ∀ a i v, ρ'.mem a i = some v → ρ.mem a i = some v ∨ w.heap.size ≤ a ∨ ∃ b o L, st.heap.get b = some o ∧ ρ b = some L ∧ L.blk = a
theorem GoesN.trans {N : Nat} {ρ ρ1 ρ2 : Names} {st st1 st2 : St} {w w1 w2 : World} (h : GoesN N ρ st w ρ1 st1 w1) (h' : GoesN N ρ1 st1 w1 ρ2 st2 w2) : GoesN N ρ st w ρ2 st2 w2 := by
  refine ⟨fun b L hb hL => h.nm b L hb (h'.nm b L hb hL), fun a i v hv => h'.mem _ _ _ (h.mem _ _ _ hv), Nat.le_trans h.size h'.size, ?_, ?_, h'.os.trans h.os, h'.tape.trans h.tape, h'.output.trans h.output, ?_⟩
  · intro b o L hb hL hlt
    obtain ⟨b1, o1, L1, h1, h2, h3⟩ := h'.img b o L hb hL (Nat.lt_of_lt_of_le hlt h.size)
    obtain ⟨b0, o0, L0, k1, k2, k3⟩ := h.img b1 o1 L1 h1 h2 (h3 ▸ hlt)
    exact ⟨b0, o0, L0, k1, k2, k3.trans h3⟩
  · intro x hx hn
    rw [h'.same x (Nat.lt_of_lt_of_le hx h.size) ?_, h.same x hx hn]
    intro b o L hb hL he
    obtain ⟨b0, o0, L0, k1, k2, k3⟩ := h.img b o L hb hL (he ▸ hx)
    exact hn b0 o0 L0 k1 k2 (k3.trans he)
  · intro a i v hv
    rcases h'.grew a i v hv with h1 | h1 | ⟨b, o, L, h1, h2, h3⟩
    · exact h.grew a i v h1
    · exact .inr (.inl (Nat.le_trans h.size h1))
    · rcases Nat.lt_or_ge a w.heap.size with hlt | hge
      · obtain ⟨b0, o0, L0, k1, k2, k3⟩ := h.img b o L h1 h2 (h3 ▸ hlt)
        exact .inr (.inr ⟨b0, o0, L0, k1, k2, k3.trans h3⟩)
      · exact .inr (.inl hge)
theorem Goes.toN {N : Nat} {ρ ρ' : Names} {st st' : St} {w w' : World} (h : Goes ρ st w ρ' st' w') (hN : N ≤ st.next) : GoesN N ρ st w ρ' st' w' :=
  ⟨fun b L hb hL => by
    rcases h.fresh b L hL with h1 | ⟨h1, _⟩
    · exact h1
    · omega, h.le.mem, h.size, h.img, h.same, h.os, h.tape, h.output, h.grew⟩
/-- Telling names anew turns nothing. -/
theorem Re.goes {N : Nat} {τ : Nat → Nat} {T : Tr AV} {st : St} {Tc : Tr AV} {stc : St} (h : Re N τ T st Tc stc) {ρ : Names} {w : World} : GoesN N ρ st w (ρ.ren τ stc.next) stc w := by
  refine ⟨fun b L hb hL => ?_, fun _ _ _ h => h, Nat.le_refl _, fun b o L hb hL _ => ?_, fun _ _ _ => rfl, rfl, rfl, rfl, fun a i v hv => .inl hv⟩
  · have := (Names.ren_inv hL).2
    rwa [h.old b hb] at this
  · obtain ⟨a1, ⟨_, a2, _⟩, _⟩ := h.obj b o hb
    rw [Names.ren_at a1] at hL
    exact ⟨τ b, _, L, a2, hL, rfl⟩

theorem RoR.toNone {ρ ρ' : Names} {b : Option Nat} (h : RoR ρ (Option.none) b) : RoR ρ' (Option.none) b := by cases h; exact .none

/-- A piece of code, with names that are told anew. -/
def CodeN (P : Program) (N : Nat) (ro : Option Nat) (fn : FuncId) (nt : Nat) (c : Code) (T : Tr AV) (st : St) (o : Out) : Prop :=
  ∀ ρ w tm b k cs, HR ρ st w → TR ρ nt T tm → b.fn = fn → RoR ρ ro b.roundOf →
    ∃ ρ' w' tm', GoesN N ρ st w ρ' o.st w' ∧ HR ρ' o.st w' ∧ TR ρ' nt o.tmps tm' ∧ Arr P (lone (on b tm [] (.code c :: k)) cs w) b k cs o.ex tm' [] w'

theorem CodeS.toN {N : Nat} {ro : Option Nat} {fn : FuncId} {nt : Nat} {c : Code} {T : Tr AV} {st : St} {o : Out} (h : CodeS P ro fn nt c T [] st o) (hd : o.defers = []) (hN : N ≤ st.next) : CodeN P N ro fn nt c T st o := by
  intro ρ w tm b k cs hH hT hb hro
  obtain ⟨ρ', w', tm', df', G, H, T', D, A⟩ := h ρ w tm [] b k cs hH hT .nil hb hro
  rw [hd] at D
  cases D
  exact ⟨ρ', w', tm', G.toN hN, H, T', A⟩
theorem CodeN.re {N : Nat} {ro : Option Nat} {fn : FuncId} {nt : Nat} {c : Code} {T : Tr AV} {st : St} {o : Out} (h : CodeN P N ro fn nt c T st o) {τ : Nat → Nat} {Tc : Tr AV} {stc : St} (hr : Re N τ o.tmps o.st Tc stc) (hg : ∀ g l, stc.gl.get g = some l → st.gl.get g = some l) :
    CodeN P N ro fn nt c T st ⟨o.ex, Tc, [], stc⟩ := by
  intro ρ w tm b k cs hH hT hb hro
  obtain ⟨ρ', w', tm', G, H, T', A⟩ := h ρ w tm b k cs hH hT hb hro
  exact ⟨_, w', tm', G.trans hr.goes, hr.HR ((GlobOk.of hH hg).mono G.mem hr.fr) H, hr.TR T', A⟩
theorem CodeN.toS {N : Nat} {ro : Option Nat} {fn : FuncId} {nt : Nat} {c : Code} {T : Tr AV} {st : St} {o : Out} (h : CodeN P N ro fn nt c T st o) (hN : N = st.next) (hn : N ≤ o.st.next) (hd : o.defers = []) : CodeS P ro fn nt c T [] st o := by
  intro ρ w tm df b k cs hH hT hD hb hro
  cases hD
  obtain ⟨ρ', w', tm', G, H, T', A⟩ := h ρ w tm b k cs hH hT hb hro
  subst hN
  let ρ2 : Names := ⟨fun b => if b < st.next then ρ b else ρ' b, ρ'.mem⟩
  have le1 : ρ.le ρ2 := ⟨fun b L hL => by show (if b < st.next then ρ b else ρ' b) = _; rw [if_pos (hH.lt _ _ hL).1]; exact hL, G.mem⟩
  have le2 : ρ'.le ρ2 := ⟨fun b L hL => by
    show (if b < st.next then ρ b else ρ' b) = _
    by_cases c : b < st.next
    · rw [if_pos c]; exact G.nm b L c hL
    · rw [if_neg c]; exact hL, fun _ _ _ h => h⟩
  have back : ∀ b o1 L, o.st.heap.get b = some o1 → ρ2 b = some L → ρ' b = some L := by
    intro b o1 L hb hL
    obtain ⟨L', h1, _⟩ := H.obj b o1 hb
    have := le2 _ _ h1
    rw [this] at hL; injection hL with hL; subst hL; exact h1
  refine ⟨ρ2, w', tm', [], ⟨le1, hn, ?_, G.size, ?_, G.same, G.os, G.tape, G.output, G.grew⟩, ?_, T'.mono le2, by rw [hd]; exact .nil, A⟩
  · intro b L hL
    by_cases c : b < st.next
    · left
      have : (if b < st.next then ρ b else ρ' b) = some L := hL
      rwa [if_pos c] at this
    · exact .inr ⟨by omega, fun k hk => c (hH.lt _ _ hk).1⟩
  · intro b o1 L hb hL hlt
    exact G.img b o1 L hb (back b o1 L hb hL) hlt
  · refine ⟨fun b L hL => ?_, fun b o1 hb => ?_, fun b b' o1 o2 L L' h1 h2 h3 h4 e => H.inj b b' o1 o2 L L' h1 h2 (back _ _ _ h1 h3) (back _ _ _ h2 h4) e, H.mem, fun a i v hv b o1 L hb hL he => H.sep a i v hv b o1 L hb (back _ _ _ hb hL) he,
      fun g l hg => let ⟨l', a, c⟩ := H.glob g l hg; ⟨l', a.mono le2, c⟩⟩
    · have hL' : (if b < st.next then ρ b else ρ' b) = some L := hL
      by_cases c : b < st.next
      · rw [if_pos c] at hL'
        exact ⟨by omega, Nat.lt_of_lt_of_le (hH.lt _ _ hL').2 G.size⟩
      · rw [if_neg c] at hL'
        exact H.lt _ _ hL'
    · obtain ⟨L, h1, h2⟩ := H.obj b o1 hb
      exact ⟨L, le2 _ _ h1, h2.mono le2⟩

theorem CodeN.loop {N : Nat} {ro : Option Nat} {fn : FuncId} {nt : Nat} {y : Code} {T : Tr AV} {st : St} {t1 : Tr AV} {s1 : St} {o : Out} (ha : CodeN P N ro fn nt y T st ⟨.normal, t1, [], s1⟩)
    (hb' : CodeN P N none fn nt (.loop y) t1 s1 o) (hr : ro = none) : CodeN P N ro fn nt (.loop y) T st o := by
  subst hr
  intro ρ w tm b k cs hH hT hbf hro
  obtain ⟨ρ1, w1, tm1, g1, H1, T1, A1⟩ := ha ρ w tm b (.inLoop y :: k) cs hH hT hbf hro
  obtain ⟨ρ2, w2, tm2, g2, H2, T2, A2⟩ := hb' ρ1 w1 tm1 b k cs H1 T1 hbf hro.toNone
  exact ⟨ρ2, w2, tm2, g1.trans g2, H2, T2, Arr.of_steps (.head st_loop (Steps.trans A1 (.one st_inLoop))) (Arr.cut st_loop A2)⟩
theorem CodeN.loop_stop {N : Nat} {ro : Option Nat} {fn : FuncId} {nt : Nat} {y : Code} {T : Tr AV} {st : St} {o : Out} (ha : CodeN P N ro fn nt y T st o) (he : o.ex ≠ .normal) : CodeN P N ro fn nt (.loop y) T st o := by
  intro ρ w tm b k cs hH hT hbf hro
  obtain ⟨ρ1, w1, tm1, g1, H1, T1, A1⟩ := ha ρ w tm b (.inLoop y :: k) cs hH hT hbf hro
  exact ⟨ρ1, w1, tm1, g1, H1, T1, Arr.of_steps (.one st_loop) (Arr.bind (k' := .inLoop y :: k) (fun _ => rfl) A1 he)⟩

/-- Round by round. -/
theorem loop_rule {Z : Type u} {N : Nat} {fn : FuncId} {nt : Nat} {y : Code} (μ : Z → Nat) (Inv : Z → Prop) (S : Z → Tr AV × St) (R : Z → Out → Prop) (hN : ∀ z, Inv z → N ≤ (S z).2.next) (gl : Tr (List AV)) (hS : ∀ z, Inv z → (S z).2.gl = gl)
    (body : ∀ z, Inv z → ∃ o, CodeS P none fn nt y (S z).1 [] (S z).2 o ∧ o.defers = [] ∧
      ((o.ex = .normal ∧ ∃ z' τ, Inv z' ∧ μ z' < μ z ∧ Re N τ o.tmps o.st (S z').1 (S z').2 ∧ ∀ o', R z' o' → R z o') ∨
       (o.ex ≠ .normal ∧ ∃ Tf stf τ, Re N τ o.tmps o.st Tf stf ∧ N ≤ stf.next ∧ stf.gl = gl ∧ R z ⟨o.ex, Tf, [], stf⟩))) :
    ∀ n z, μ z < n → Inv z → ∃ o, CodeN P N none fn nt (.loop y) (S z).1 (S z).2 o ∧ o.defers = [] ∧ N ≤ o.st.next ∧ R z o
  | 0, z, h, _ => by omega
  | n + 1, z, h, hi => by
    obtain ⟨⟨ex, T1, D1, st1⟩, h1, h2, h3⟩ := body z hi
    have hd : D1 = [] := h2
    subst hd
    have h4 := h1.toN rfl (hN z hi)
    rcases h3 with ⟨he, z', τ, k1, k2, k3, k4⟩ | ⟨he, Tf, stf, τ, k1, k2, kg, k3⟩
    · have he' : ex = .normal := he
      subst he'
      obtain ⟨o, j1, j2, j3, j4⟩ := loop_rule μ Inv S R hN gl hS body n z' (by omega) k1
      exact ⟨o, CodeN.loop (h4.re k3 (by rw [hS z' k1, hS z hi]; exact fun _ _ h => h)) j1 rfl, j2, j3, k4 _ j4⟩
    · exact ⟨_, CodeN.loop_stop (h4.re k1 (by rw [kg, hS z hi]; exact fun _ _ h => h)) he, rfl, k2, k3⟩
mutual
theorem ren_id : ∀ v : AV, AV.ren id v = v
  | .ptr b o => rfl
  | .slice b o n c x e => rfl
  | .map b => rfl
  | .yield b => rfl
  | .func f a c => by simp only [AV.ren, rens_id]
  | .agg l => by simp only [AV.ren, rens_id]
  | .tuple l => by simp only [AV.ren, rens_id]
  | .vs l n c x w e => by simp only [AV.ren, rens_id]; cases w <;> rfl
  | .vptr l o => by simp only [AV.ren, rens_id]
  | .iface t v => by simp only [AV.ren, ren_id]
  | .bool b => rfl
  | .int k n => rfl
  | .str s => rfl
  | .nilPtr => rfl
  | .nilSlice => rfl
  | .nilMap => rfl
  | .nilFunc => rfl
  | .nilIface => rfl
  | .gptr a b => rfl
theorem rens_id : ∀ l : List AV, AV.rens id l = l
  | [] => rfl
  | v :: l => by simp only [AV.rens, ren_id, rens_id]
end
theorem unders_of {n : Nat} : ∀ {l : List AV}, (∀ v ∈ l, AV.under n v) → AV.unders n l
  | [], _ => trivial
  | v :: l, h => ⟨h v (by simp), unders_of fun u hu => h u (by simp [hu])⟩
def noneO (o : Option Nat) : Prop := match o with | none => True | _ => False
theorem noneO_eq {o : Option Nat} (h : noneO o) : o = none := by cases o with | none => rfl | some x => exact h.elim
theorem Val.ofK (hm : P.follows .mixedOrders = true) {K : Known} (hK : KnownOk P K) {n : Nat} {f : FuncId} {args : List AV} {v : AV} {X : (AV → Prop) → Prop} (ha : AV.frees args = true) (hv : AV.free v = true) (hd : AV.drop v = v)
    (e : ∀ Q : AV → Prop, (callW P (runW P K n) f args (stE false) fun x _ => Q x) = X Q) (h : X fun x => x = v) : Val P f args v := by
  intro st
  have h' : callW P (runW P K n) f args (stE false) (fun x _ => x = v) := (e _) ▸ h
  obtain ⟨v1, st1, h1, h2⟩ := CallS.of_W hm hK n h'
  subst h2
  have := CallS.lift h1 ha (by rw [hd]; exact hv) st
  rwa [hd] at this
theorem frees_of : ∀ {l : List AV}, (∀ v ∈ l, AV.free v = true) → AV.frees l = true
  | [], _ => rfl
  | v :: l, h => by simp only [AV.frees]; rw [h v (by simp), ifb_true]; exact frees_of fun u hu => h u (by simp [hu])
/-! Lists of numbers. -/
def ints (k : IntKind) (l : List Int) : List AV := l.flatMap fun x => [.int k x]
theorem ints_mem {k : IntKind} {l : List Int} {v : AV} (h : v ∈ ints k l) : ∃ x ∈ l, v = .int k x := by
  unfold ints at h
  rw [List.mem_flatMap] at h
  obtain ⟨x, hx, hv⟩ := h
  exact ⟨x, hx, by simpa using hv⟩
theorem ints_get {k : IntKind} : ∀ (l : List Int) (i : Nat), nth i (ints k l) = (l[i]?).map (AV.int k)
  | [], i => by rw [nth_eq]; simp [ints]
  | x :: l, 0 => rfl
  | x :: l, i + 1 => by
    have := ints_get (k := k) l i
    rw [nth_eq] at this ⊢
    have e : ints k (x :: l) = AV.int k x :: ints k l := rfl
    rw [e, List.getElem?_cons_succ, List.getElem?_cons_succ, this]

/-! States written out. -/
noncomputable def mkT {α : Type} : List (Nat × α) → Tr α
  | [] => .leaf
  | p :: l => (mkT l).set p.1 p.2
theorem mkT_get {α : Type} : ∀ {l : List (Nat × α)} {i : Nat} {v : α}, (mkT l).get i = some v → (i, v) ∈ l
  | [], i, v, h => by simp [mkT, Tr.get] at h
  | p :: l, i, v, h => by
    simp only [mkT, Tr.get_set] at h
    by_cases e : i = p.1
    · rw [if_pos e] at h; injection h with h; subst h; subst e; simp
    · rw [if_neg e] at h; exact List.mem_cons_of_mem _ (mkT_get h)
/-- Nothing is told anew. -/
theorem Re.of {T : Tr AV} {st : St} {l : List (Nat × AV)} {h : List (Nat × Ob)} {n : Nat} {vm : Bool} (N : Nat) (τ : Nat → Nat) (hT : ∀ p ∈ l, (∃ u, T.get p.1 = some u ∧ Wk u (p.2.ren τ)) ∧ p.2.under n) (hH : ∀ p ∈ h, p.1 < n ∧ (∃ o', st.heap.get (τ p.1) = some o' ∧ WkO o' (p.2.ren τ)) ∧ p.2.under n)
    (hi : ∀ b b', b < n → b' < n → τ b = τ b' → b = b') (ho : ∀ b, b < N → τ b = b) : Re N τ T st (mkT l) { heap := mkT h, next := n, vm := vm } :=
  ⟨fun i v hv => hT (i, v) (mkT_get hv), fun b o hb => hH (b, o) (mkT_get hb), hi, ho, fun g l h => by simp [Tr.get] at h⟩

/-! Where the program's loops lie. -/
noncomputable def findLoop (id : Nat) : Code → Option Code
  | .seq a b => Option.rec (findLoop id b) (fun c => some c) (findLoop id a)
  | .cond _ a b => Option.rec (findLoop id b) (fun c => some c) (findLoop id a)
  | .block _ b => findLoop id b
  | .scope b => findLoop id b
  | .loop b => Bool.rec (findLoop id b) (some b) (Nat.beq (firstReg b) id)
  | .rangeFunc _ _ _ b => findLoop id b
  | _ => none
/-- The body of the loop whose first region bears the number. -/
noncomputable def loopBody (P : Program) (fn : FuncId) (id : Nat) : Code := Option.rec .skip (fun f => Option.rec .skip (fun c => Option.rec .skip (fun b => b) (findLoop id c)) f.body) P.funcs[fn]?

end Go.Det
