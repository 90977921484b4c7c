/- Shapes of slots and blocks, their readers, and the contracts of loops made of them. -/
import Derived.Test.YteehkdejkemnmabDoorDvFn
import Derived.Test.YteehkdejkemnmabDoorDvMap
set_option linter.unusedVariables false
set_option linter.unusedSimpArgs false
noncomputable section
namespace Go.Det
variable {P : Program}

theorem Wk.scalar {ρ : Names} {u v : AV} {x : Value} (h : VR ρ u x) (h' : VR ρ v x) (hs : v.scalar = true) : u.scalar = true := by
  cases u with
  | agg l => cases h; cases h'; cases hs
  | tuple l => cases h; cases h'; cases hs
  | _ => rfl

/-! Which block is meant. -/
abbrev Env := List (Option Nat)
def envGet : Env → Nat → Option Nat
  | [], _ => none
  | o :: _, 0 => o
  | _ :: l, j + 1 => envGet l j
def envSet : Env → Nat → Nat → Env
  | [], _, _ => []
  | _ :: l, 0, b => some b :: l
  | o :: l, j + 1, b => o :: envSet l j b
def bindN (env : Env) (j b : Nat) (k : Env → Prop) : Prop :=
  Option.rec (ifp (Nat.ble (Nat.succ j) env.length) (k (envSet env j b)) False) (fun b' => ifp (Nat.beq b b') (k env) False) (envGet env j)
def nmOf (env : Env) (j : Nat) : Nat := Option.rec 0 (fun b => b) (envGet env j)
def Ext (a b : Env) : Prop := b.length = a.length ∧ ∀ j x, envGet a j = some x → envGet b j = some x
theorem Ext.refl (a : Env) : Ext a a := ⟨rfl, fun _ _ h => h⟩
theorem Ext.trans {a b c : Env} (h : Ext a b) (h' : Ext b c) : Ext a c := ⟨h'.1.trans h.1, fun j x hx => h'.2 j x (h.2 j x hx)⟩
theorem envSet_len : ∀ (env : Env) (j b : Nat), (envSet env j b).length = env.length
  | [], _, _ => rfl
  | _ :: _, 0, _ => rfl
  | _ :: l, j + 1, b => by simp [envSet, envSet_len l j b]
theorem envGet_set : ∀ {env : Env} {j b i : Nat}, j < env.length → envGet (envSet env j b) i = if i = j then some b else envGet env i
  | [], j, b, i, h => by simp at h
  | o :: l, 0, b, 0, h => by simp [envSet, envGet]
  | o :: l, 0, b, i + 1, h => by simp [envSet, envGet]
  | o :: l, j + 1, b, 0, h => by simp [envSet, envGet]
  | o :: l, j + 1, b, i + 1, h => by simp only [envSet, envGet]; rw [envGet_set (by simpa using h)]; simp
theorem bindN_sound {env : Env} {j b : Nat} {k : Env → Prop} (h : bindN env j b k) : ∃ env', Ext env env' ∧ envGet env' j = some b ∧ k env' := by
  unfold bindN at h
  cases hg : envGet env j with
  | none =>
    rw [hg] at h
    change ifp _ _ False at h
    rw [ifp_F] at h
    obtain ⟨h1, h2⟩ := h
    have hj : j < env.length := of_ble h1
    refine ⟨_, ⟨envSet_len _ _ _, fun i x hx => ?_⟩, by rw [envGet_set hj, if_pos rfl], h2⟩
    rw [envGet_set hj]
    by_cases e : i = j
    · subst e; rw [hg] at hx; cases hx
    · rw [if_neg e]; exact hx
  | some b' =>
    rw [hg] at h
    change ifp _ _ False at h
    rw [ifp_F] at h
    obtain ⟨h1, h2⟩ := h
    obtain rfl := of_beq h1
    exact ⟨env, Ext.refl _, hg, h2⟩
theorem nmOf_at {env env' : Env} {j b : Nat} (h : envGet env j = some b) (x : Ext env env') : nmOf env' j = b := by
  unfold nmOf; rw [x.2 j b h]

/-! Shapes of values. -/
inductive Shp : Type → Type 1 where
  | int (q : IntKind) : Shp Int
  | bool : Shp Bool
  | str : Shp ByteArray
  | lst {α : Type} (E : Enc α) : Shp (List α)
  | own {α : Type} (E : Enc α) (j : Nat) : Shp (List α)
  | agg {α : Type} (E : Enc α) : Shp α
  /-- As agg; what is read may tell more. -/
  | aggW {α : Type} (E : Enc α) : Shp α
  | ptr (j : Nat) : Shp Unit
  | yld (j : Nat) : Shp Unit
  | sl (j e : Nat) : Shp Nat
  | slq (j e : Nat) : Shp (Nat × Nat)
  | fnp (f : Nat) (js : List Nat) : Shp Unit
  | con (v : AV) (h : AV.free v = true) : Shp Unit
  | nilS : Shp Unit
  | mapr (j : Nat) : Shp Unit
  | num (q : IntKind) (n : Nat) : Shp Unit

def ptrsAv (nm : Nat → Nat) : List Nat → List AV
  | [] => []
  | j :: l => .ptr (nm j) 0 :: ptrsAv nm l
def Shp.av {α : Type} (s : Shp α) (nm : Nat → Nat) (a : α) : AV :=
  match s, a with
  | .int q, n => .int q n
  | .bool, b => .bool b
  | .str, s => .str s
  | .lst E, l => Det.lst E l
  | .own E j, l => Det.own E l (nm j)
  | .agg E, a => .agg (E.f a)
  | .aggW E, a => .agg (E.f a)
  | .ptr j, _ => .ptr (nm j) 0
  | .yld j, _ => .yield (nm j)
  | .sl j e, n => .slice (nm j) 0 n n false e
  | .slq j e, n => .slice (nm j) 0 n.1 n.2 false e
  | .fnp f js, _ => .func f [] (ptrsAv nm js)
  | .con v _, _ => v
  | .nilS, _ => .nilSlice
  | .mapr j, _ => .map (nm j)
  | .num q n, _ => .int q (Int.ofNat n)
def ltAll (k : Nat) : List Nat → Bool
  | [] => true
  | j :: l => ifb (Nat.ble (Nat.succ j) k) (ltAll k l) false
def Shp.lt {α : Type} (s : Shp α) (k : Nat) : Bool :=
  match s with
  | .own _ j | .ptr j | .yld j | .sl j _ | .slq j _ | .mapr j => Nat.ble (Nat.succ j) k
  | .fnp _ js => ltAll k js
  | _ => true

theorem ptrs_ren (τ : Nat → Nat) : ∀ l, AV.rens τ (ptrsAv id l) = ptrsAv τ l
  | [] => rfl
  | j :: l => by simp only [ptrsAv, AV.rens, AV.ren, ptrs_ren τ l]; rfl
theorem ptrs_under {k : Nat} : ∀ {l : List Nat}, ltAll k l = true → AV.unders k (ptrsAv id l)
  | [], _ => trivial
  | j :: l, h => by
    simp only [ltAll, ifb_eq] at h
    split at h
    · rename_i c; exact ⟨of_ble c, ptrs_under h⟩
    · cases h
theorem Shp.ren {α : Type} (s : Shp α) (τ : Nat → Nat) (a : α) : (s.av id a).ren τ = s.av τ a := by
  cases s with
  | int | bool | str | ptr | yld | sl | slq | nilS | mapr | num => rfl
  | lst E => exact ren_free τ _ (lst_free E a)
  | own E j => exact own_ren E a j τ
  | agg E => simp only [Shp.av, AV.ren, rens_free τ _ (E.free a)]
  | aggW E => simp only [Shp.av, AV.ren, rens_free τ _ (E.free a)]
  | fnp f js => simp only [Shp.av, AV.ren, AV.rens, ptrs_ren]
  | con v h => exact ren_free τ v h
theorem Shp.under {α : Type} (s : Shp α) {k : Nat} (h : s.lt k = true) (a : α) : (s.av id a).under k := by
  cases s with
  | int | bool | str | nilS | num => trivial
  | lst E => exact under_free k _ (lst_free E a)
  | own E j => exact own_under E a (of_ble h)
  | agg E => exact unders_free k _ (E.free a)
  | aggW E => exact unders_free k _ (E.free a)
  | ptr j => exact of_ble h
  | yld j => exact of_ble h
  | sl j e => exact of_ble h
  | slq j e => exact of_ble h
  | fnp f js => exact ⟨trivial, ptrs_under h⟩
  | con v hf => exact under_free k v hf
  | mapr j => exact of_ble h

/-! Readers. -/
def rdPtrs : List Nat → List AV → Env → (Env → Prop) → Prop
  | [], [], env, k => k env
  | j :: js, v :: vs, env, k => onPtr v fun b => bindN env j b fun env => rdPtrs js vs env k
  | _, _, _, _ => False
def isNilL (l : List AV) (k : Prop) : Prop := match l with | [] => k | _ => False
def Shp.read {α : Type} (s : Shp α) (st : St) (v : AV) (env : Env) (k : α → Env → Prop) : Prop :=
  match s, k with
  | .int q, k => onInt q v fun n => k n env
  | .bool, k => onBool v fun n => k n env
  | .str, k => onStr v fun n => k n env
  | .lst E, k => onLst E v fun l => k l env
  | .own E j, k => onOwn E st v fun b l => bindN env j b (k l)
  | .agg E, k => ∃ a, v = .agg (E.f a) ∧ k a env
  | .aggW E, k => match v with | .agg cs => ∃ a, WkL cs (E.f a) ∧ k a env | _ => False
  | .ptr j, k => onPtr v fun b => bindN env j b (k ())
  | .yld j, k => match v with | .yield b => bindN env j b (k ()) | _ => False
  | .sl j e, k => match v with | .slice b o n c x e' => ifp (and (Nat.beq o 0) (Nat.beq e e')) (bindN env j b (k n)) False | _ => False
  | .slq j e, k => match v with | .slice b o n c x e' => ifp (and (Nat.beq o 0) (Nat.beq e e')) (bindN env j b (k (n, c))) False | _ => False
  | .fnp f js, k => match v with | .func g fi cap => ifp (Nat.beq g f) (isNilL fi (rdPtrs js cap env (k ()))) False | _ => False
  | .con u _, k => v = u ∧ k () env
  | .nilS, k => isNilS v (k () env)
  | .mapr j, k => match v with | .map b => bindN env j b (k ()) | _ => False
  | .num q n, k => match v with | .int q' m => ifp (eqKind q' q) (ifp (eqInt m (Int.ofNat n)) (k () env) False) False | _ => False
theorem rdPtrs_sound : ∀ {js : List Nat} {vs : List AV} {env : Env} {k : Env → Prop}, rdPtrs js vs env k → ∃ env', Ext env env' ∧ (∀ env2, Ext env' env2 → vs = ptrsAv (nmOf env2) js) ∧ k env'
  | [], [], env, k, h => ⟨env, Ext.refl _, fun _ _ => rfl, h⟩
  | j :: js, v :: vs, env, k, h => by
    obtain ⟨b, rfl, h⟩ := onPtr_inv (show onPtr v fun b => bindN env j b fun env => rdPtrs js vs env k from h)
    obtain ⟨e1, x1, g1, h⟩ := bindN_sound (show bindN env j b fun env => rdPtrs js vs env k from h)
    obtain ⟨e2, x2, q2, h⟩ := rdPtrs_sound h
    exact ⟨e2, x1.trans x2, fun env2 x => by rw [ptrsAv, nmOf_at g1 (x2.trans x), ← q2 env2 x], h⟩
  | [], _ :: _, _, _, h => h.elim
  | _ :: _, [], _, _, h => h.elim
theorem Shp.read_sound {α : Type} {s : Shp α} {st : St} {v : AV} {env : Env} {k : α → Env → Prop} (h : s.read st v env k) : ∃ a env', Ext env env' ∧ (∀ env2, Ext env' env2 → Wk v (s.av (nmOf env2) a)) ∧ k a env' := by
  cases s with
  | int q => obtain ⟨n, rfl, h9⟩ := onInt_inv (show onInt q v fun n => k n env from h); exact ⟨n, env, Ext.refl _, fun _ _ => Wk.refl _, h9⟩
  | bool => obtain ⟨n, rfl, h⟩ := onBool_inv (show onBool v fun n => k n env from h); exact ⟨n, env, Ext.refl _, fun _ _ => Wk.refl _, h⟩
  | str => obtain ⟨n, rfl, h⟩ := onStr_inv (show onStr v fun n => k n env from h); exact ⟨n, env, Ext.refl _, fun _ _ => Wk.refl _, h⟩
  | lst E => obtain ⟨l, w, h⟩ := h; exact ⟨l, env, Ext.refl _, fun _ _ => w, h⟩
  | own E j =>
    obtain ⟨b, l, w, _, h⟩ := onOwn_inv (show onOwn E st v fun b l => bindN env j b (k l) from h)
    obtain ⟨e1, x1, g1, h⟩ := bindN_sound h
    exact ⟨l, e1, x1, fun env2 x => by show Wk v (Det.own E l (nmOf env2 j)); rw [nmOf_at g1 x]; exact w, h⟩
  | agg E => obtain ⟨a, rfl, h⟩ := h; exact ⟨a, env, Ext.refl _, fun _ _ => Wk.refl _, h⟩
  | aggW E =>
    simp only [Shp.read] at h
    split at h
    · obtain ⟨a, w, h⟩ := h; exact ⟨a, env, Ext.refl _, fun _ _ => wk_agg w, h⟩
    · exact h.elim
  | ptr j =>
    obtain ⟨b, rfl, h⟩ := onPtr_inv (show onPtr v fun b => bindN env j b (k ()) from h)
    obtain ⟨e1, x1, g1, h⟩ := bindN_sound h
    exact ⟨(), e1, x1, fun env2 x => by show Wk _ (.ptr (nmOf env2 j) 0); rw [nmOf_at g1 x]; exact Wk.refl _, h⟩
  | yld j =>
    simp only [Shp.read] at h
    split at h
    · obtain ⟨e1, x1, g1, h⟩ := bindN_sound h
      exact ⟨(), e1, x1, fun env2 x => by show Wk _ (.yield (nmOf env2 j)); rw [nmOf_at g1 x]; exact Wk.refl _, h⟩
    · exact h.elim
  | sl j e =>
    simp only [Shp.read] at h
    split at h
    · rw [ifp_F, Bool.and_eq_true] at h
      obtain ⟨⟨h1, h2⟩, h⟩ := h
      obtain rfl := of_beq h1
      obtain rfl := of_beq h2
      obtain ⟨e1, x1, g1, h⟩ := bindN_sound h
      refine ⟨_, e1, x1, fun env2 x => ?_, h⟩
      show Wk _ (.slice (nmOf env2 j) 0 _ _ false e)
      rw [nmOf_at g1 x]
      intro ρ y hy
      cases hy with
      | slice q1 q2 q3 q4 q5 => exact .slice q1 (Nat.le_refl _) (Nat.le_trans q2 q3) (fun hh => by cases hh) q5
    · exact h.elim
  | slq j e =>
    simp only [Shp.read] at h
    split at h
    · rw [ifp_F, Bool.and_eq_true] at h
      obtain ⟨⟨h1, h2⟩, h⟩ := h
      obtain rfl := of_beq h1
      obtain rfl := of_beq h2
      obtain ⟨e1, x1, g1, h⟩ := bindN_sound h
      refine ⟨_, e1, x1, fun env2 x => ?_, h⟩
      show Wk _ (.slice (nmOf env2 j) 0 _ _ false e)
      rw [nmOf_at g1 x]
      intro ρ y hy
      cases hy with
      | slice q1 q2 q3 q4 q5 => exact .slice q1 q2 q3 (fun hh => by cases hh) q5
    · exact h.elim
  | fnp f js =>
    simp only [Shp.read] at h
    split at h
    · rename_i g fi cap
      rw [ifp_F] at h
      obtain ⟨h1, h⟩ := h
      obtain rfl := of_beq h1
      unfold isNilL at h
      split at h
      · obtain ⟨e1, x1, q, h⟩ := rdPtrs_sound h
        exact ⟨(), e1, x1, fun env2 x => by show Wk _ (.func g [] (ptrsAv (nmOf env2) js)); rw [← q env2 x]; exact Wk.refl _, h⟩
      · exact h.elim
    · exact h.elim
  | con u hu => obtain ⟨rfl, h⟩ := h; exact ⟨(), env, Ext.refl _, fun _ _ => Wk.refl _, h⟩
  | nilS => obtain ⟨rfl, h⟩ := isNilS_inv (show isNilS v (k () env) from h); exact ⟨(), env, Ext.refl _, fun _ _ => Wk.refl _, h⟩
  | mapr j =>
    simp only [Shp.read] at h
    split at h
    · obtain ⟨e1, x1, g1, h⟩ := bindN_sound h
      exact ⟨(), e1, x1, fun env2 x => by show Wk _ (.map (nmOf env2 j)); rw [nmOf_at g1 x]; exact Wk.refl _, h⟩
    · exact h.elim
  | num q n =>
    simp only [Shp.read] at h
    split at h
    · rw [ifp_F, ifp_F] at h
      obtain ⟨h1, h2, h⟩ := h
      obtain rfl := eqKind_iff.1 h1
      obtain rfl := eqInt_iff.1 h2
      exact ⟨(), env, Ext.refl _, fun _ _ => Wk.refl _, h⟩
    · exact h.elim

/-! Slots. -/
inductive Tel : Type → Type 1 where
  | nil : Tel Unit
  | cons {α β : Type} (i : Nat) (s : Shp α) (t : Tel β) : Tel (α × β)
def Tel.av {α : Type} (t : Tel α) (nm : Nat → Nat) (a : α) : List (Nat × AV) :=
  match t, a with
  | .nil, _ => []
  | .cons i s t, (a, b) => (i, s.av nm a) :: t.av nm b
def Tel.lt {α : Type} (t : Tel α) (k : Nat) : Bool :=
  match t with
  | .nil => true
  | .cons _ s t => ifb (s.lt k) (t.lt k) false
def Tel.read {α : Type} (t : Tel α) (st : St) (T : Tr AV) (env : Env) (k : α → Env → Prop) : Prop :=
  match t, k with
  | .nil, k => k () env
  | .cons i s t, k => obW (T.get i) fun v => s.read st v env fun a env => t.read st T env fun b env => k (a, b) env
/-- Cells of a row, one by one. -/
def Tel.readC {α : Type} (t : Tel α) (st : St) (cs : List AV) (env : Env) (k : α → Env → Prop) : Prop :=
  match t, k, cs with
  | .nil, k, [] => k () env
  | .cons _ s t, k, c :: cs => s.read st c env fun a env => t.readC st cs env fun b env => k (a, b) env
  | _, _, _ => False
def Tel.cells {α : Type} (t : Tel α) (nm : Nat → Nat) (a : α) : List AV :=
  match t, a with
  | .nil, _ => []
  | .cons _ s t, (a, b) => s.av nm a :: t.cells nm b
theorem Tel.read_sound {α : Type} {t : Tel α} {st : St} {T : Tr AV} : ∀ {env : Env} {k : α → Env → Prop}, t.read st T env k → ∃ a env', Ext env env' ∧ (∀ env2, Ext env' env2 → ∀ p ∈ t.av (nmOf env2) a, Got T p.1 p.2) ∧ k a env' := by
  induction t with
  | nil => intro env k h; exact ⟨(), env, Ext.refl _, fun _ _ p hp => by simp [Tel.av] at hp, h⟩
  | cons i s t ih =>
    intro env k h
    obtain ⟨v, hv, h⟩ := obW_iff.1 h
    obtain ⟨a, e1, x1, w, h⟩ := Shp.read_sound h
    obtain ⟨b, e2, x2, w2, h⟩ := ih h
    refine ⟨(a, b), e2, x1.trans x2, fun env2 x p hp => ?_, h⟩
    simp only [Tel.av, List.mem_cons] at hp
    rcases hp with rfl | hp
    · exact ⟨v, hv, w env2 (x2.trans x)⟩
    · exact w2 env2 x p hp
theorem Tel.readC_sound {α : Type} {t : Tel α} {st : St} : ∀ {cs : List AV} {env : Env} {k : α → Env → Prop}, t.readC st cs env k → ∃ a env', Ext env env' ∧ (∀ env2, Ext env' env2 → WkL cs (t.cells (nmOf env2) a)) ∧ k a env' := by
  induction t with
  | nil =>
    intro cs env k h
    cases cs with
    | nil => exact ⟨(), env, Ext.refl _, fun _ _ => trivial, h⟩
    | cons c cs => exact False.elim h
  | cons i s t ih =>
    intro cs env k h
    cases cs with
    | nil => exact False.elim h
    | cons c cs =>
      obtain ⟨a, e1, x1, w, h⟩ := Shp.read_sound (show s.read st c env _ from h)
      obtain ⟨b, e2, x2, w2, h⟩ := ih h
      exact ⟨(a, b), e2, x1.trans x2, fun env2 x => ⟨w env2 (x2.trans x), w2 env2 x⟩, h⟩
theorem Tel.ren {α : Type} (t : Tel α) (τ : Nat → Nat) : ∀ a : α, (t.av id a).map (fun p => (p.1, p.2.ren τ)) = t.av τ a := by
  induction t with
  | nil => intro a; rfl
  | cons i s t ih => intro ⟨a, b⟩; simp only [Tel.av, List.map_cons, Shp.ren, ih b]
theorem Tel.renC {α : Type} (t : Tel α) (τ : Nat → Nat) : ∀ a : α, AV.rens τ (t.cells id a) = t.cells τ a := by
  induction t with
  | nil => intro a; rfl
  | cons i s t ih => intro ⟨a, b⟩; simp only [Tel.cells, AV.rens, Shp.ren, ih b]
theorem Tel.under {α : Type} {t : Tel α} {k : Nat} : t.lt k = true → ∀ a : α, ∀ p ∈ t.av id a, p.2.under k := by
  induction t with
  | nil => intro _ a p hp; simp [Tel.av] at hp
  | cons i s t ih =>
    intro h ⟨a, b⟩ p hp
    simp only [Tel.lt, ifb_eq] at h
    split at h
    · rename_i c
      simp only [Tel.av, List.mem_cons] at hp
      rcases hp with rfl | hp
      · exact s.under c a
      · exact ih h b p hp
    · cases h
theorem Tel.underC {α : Type} {t : Tel α} {k : Nat} : t.lt k = true → ∀ a : α, AV.unders k (t.cells id a) := by
  induction t with
  | nil => intro _ a; trivial
  | cons i s t ih =>
    intro h ⟨a, b⟩
    simp only [Tel.lt, ifb_eq] at h
    split at h
    · rename_i c; exact ⟨s.under c a, ih h b⟩
    · cases h
theorem mkT_ren (τ : Nat → Nat) : ∀ (l : List (Nat × AV)) {i : Nat} {v : AV}, (mkT (l.map fun p => (p.1, p.2.ren τ))).get i = some v ↔ ∃ u, (mkT l).get i = some u ∧ u.ren τ = v
  | [], i, v => by simp [mkT, Tr.get]
  | p :: l, i, v => by
    simp only [List.map_cons, mkT, Tr.get_set]
    by_cases e : i = p.1
    · simp [e]
    · simp only [if_neg e]; exact mkT_ren τ l

/-! Blocks. -/
inductive Bk : Type → Type 1 where
  | spare : Bk Unit
  | row {α : Type} (t : Tel α) : Bk α
  | rows {α : Type} (E : Enc α) (ty : TypeId) : Bk (List α)
  | loop {α : Type} (fn : FuncId) (nt : Nat) (ps : List Tmp) (as body : Code) (s : LoopState) (p : Option Code) (t : Tel α) (d : Nat) : Bk α
  | dfr : Bk Unit
  /-- As rows; what is read may tell more. -/
  | rowsW {α : Type} (E : Enc α) (ty : TypeId) : Bk (List α)
  | mp {κ β : Type} (KE : KEnc κ) (VE : VEnc β) : Bk (Mp κ β)
def Bk.ob {α : Type} (b : Bk α) (nm : Nat → Nat) (a : α) : Ob :=
  match b, a with
  | .spare, _ => .spare
  | .row t, a => .row (t.cells nm a) 0
  | .rows E ty, l => .row (l.flatMap E.f) ty
  | .rowsW E ty, l => .row (l.flatMap E.f) ty
  | .loop fn nt ps as body s p t d, a => .loop { state := s, pending := p, fn, nt, tmps := mkT (t.av nm a), params := ps, assign := as, body, defers := nm d }
  | .dfr, _ => .deferred true
  | .mp KE VE, m => .map (m.enc KE VE) m.clock
def Bk.lt {α : Type} (b : Bk α) (k : Nat) : Bool :=
  match b with
  | .row t => t.lt k
  | .loop _ _ _ _ _ _ _ t d => ifb (Nat.ble (Nat.succ d) k) (t.lt k) false
  | _ => true
def sameSt : LoopState → LoopState → Bool
  | .ready, .ready | .busy, .busy | .done, .done | .exhausted, .exhausted => true
  | _, _ => false
theorem sameSt_eq {a b : LoopState} (h : sameSt a b = true) : a = b := by cases a <;> cases b <;> first | rfl | cases h
def pendEq (a b : Option Code) : Prop := match a, b with | none, none => True | some x, some y => x = y | _, _ => False
theorem pendEq_eq {a b : Option Code} (h : pendEq a b) : a = b := by cases a <;> cases b <;> first | rfl | exact h.elim | exact congrArg some h
def Bk.read {α : Type} (b : Bk α) (st : St) (x : Nat) (env : Env) (k : α → Env → Prop) : Prop :=
  match b, k with
  | .spare, k => obW (spareOf st x) fun _ => k () env
  | .row t, k => rowW st x fun cs _ => t.readC st cs env k
  | .rows E ty, k => rowW st x fun cs e => ifp (Nat.beq e ty) (∃ l, cs = l.flatMap E.f ∧ k l env) False
  | .rowsW E ty, k => rowW st x fun cs e => ifp (Nat.beq e ty) (∃ l, WkL cs (l.flatMap E.f) ∧ k l env) False
  | .loop fn nt ps as body s p t d, k => obW (loopOf st x) fun q => ifp (and (sameSt q.state s) (and (Nat.beq q.fn fn) (Nat.beq q.nt nt))) (pendEq q.pending p ∧ q.params = ps ∧ q.assign = as ∧ q.body = body ∧ bindN env d q.defers fun env => t.read st q.tmps env k) False
  | .dfr, k => obW (st.heap.get x) fun o => (match o with | .deferred true => k () env | _ => False)
  | .mp KE VE, k => obW (mapOf st x) fun q => Prod.rec (fun es c => ∃ m, es = m.enc KE VE ∧ c = m.clock ∧ k m env) q
theorem mp_ren {κ β : Type} {KE : KEnc κ} {VE : VEnc β} (m : Mp κ β) (σ : Nat → Nat) : ((Bk.mp KE VE).ob id m).ren σ = .map (m.enc KE VE) m.clock := by
  show Ob.map _ _ = Ob.map _ _
  congr 1
  show (m.es.map _).map _ = m.es.map _
  rw [List.map_map]
  apply List.map_congr_left
  intro e he
  show AEntry.mk _ _ _ = AEntry.mk _ _ _
  rw [ren_free _ _ (KE.free _), ren_free _ _ (VE.free _)]
theorem WkO.rowL {cs cs' : List AV} {e e' : TypeId} (h : WkL cs cs') : WkO (.row cs e) (.row cs' e') := by
  refine ⟨fun ρ L y hy => ?_, fun q => by cases q⟩
  obtain ⟨arr, e', lo, hi, q1, q2, q3, q4, q5⟩ := hy
  refine ⟨arr, e', lo, hi, q1, q2, by rw [← h.length]; exact q3, q4, fun i v hv => ?_⟩
  obtain ⟨c, hc, hcw⟩ := h.get hv
  obtain ⟨r1, v', r2, r3⟩ := q5 i c hc
  exact ⟨Wk.scalar (hcw _ _ r3) r3 r1, v', r2, hcw _ _ r3⟩
theorem Bk.read_sound {α : Type} {b : Bk α} {st : St} {x : Nat} {env : Env} {k : α → Env → Prop} (h : b.read st x env k) :
    ∃ a env', Ext env env' ∧ (∃ o', st.heap.get x = some o' ∧ ∀ env2, Ext env' env2 → WkO o' ((b.ob id a).ren (nmOf env2))) ∧ k a env' := by
  cases b with
  | spare =>
    obtain ⟨u, h1, h⟩ := obW_iff.1 h
    exact ⟨(), env, Ext.refl _, ⟨_, spareOf_get h1, fun _ _ => WkO.refl _⟩, h⟩
  | row t =>
    obtain ⟨cs, e, h1, h⟩ := rowW_iff.1 (show rowW st x (fun cs _ => t.readC st cs env k) from h)
    obtain ⟨a, e1, x1, w, h⟩ := Tel.readC_sound h
    refine ⟨a, e1, x1, ⟨_, rowOf_get h1, fun env2 x => ?_⟩, h⟩
    have hw := w env2 x
    have e2 : (Bk.ob (.row t) id a).ren (nmOf env2) = .row (t.cells (nmOf env2) a) 0 := by show Ob.row _ _ = _; rw [Tel.renC]
    rw [e2]
    refine ⟨fun ρ L y hy => ?_, fun q => by cases q⟩
    obtain ⟨arr, e', lo, hi, q1, q2, q3, q4, q5⟩ := hy
    refine ⟨arr, e', lo, hi, q1, q2, by rw [← hw.length]; exact q3, q4, fun i v hv => ?_⟩
    obtain ⟨c, hc, hcw⟩ := hw.get hv
    obtain ⟨r1, v', r2, r3⟩ := q5 i c hc
    refine ⟨?_, v', r2, hcw _ _ r3⟩
    exact Wk.scalar (hcw _ _ r3) r3 r1
  | rows E ty =>
    obtain ⟨cs, e, h1, h⟩ := rowW_iff.1 (show rowW st x (fun cs e => ifp (Nat.beq e ty) (∃ l, cs = l.flatMap E.f ∧ k l env) False) from h)
    rw [ifp_F] at h
    obtain ⟨he, l, rfl, h9⟩ := h
    obtain rfl := of_beq he
    refine ⟨l, env, Ext.refl _, ⟨_, rowOf_get h1, fun env2 x => ?_⟩, h9⟩
    have e2 : (Bk.ob (.rows E e) id l).ren (nmOf env2) = .row (l.flatMap E.f) e := by show Ob.row _ _ = _; rw [rens_free _ _ (E.ffree l)]
    rw [e2]; exact WkO.refl _
  | rowsW E ty =>
    obtain ⟨cs, e, h1, h⟩ := rowW_iff.1 (show rowW st x (fun cs e => ifp (Nat.beq e ty) (∃ l, WkL cs (l.flatMap E.f) ∧ k l env) False) from h)
    rw [ifp_F] at h
    obtain ⟨he, l, hw, h9⟩ := h
    obtain rfl := of_beq he
    refine ⟨l, env, Ext.refl _, ⟨_, rowOf_get h1, fun env2 x => ?_⟩, h9⟩
    have e2 : (Bk.ob (.rowsW E e) id l).ren (nmOf env2) = .row (l.flatMap E.f) e := by show Ob.row _ _ = _; rw [rens_free _ _ (E.ffree l)]
    rw [e2]; exact WkO.rowL hw
  | loop fn nt ps as body s p t d =>
    obtain ⟨q, h1, h⟩ := obW_iff.1 h
    rw [ifp_F, Bool.and_eq_true, Bool.and_eq_true] at h
    obtain ⟨⟨h2, h3, h4⟩, h5, h6, h7, h8, h⟩ := h
    obtain ⟨e1, x1, g1, h⟩ := bindN_sound h
    obtain ⟨a, e2, x2, w, h⟩ := Tel.read_sound h
    refine ⟨a, e2, x1.trans x2, ⟨_, loopOf_some.1 h1, fun env2 x => ?_⟩, h⟩
    refine ⟨fun ρ L y hy => ?_, fun q => by cases q⟩
    obtain ⟨tm, dl, q1, q2, q3⟩ := hy
    refine ⟨tm, dl, ?_, ⟨?_, fun i v hv => ?_⟩, ?_⟩
    · rw [q1, ← sameSt_eq h2, ← of_beq h3, ← pendEq_eq h5, ← h6, ← h7, ← h8]
    · show nt ≤ _; rw [← of_beq h4]; exact q2.1
    · have hv' : ((mkT (t.av id a)).map (AV.ren (nmOf env2))).get i = some v := hv
      rw [Tr.get_map, Option.map_eq_some_iff] at hv'
      obtain ⟨u, hu, rfl⟩ := hv'
      have hm := mkT_get hu
      have : (i, u.ren (nmOf env2)) ∈ t.av (nmOf env2) a := by
        rw [← Tel.ren]; exact List.mem_map.2 ⟨(i, u), hm, rfl⟩
      obtain ⟨v0, g0, w0⟩ := w env2 x _ this
      obtain ⟨v', r1, r2⟩ := q2.2 i v0 g0
      exact ⟨v', r1, w0 _ _ r2⟩
    · show ρ (nmOf env2 d) = some dl
      rw [nmOf_at g1 (x2.trans x)]; exact q3
  | dfr =>
    obtain ⟨o, h1, h⟩ := obW_iff.1 h
    split at h
    · exact ⟨(), env, Ext.refl _, ⟨_, h1, fun _ _ => WkO.refl _⟩, h⟩
    · exact h.elim
  | mp KE VE =>
    obtain ⟨⟨es, c⟩, h1, m, rfl, rfl, h⟩ := obW_iff.1 h
    refine ⟨m, env, Ext.refl _, ⟨_, mapOf_some.1 h1, fun env2 x => ?_⟩, h⟩
    rw [mp_ren]; exact WkO.refl _
end Go.Det
