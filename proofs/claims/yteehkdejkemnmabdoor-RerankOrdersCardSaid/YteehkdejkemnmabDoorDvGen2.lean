/- Contracts of loops made of shapes; that they hold. -/
import Derived.Test.YteehkdejkemnmabDoorDvGen
set_option linter.unusedVariables false
set_option linter.unusedSimpArgs false
noncomputable section
namespace Go.Det
variable {P : Program}

/-! Many blocks. -/
inductive BTel : Type → Type 1 where
  | nil : BTel Unit
  | cons {α β : Type} (b : Bk α) (t : BTel β) : BTel (α × β)
def BTel.len {α : Type} (t : BTel α) : Nat :=
  match t with
  | .nil => 0
  | .cons _ t => Nat.succ t.len
def BTel.obs {α : Type} (t : BTel α) (nm : Nat → Nat) (a : α) : List Ob :=
  match t, a with
  | .nil, _ => []
  | .cons b t, (x, y) => b.ob nm x :: t.obs nm y
def BTel.lt {α : Type} (t : BTel α) (k : Nat) : Bool :=
  match t with
  | .nil => true
  | .cons b t => ifb (b.lt k) (t.lt k) false
def BTel.read {α : Type} (t : BTel α) (st : St) (j : Nat) (env : Env) (k : α → Env → Prop) : Prop :=
  match t, k with
  | .nil, k => k () env
  | .cons b t, k => obW (envGet env j) fun x => b.read st x env fun a env => t.read st (Nat.succ j) env fun y env => k (a, y) env
theorem BTel.obs_len {α : Type} (t : BTel α) (nm : Nat → Nat) : ∀ a : α, (t.obs nm a).length = t.len := by
  induction t with
  | nil => intro a; rfl
  | cons b t ih => intro ⟨x, y⟩; simp only [BTel.obs, List.length_cons, ih y, BTel.len, Nat.succ_eq_add_one]
theorem Bk.under {α : Type} {b : Bk α} {k : Nat} (h : b.lt k = true) (a : α) : (b.ob id a).under k := by
  cases b with
  | spare => trivial
  | row t => exact Tel.underC h a
  | rows E ty => exact unders_free k _ (E.ffree a)
  | rowsW E ty => exact unders_free k _ (E.ffree a)
  | loop fn nt ps as body s p t d =>
    simp only [Bk.lt, ifb_eq] at h
    split at h
    · rename_i c
      exact ⟨of_ble c, fun i v hv => Tel.under h a _ (mkT_get hv)⟩
    · cases h
  | dfr => trivial
  | mp KE VE =>
    intro e he
    obtain ⟨e', h1, rfl⟩ := List.mem_map.1 he
    exact ⟨under_free k _ (KE.free _), under_free k _ (VE.free _)⟩
theorem BTel.under {α : Type} {t : BTel α} {k : Nat} : t.lt k = true → ∀ (a : α), ∀ o ∈ t.obs id a, o.under k := by
  induction t with
  | nil => intro _ a o ho; simp [BTel.obs] at ho
  | cons b t ih =>
    intro h ⟨x, y⟩ o ho
    simp only [BTel.lt, ifb_eq] at h
    split at h
    · rename_i c
      simp only [BTel.obs, List.mem_cons] at ho
      rcases ho with rfl | ho
      · exact b.under c x
      · exact ih h y o ho
    · cases h
theorem BTel.read_sound {α : Type} {t : BTel α} {st : St} : ∀ {j : Nat} {env : Env} {k : α → Env → Prop}, t.read st j env k → ∃ a env', Ext env env' ∧
    (∀ env2, Ext env' env2 → ∀ (i : Nat) (o : Ob), (t.obs id a)[i]? = some o → ∃ o', st.heap.get (nmOf env2 (j + i)) = some o' ∧ WkO o' (o.ren (nmOf env2))) ∧ k a env' := by
  induction t with
  | nil => intro j env k h; exact ⟨(), env, Ext.refl _, fun _ _ i o ho => by simp [BTel.obs] at ho, h⟩
  | cons b t ih =>
    intro j env k h
    obtain ⟨x, hx, h⟩ := obW_iff.1 (show obW (envGet env j) (fun x => b.read st x env fun a env => t.read st (Nat.succ j) env fun y env => k (a, y) env) from h)
    obtain ⟨a, e1, x1, ⟨o1, g1, w1⟩, h⟩ := Bk.read_sound h
    obtain ⟨y, e2, x2, w2, h⟩ := ih h
    refine ⟨(a, y), e2, x1.trans x2, fun env2 x i o ho => ?_, h⟩
    cases i with
    | zero =>
      simp only [BTel.obs, List.getElem?_cons_zero, Option.some.injEq] at ho
      subst ho
      rw [Nat.add_zero, nmOf_at hx (x1.trans (x2.trans x))]
      exact ⟨o1, g1, w1 env2 (x2.trans x)⟩
    | succ i =>
      simp only [BTel.obs, List.getElem?_cons_succ] at ho
      have := w2 env2 x i o ho
      rwa [show Nat.succ j + i = j + (i + 1) by omega] at this
theorem WkO.row {cs cs' : List AV} {e e' : TypeId} (h : WkL cs cs') : WkO (.row cs e) (.row cs' e') := by
  refine ⟨fun ρ L y hy => ?_, fun q => by cases q⟩
  obtain ⟨arr, e', lo, hi, q1, q2, q3, q4, q5⟩ := hy
  refine ⟨arr, e', lo, hi, q1, q2, by rw [← h.length]; exact q3, q4, fun i v hv => ?_⟩
  obtain ⟨c, hc, hcw⟩ := h.get hv
  obtain ⟨r1, v', r2, r3⟩ := q5 i c hc
  exact ⟨Wk.scalar (hcw _ _ r3) r3 r1, v', r2, hcw _ _ r3⟩
theorem Bk.ren {α : Type} (b : Bk α) (σ : Nat → Nat) (a : α) : WkO ((b.ob id a).ren σ) (b.ob σ a) := by
  cases b with
  | spare => exact WkO.refl _
  | row t => show WkO (.row (AV.rens σ (t.cells id a)) 0) (.row (t.cells σ a) 0); rw [Tel.renC]; exact WkO.refl _
  | rows E ty => show WkO (.row (AV.rens σ (a.flatMap E.f)) ty) _; rw [rens_free _ _ (E.ffree a)]; exact WkO.refl _
  | rowsW E ty => show WkO (.row (AV.rens σ (a.flatMap E.f)) ty) _; rw [rens_free _ _ (E.ffree a)]; exact WkO.refl _
  | loop fn nt ps as body s p t d =>
    refine ⟨fun ρ L y hy => ?_, fun q => by cases q⟩
    obtain ⟨tm, dl, q1, q2, q3⟩ := hy
    refine ⟨tm, dl, q1, ⟨q2.1, fun i v hv => ?_⟩, q3⟩
    have hv' : (mkT (t.av σ a)).get i = some v := hv
    rw [← Tel.ren, mkT_ren] at hv'
    obtain ⟨u, hu, rfl⟩ := hv'
    exact q2.2 i _ (by show ((mkT (t.av id a)).map (AV.ren σ)).get i = _; rw [Tr.get_map, hu]; rfl)
  | dfr => exact WkO.refl _
  | mp KE VE => rw [mp_ren]; exact WkO.refl _
theorem BTel.ren {α : Type} (t : BTel α) (σ : Nat → Nat) : ∀ (a : α) (i : Nat) (o o' : Ob), (t.obs id a)[i]? = some o → (t.obs σ a)[i]? = some o' → WkO (o.ren σ) o' := by
  induction t with
  | nil => intro a i o o' h; simp [BTel.obs] at h
  | cons b t ih =>
    intro ⟨x, y⟩ i o o' h h'
    cases i with
    | zero =>
      simp only [BTel.obs, List.getElem?_cons_zero, Option.some.injEq] at h h'
      subst h; subst h'
      exact b.ren σ x
    | succ i =>
      simp only [BTel.obs, List.getElem?_cons_succ] at h h'
      exact ih y i o o' h h'

/-! All names. -/
def allSome : Env → Option (List Nat)
  | [] => some []
  | none :: _ => none
  | some b :: l => Option.rec none (fun bs => some (b :: bs)) (allSome l)
theorem allSome_get : ∀ {env : Env} {bs : List Nat}, allSome env = some bs → bs.length = env.length ∧ ∀ j, nmOf env j = tauL bs j
  | [], bs, h => by injection h with h; subst h; exact ⟨rfl, fun j => rfl⟩
  | none :: l, bs, h => by cases h
  | some b :: l, bs, h => by
    change Option.rec none (fun bs => some (b :: bs)) (allSome l) = some bs at h
    cases hl : allSome l with
    | none => rw [hl] at h; cases h
    | some bs' =>
      rw [hl] at h
      injection h with h; subst h
      obtain ⟨h1, h2⟩ := allSome_get hl
      refine ⟨by simp [h1], fun j => ?_⟩
      cases j with
      | zero => rfl
      | succ j => have := h2 j; simpa [nmOf, envGet, tauL] using this
def envNew : Nat → Env
  | 0 => []
  | n + 1 => none :: envNew n
/-- The first N names are their own. -/
def envOld : Nat → Nat → Nat → Env
  | _, _, 0 => []
  | i, N, n + 1 => ifb (Nat.ble (Nat.succ i) N) (some i) none :: envOld (Nat.succ i) N n
theorem envNew_len : ∀ n, (envNew n).length = n
  | 0 => rfl
  | n + 1 => by simp [envNew, envNew_len n]
theorem envOld_len : ∀ i N n, (envOld i N n).length = n
  | _, _, 0 => rfl
  | i, N, n + 1 => by simp [envOld, envOld_len (Nat.succ i) N n]
theorem envOld_get : ∀ (n i N j : Nat), j < n → i + j < N → envGet (envOld i N n) j = some (i + j)
  | n + 1, i, N, 0, _, h => by simp only [envOld, envGet]; rw [show Nat.ble (Nat.succ i) N = true from ble_t (by omega)]; rfl
  | n + 1, i, N, j + 1, hj, h => by
    simp only [envOld, envGet]
    rw [envOld_get n (Nat.succ i) N j (by omega) (by omega)]
    congr 1; omega

/-! All that is read of a state. -/
def readAll {α β : Type} (t : Tel α) (b : BTel β) (env : Env) (T : Tr AV) (st : St) (k : List Nat → α → β → Prop) : Prop :=
  t.read st T env fun x env => b.read st 0 env fun y env => obW (allSome env) fun bs => distinct bs ∧ k bs x y
/-- What is known where a state has been read: names bs. -/
structure Seen {α β : Type} (t : Tel α) (b : BTel β) (T : Tr AV) (st : St) (bs : List Nat) (x : α) (y : β) : Prop where
  nd : bs.Nodup
  tmp : ∀ p ∈ t.av id x, Got T p.1 (p.2.ren (tauL bs))
  ob : ∀ (i : Nat) (o : Ob), (b.obs id y)[i]? = some o → ∃ o', st.heap.get (tauL bs i) = some o' ∧ WkO o' (o.ren (tauL bs))
theorem readAll_sound {α β : Type} {t : Tel α} {b : BTel β} {env : Env} {T : Tr AV} {st : St} {k : List Nat → α → β → Prop} (h : readAll t b env T st k) :
    ∃ bs x y, Seen t b T st bs x y ∧ bs.length = env.length ∧ (∀ j c, envGet env j = some c → tauL bs j = c) ∧ k bs x y := by
  obtain ⟨x, e1, x1, w1, h⟩ := Tel.read_sound (show t.read st T env _ from h)
  obtain ⟨y, e2, x2, w2, h⟩ := BTel.read_sound h
  obtain ⟨bs, hb, hd, h⟩ := obW_iff.1 h
  obtain ⟨hl, hn⟩ := allSome_get hb
  have hfun : nmOf e2 = tauL bs := funext hn
  refine ⟨bs, x, y, ⟨hd.nodup, fun p hp => ?_, fun i o ho => ?_⟩, hl.trans (x1.trans x2).1, fun j c hc => ?_, h⟩
  · have := w1 e2 x2 (p.1, p.2.ren (tauL bs)) (by rw [← Tel.ren, hfun]; exact List.mem_map.2 ⟨p, hp, rfl⟩)
    exact this
  · have := w2 e2 (Ext.refl _) i o ho
    rw [Nat.zero_add, hfun] at this; exact this
  · rw [← hn j]; exact nmOf_at hc (x1.trans x2)

/-! Loops. -/
structure Alt (Z : Type) where
  ex : Ex
  γ : Type
  δ : Type
  outs : Tel γ
  obs : BTel δ
  R : Z → γ → δ → Prop
def exEq : Ex → Ex → Bool
  | .normal, .normal => true
  | .exit a, .exit b => Nat.beq a b
  | .ret, .ret => true
  | _, _ => false
theorem exEq_eq {a b : Ex} (h : exEq a b = true) : a = b := by
  cases a <;> cases b <;> first | rfl | cases h | (rw [of_beq h])
def hasEx {Z : Type} (e : Ex) : List (Alt Z) → Bool
  | [] => false
  | a :: l => ifb (exEq e a.ex) true (hasEx e l)
def altsAt {Z : Type} (N : Nat) (z : Z) (e : Ex) (T : Tr AV) (D : List ADef) (st : St) : List (Alt Z) → Prop
  | [] => False
  | a :: l => ifp (exEq e a.ex) (ifp (hasEx e l)
      ((noD D ∧ readAll a.outs a.obs (envOld 0 N a.obs.len) T st fun _ c d => a.R z c d) ∨ altsAt N z e T D st l)
      (noD D ∧ readAll a.outs a.obs (envOld 0 N a.obs.len) T st fun _ c d => a.R z c d)) (altsAt N z e T D st l)
/-- One of the forms that a loop's state takes; which state it tells. -/
structure LForm (Z : Type) where
  α : Type
  β : Type
  t : Tel α
  b : BTel β
  z : α → β → Z
def readAny {Z : Type} (N : Nat) (T : Tr AV) (st : St) (k : Z → Prop) : List (LForm Z) → Prop
  | [] => False
  | [s] => readAll s.t s.b (envOld 0 N s.b.len) T st fun _ x y => k (s.z x y)
  | s :: l => readAll s.t s.b (envOld 0 N s.b.len) T st (fun _ x y => k (s.z x y)) ∨ readAny N T st k l
/-- What is asked behind a round. -/
def postL {Z : Type} (N : Nat) (fs : List (LForm Z)) (alts : List (Alt Z)) (z : Z) (k : Z → Prop) (o : Out) : Prop :=
  Out.rec (fun e T D st => Ex.rec (noD D ∧ readAny N T st k fs) (fun id => altsAt N z (.exit id) T D st alts) (altsAt N z .ret T D st alts) e) o
def nmX (N : Nat) (bs : List Nat) (next j : Nat) : Nat := shift (tauL bs) N next j
def altsQ {Z : Type} (N : Nat) (bs : List Nat) (st : St) (Q : Out → Prop) (z : Z) : List (Alt Z) → Prop
  | [] => True
  | a :: l => (∀ c d, a.R z c d → Q ⟨a.ex, mkT (a.outs.av (nmX N bs st.next) c), [], newL (putL (delL st (bs.drop N)) (bs.take N) ((a.obs.obs (nmX N bs st.next) d).take N)) ((a.obs.obs (nmX N bs st.next) d).drop N)⟩) ∧ altsQ N bs st Q z l
def readNew {Z : Type} (T : Tr AV) (st : St) (k : List Nat → Z → Prop) : List (LForm Z) → Prop
  | [] => False
  | [s] => readAll s.t s.b (envNew s.b.len) T st fun bs x y => k bs (s.z x y)
  | s :: l => readAll s.t s.b (envNew s.b.len) T st (fun bs x y => k bs (s.z x y)) ∨ readNew T st k l
/-- The contract of a loop. -/
def loopC {Z : Type} (N : Nat) (fs : List (LForm Z)) (alts : List (Alt Z)) (Inv : Z → Prop) : LoopC := fun ro nt T D st Q =>
  noneO ro ∧ noD D ∧ readNew T st (fun bs z => Inv z ∧ altsQ N bs st Q z alts) fs
def altsMono {Z : Type} (z' z : Z) : List (Alt Z) → Prop
  | [] => True
  | a :: l => (∀ c d, a.R z' c d → a.R z c d) ∧ altsMono z' z l
def altsLt {Z : Type} (N : Nat) : List (Alt Z) → Bool
  | [] => true
  | a :: l => ifb (and (Nat.ble N a.obs.len) (and (a.outs.lt a.obs.len) (a.obs.lt a.obs.len))) (altsLt N l) false
def altsR {Z : Type} (z : Z) (e : Ex) (out : List (Nat × AV)) (h : List Ob) : List (Alt Z) → Prop
  | [] => False
  | a :: l => (e = a.ex ∧ ∃ c d, a.R z c d ∧ out = a.outs.av id c ∧ h = a.obs.obs id d) ∨ altsR z e out h l
theorem altsR_mono {Z : Type} {z z' : Z} {e : Ex} {out : List (Nat × AV)} {h : List Ob} : ∀ {alts : List (Alt Z)}, altsMono z' z alts → altsR z' e out h alts → altsR z e out h alts
  | [], _, hr => hr
  | a :: l, ⟨m, ml⟩, .inl ⟨h1, c, d, h2, h3⟩ => .inl ⟨h1, c, d, m c d h2, h3⟩
  | a :: l, ⟨m, ml⟩, .inr hr => .inr (altsR_mono ml hr)
theorem range_tau {bs : List Nat} {N : Nat} (hN : N ≤ bs.length) (h : ∀ j, j < N → tauL bs j = j) : bs = List.range N ++ bs.drop N := by
  apply List.ext_getElem?
  intro i
  rcases Nat.lt_or_ge i N with q | q
  · rw [List.getElem?_append_left (by simpa using q)]
    have hi : i < bs.length := by omega
    have := h i q
    rw [tauL_at (List.getElem?_eq_getElem hi)] at this
    rw [List.getElem?_eq_getElem hi, this]; simp [q]
  · rw [List.getElem?_append_right (by simpa using q)]; simp; congr 1; omega
theorem Seen.at {α β : Type} {t : Tel α} {b : BTel β} {T : Tr AV} {st : St} {bs : List Nat} {x : α} {y : β} (h : Seen t b T st bs x y) {N : Nat} (hl : bs.length = b.len) (hN : N ≤ b.len) (ht : t.lt b.len = true) (hb : b.lt b.len = true) (ho : ∀ j, j < N → tauL bs j = j) :
    At N (bs.drop N) (t.av id x) (b.obs id y) T st := by
  have e := range_tau (by omega) ho
  refine ⟨by rw [b.obs_len, List.length_drop]; omega, by rw [← e]; exact h.nd, fun p hp => ?_, fun i c o h1 h2 => ?_⟩
  · rw [← e, b.obs_len]; exact ⟨h.tmp p hp, Tel.under ht x p hp⟩
  · rw [← e] at h1 ⊢
    rw [b.obs_len]
    obtain ⟨o', g, w⟩ := h.ob i o h2
    rw [tauL_at h1] at g
    exact ⟨⟨o', g, w⟩, BTel.under hb y o (List.mem_of_getElem? h2)⟩

theorem altsAt_sound {Z : Type} {N : Nat} {z : Z} {e : Ex} {T : Tr AV} {D : List ADef} {st : St} : ∀ {alts : List (Alt Z)}, altsLt N alts = true → altsAt N z e T D st alts →
    D = [] ∧ ∃ out h ds, At N ds out h T st ∧ altsR z e out h alts
  | [], _, h => h.elim
  | a :: l, hlt, h => by
    simp only [altsLt, ifb_eq] at hlt
    split at hlt
    · rename_i hc
      simp only [Bool.and_eq_true] at hc
      obtain ⟨h1, h2, h3⟩ := hc
      have h' : (exEq e a.ex = true ∧ noD D ∧ readAll a.outs a.obs (envOld 0 N a.obs.len) T st fun _ c d => a.R z c d) ∨ altsAt N z e T D st l := by
        rcases ifp_iff.1 h with ⟨he, h⟩ | ⟨_, h⟩
        · rcases ifp_iff.1 h with ⟨_, h | h⟩ | ⟨_, h⟩
          · exact .inl ⟨he, h⟩
          · exact .inr h
          · exact .inl ⟨he, h⟩
        · exact .inr h
      rcases h' with ⟨he, hD, h⟩ | h
      · obtain ⟨bs, c, d, hs, hl, ho, hR⟩ := readAll_sound h
        rw [envOld_len] at hl
        have hN : N ≤ a.obs.len := of_ble h1
        refine ⟨noD_eq hD, _, _, bs.drop N, hs.at hl hN h2 h3 (fun j hj => ?_), .inl ⟨exEq_eq he, c, d, hR, rfl, rfl⟩⟩
        exact ho j j (by have := envOld_get a.obs.len 0 N j (by omega) (by omega); rwa [Nat.zero_add] at this)
      · obtain ⟨q1, out, hh, ds, q2, q3⟩ := altsAt_sound hlt h
        exact ⟨q1, out, hh, ds, q2, .inr q3⟩
    · cases hlt
theorem altsR_len {Z : Type} {N : Nat} {z : Z} {e : Ex} {out : List (Nat × AV)} {h : List Ob} : ∀ {alts : List (Alt Z)}, altsLt N alts = true → altsR z e out h alts → N ≤ h.length
  | [], _, hr => hr.elim
  | a :: l, hlt, hr => by
    simp only [altsLt, ifb_eq] at hlt
    split at hlt
    · rename_i hc
      simp only [Bool.and_eq_true] at hc
      rcases hr with ⟨_, c, d, _, _, rfl⟩ | hr
      · rw [BTel.obs_len]; exact of_ble hc.1
      · exact altsR_len hlt hr
    · cases hlt
theorem altsQ_at {Z : Type} {N : Nat} {bs : List Nat} {st : St} {Q : Out → Prop} {z : Z} {e : Ex} {out : List (Nat × AV)} {h : List Ob} : ∀ {alts : List (Alt Z)}, altsQ N bs st Q z alts → altsR z e out h alts →
    ∃ (T' : Tr AV) (obs' : List Ob), Q ⟨e, T', [], newL (putL (delL st (bs.drop N)) (bs.take N) (obs'.take N)) (obs'.drop N)⟩ ∧ obs'.length = h.length ∧ (∀ (i : Nat) (o o' : Ob), h[i]? = some o → obs'[i]? = some o' → WkO (o.ren (nmX N bs st.next)) o') ∧
      (∀ i v, T'.get i = some v → ∃ u, (mkT out).get i = some u ∧ Wk (u.ren (nmX N bs st.next)) v)
  | [], _, hr => hr.elim
  | a :: l, ⟨hq, hl⟩, .inl ⟨he, c, d, hR, ho, hh⟩ => by
    subst he; subst ho; subst hh
    refine ⟨_, _, hq c d hR, by rw [BTel.obs_len, BTel.obs_len], a.obs.ren _ d, fun i v hv => ?_⟩
    rw [← Tel.ren, mkT_ren] at hv
    obtain ⟨u, h1, rfl⟩ := hv
    exact ⟨u, h1, Wk.refl _⟩
  | a :: l, ⟨hq, hl⟩, .inr hr => altsQ_at hl hr

theorem ifb_none_iff {b x : Bool} : ifb b x false = true ↔ b = true ∧ x = true := by cases b <;> simp
theorem readAny_sound {Z : Type} {N : Nat} {T : Tr AV} {st : St} {k : Z → Prop} : ∀ {fs : List (LForm Z)}, readAny N T st k fs → ∃ s ∈ fs, readAll s.t s.b (envOld 0 N s.b.len) T st fun _ x y => k (s.z x y)
  | [], h => h.elim
  | [s], h => ⟨s, by simp, h⟩
  | s :: s2 :: l, h => by
    rcases (show readAll s.t s.b (envOld 0 N s.b.len) T st (fun _ x y => k (s.z x y)) ∨ readAny N T st k (s2 :: l) from h) with h | h
    · exact ⟨s, by simp, h⟩
    · obtain ⟨s', h1, h2⟩ := readAny_sound h
      exact ⟨s', List.mem_cons_of_mem _ h1, h2⟩
theorem readNew_sound {Z : Type} {T : Tr AV} {st : St} {k : List Nat → Z → Prop} : ∀ {fs : List (LForm Z)}, readNew T st k fs → ∃ s ∈ fs, readAll s.t s.b (envNew s.b.len) T st fun bs x y => k bs (s.z x y)
  | [], h => h.elim
  | [s], h => ⟨s, by simp, h⟩
  | s :: s2 :: l, h => by
    rcases (show readAll s.t s.b (envNew s.b.len) T st (fun bs x y => k bs (s.z x y)) ∨ readNew T st k (s2 :: l) from h) with h | h
    · exact ⟨s, by simp, h⟩
    · obtain ⟨s', h1, h2⟩ := readNew_sound h
      exact ⟨s', List.mem_cons_of_mem _ h1, h2⟩
def formsLt {Z : Type} (N : Nat) : List (LForm Z) → Bool
  | [] => true
  | s :: l => ifb (and (Nat.ble N s.b.len) (and (s.t.lt s.b.len) (s.b.lt s.b.len))) (formsLt N l) false
theorem formsLt_mem {Z : Type} {N : Nat} : ∀ {fs : List (LForm Z)}, formsLt N fs = true → ∀ s ∈ fs, N ≤ s.b.len ∧ s.t.lt s.b.len = true ∧ s.b.lt s.b.len = true
  | [], _, s, hs => by simp at hs
  | a :: l, h, s, hs => by
    rw [formsLt, ifb_none_iff] at h
    obtain ⟨hc, h⟩ := h
    simp only [Bool.and_eq_true] at hc
    rcases List.mem_cons.1 hs with rfl | hs
    · exact ⟨of_ble hc.1, hc.2.1, hc.2.2⟩
    · exact formsLt_mem h s hs
/-- The contract of a loop over tables. -/
def loopCg (gl : Tr (List AV)) {Z : Type} (N : Nat) (fs : List (LForm Z)) (alts : List (Alt Z)) (Inv : Z → Prop) : LoopC := fun ro nt T D st Q => st.gl = gl ∧ loopC N fs alts Inv ro nt T D st Q
/-- What each form asks of the prover. -/
def stepsOk (P : Program) (K : Known) (n : Nat) (fn : FuncId) (nt : Nat) (y : Code) (N : Nat) (vm : Bool) {Z : Type} (fs : List (LForm Z)) (alts : List (Alt Z)) (Inv : Z → Prop) (μ : Z → Nat) (s : LForm Z) (gl : Tr (List AV) := .leaf) (rw' : TypeId → Bool := fun _ => false) : Prop :=
  ∀ a b, Inv (s.z a b) → (runW P K n).code none fn nt y (mkT (s.t.av id a)) [] (stL vm (s.b.obs id b) gl rw') (postL N fs alts (s.z a b) fun z' => Inv z' ∧ μ z' < μ (s.z a b) ∧ altsMono z' (s.z a b) alts)
/-- A loop's contract holds if each round does what is asked. -/
theorem loop_ok_of {Z : Type} {K : Known} {n : Nat} {fn : FuncId} {nt : Nat} {y : Code} {N : Nat} {vm : Bool} {fs : List (LForm Z)} {alts : List (Alt Z)} {Inv : Z → Prop} (μ : Z → Nat) {gl : Tr (List AV)} {rw' : TypeId → Bool}
    (hgf : ∀ g l, gl.get g = some l → AV.frees l = true)
    (hm : P.follows .mixedOrders = true) (hK : KnownOk P K) (hlt : ifb (formsLt N fs) (altsLt N alts) false = true)
    (step : ∀ s ∈ fs, stepsOk P K n fn nt y N vm fs alts Inv μ s gl rw')
    (ro : Option Nat) (T : Tr AV) (D : List ADef) (st : St) (Q : Out → Prop) (hgs : ∀ g l, gl.get g = some l → st.gl.get g = some l) (h : loopC N fs alts Inv ro nt T D st Q) : ∃ o, CodeS P ro fn nt (.loop y) T D st o ∧ Q o := by
  rw [ifb_none_iff] at hlt
  obtain ⟨hfs, hlt⟩ := hlt
  obtain ⟨hro, hD, h⟩ := h
  obtain rfl := noneO_eq hro
  obtain rfl := noD_eq hD
  obtain ⟨s0, hs0, h⟩ := readNew_sound h
  obtain ⟨hN, ht, hb⟩ := formsLt_mem hfs s0 hs0
  obtain ⟨bs, x, y0, hs, hl, _, hI, hQ⟩ := readAll_sound h
  rw [envNew_len] at hl
  have htd : bs.take N ++ bs.drop N = bs := List.take_append_drop _ _
  let ZZ := Σ s : { s : LForm Z // s ∈ fs }, s.1.α × s.1.β
  let ev : ZZ → Z := fun q => q.1.1.z q.2.1 q.2.2
  obtain ⟨e, out, hh, hlen, hR, fin⟩ := heap_loop (P := P) (N := N) (k := fun q : ZZ => q.1.1.b.len) (vm := vm) (fn := fn) (nt := nt) (y := y) hgf (fun q : ZZ => q.1.1.t.av id q.2.1) (fun q : ZZ => q.1.1.b.obs id q.2.2) (fun q : ZZ => μ (ev q)) (fun q : ZZ => Inv (ev q)) (fun (q : ZZ) e out h => altsR (ev q) e out h alts)
    (fun (q : ZZ) _ => q.1.1.b.obs_len id q.2.2) (fun (q : ZZ) _ => (formsLt_mem hfs q.1.1 q.1.2).1)
    (by
      intro q hz
      obtain ⟨⟨s, hsm⟩, a, b⟩ := q
      obtain ⟨⟨ex, T1, D1, st1⟩, k1, k2⟩ := (runW_sound hm hK n).code _ _ _ _ _ _ _ _ (step s hsm a b hz)
      cases ex with
      | normal =>
        obtain ⟨hD1, k3⟩ := (show noD D1 ∧ readAny N T1 st1 (fun z' => Inv z' ∧ μ z' < μ (s.z a b) ∧ altsMono z' (s.z a b) alts) fs from k2)
        obtain rfl := noD_eq hD1
        obtain ⟨s', hsm', k4⟩ := readAny_sound k3
        obtain ⟨hN', ht', hb'⟩ := formsLt_mem hfs s' hsm'
        obtain ⟨bs', x', y', hs', hl', ho', i1, i2, i3⟩ := readAll_sound k4
        rw [envOld_len] at hl'
        refine ⟨_, k1, rfl, .inl ⟨rfl, ⟨⟨s', hsm'⟩, x', y'⟩, bs'.drop N, i1, i2, hs'.at hl' hN' ht' hb' (fun j hj => ?_), fun e out h hr => altsR_mono i3 hr⟩⟩
        exact ho' j j (by have := envOld_get s'.b.len 0 N j (by omega) (by omega); rwa [Nat.zero_add] at this)
      | exit id =>
        obtain ⟨q1, out, h, ds, q2, q3⟩ := altsAt_sound hlt (show altsAt N (s.z a b) (.exit id) T1 D1 st1 alts from k2)
        subst q1
        exact ⟨_, k1, rfl, .inr ⟨by simp, out, h, ds, q2, q3⟩⟩
      | ret =>
        obtain ⟨q1, out, h, ds, q2, q3⟩ := altsAt_sound hlt (show altsAt N (s.z a b) .ret T1 D1 st1 alts from k2)
        subst q1
        exact ⟨_, k1, rfl, .inr ⟨by simp, out, h, ds, q2, q3⟩⟩)
    (z := ⟨⟨s0, hs0⟩, x, y0⟩) hI (T := T) (st := st) hgs (bs := bs.take N) (ds := bs.drop N) (by rw [List.length_take]; omega) (by rw [htd]; exact hs.nd) (by rw [htd]; exact hl)
    (fun p hp => ⟨by rw [htd]; exact hs.tmp p hp, Tel.under ht x p hp⟩)
    (fun i c o h1 h2 => by
      rw [htd] at h1 ⊢
      obtain ⟨o', g, w⟩ := hs.ob i o h2
      rw [tauL_at h1] at g
      exact ⟨⟨o', g, w⟩, BTel.under hb y0 o (List.mem_of_getElem? h2)⟩)
  obtain ⟨T', obs', hq, hol, hw, hT'⟩ := altsQ_at hQ hR
  refine ⟨_, ?_, hq⟩
  rw [htd] at fin
  refine fin T' _ _ (by rw [List.length_take]; omega) (by rw [List.length_drop]; omega) (fun i o o' hi h1 h2 => ?_) (fun i o o' h1 h2 => ?_) hT'
  · rw [List.getElem?_take_of_lt hi] at h2
    exact hw i o o' h1 h2
  · rw [List.getElem?_drop] at h2
    exact hw (N + i) o o' h1 h2
theorem loop_ok {Z : Type} {K : Known} {n : Nat} {fn : FuncId} {nt : Nat} {y : Code} {N : Nat} {vm : Bool} {rw' : TypeId → Bool} {fs : List (LForm Z)} {alts : List (Alt Z)} {Inv : Z → Prop} (μ : Z → Nat)
    (hm : P.follows .mixedOrders = true) (hK : KnownOk P K) (hlt : ifb (formsLt N fs) (altsLt N alts) false = true)
    (step : ∀ s ∈ fs, stepsOk P K n fn nt y N vm fs alts Inv μ s .leaf rw') : LoopOk P fn nt (.loop y) (loopC N fs alts Inv) :=
  fun ro T D st Q h => loop_ok_of μ glLeaf hm hK hlt step ro T D st Q glLeaf h
theorem loop_okg {Z : Type} {K : Known} {n : Nat} {fn : FuncId} {nt : Nat} {y : Code} {N : Nat} {vm : Bool} {fs : List (LForm Z)} {alts : List (Alt Z)} {Inv : Z → Prop} (μ : Z → Nat) {gl : Tr (List AV)} {rw' : TypeId → Bool}
    (hgf : ∀ g l, gl.get g = some l → AV.frees l = true)
    (hm : P.follows .mixedOrders = true) (hK : KnownOk P K) (hlt : ifb (formsLt N fs) (altsLt N alts) false = true)
    (step : ∀ s ∈ fs, stepsOk P K n fn nt y N vm fs alts Inv μ s gl rw') : LoopOk P fn nt (.loop y) (loopCg gl N fs alts Inv) :=
  fun ro T D st Q h => loop_ok_of μ hgf hm hK hlt step ro T D st Q (by rw [h.1]; exact fun _ _ h => h) h.2
theorem steps_nil {Z : Type} {C : LForm Z → Prop} : ∀ s ∈ ([] : List (LForm Z)), C s := fun s h => by cases h
theorem steps_cons {Z : Type} {C : LForm Z → Prop} {a : LForm Z} {l : List (LForm Z)} (h : C a) (t : ∀ s ∈ l, C s) : ∀ s ∈ a :: l, C s := fun s hs => by
  rcases List.mem_cons.1 hs with rfl | hs
  · exact h
  · exact t s hs
end Go.Det
