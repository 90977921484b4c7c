/- Part of the proof of IndexBytes. -/
import Derived.Test.YtcnnjlhecndhnaaGreatDc
import Derived.Shelf.SlSortCmp.InsertionK
set_option linter.unusedVariables false
set_option linter.unusedSimpArgs false
noncomputable section
namespace Go.Det
variable {P : Program}
inductive BTel : Type → Type 1 where
 | nil : BTel Unit
 | cons {α β : Type} (b : Bk α) (t : BTel β) : BTel (α × β)
def BTel.len {α : Type} (t : BTel α) : Nat :=
 match t with
 | .nil => 0
 | .cons _ t => Nat.succ t.len
def BTel.obs {α : Type} (t : BTel α) (nm : Nat → Nat) (a : α) : List Ob :=
 match t, a with
 | .nil, _ => []
 | .cons b t, (x, y) => b.ob nm x :: t.obs nm y
def BTel.lt {α : Type} (t : BTel α) (k : Nat) : Bool :=
 match t with
 | .nil => true
 | .cons b t => ifb (b.lt k) (t.lt k) false
def BTel.read {α : Type} (t : BTel α) (st : St) (j : Nat) (env : Env) (k : α → Env → Prop) : Prop :=
 match t, k with
 | .nil, k => k () env
 | .cons b t, k => obW (envGet env j) fun x => b.read st x env fun a env => t.read st (Nat.succ j) env fun y env => k (a, y) env
theorem BTel.obs_len {α : Type} (t : BTel α) (nm : Nat → Nat) : ∀ a : α, (t.obs nm a).length = t.len := by
 induction t with
 | nil => intro a; rfl
 | cons b t ih => intro ⟨x, y⟩; simp only [BTel.obs, List.length_cons, ih y, BTel.len, Nat.succ_eq_add_one]
theorem Bk.under {α : Type} {b : Bk α} {k : Nat} (h : b.lt k = true) (a : α) : (b.ob id a).under k := by
 cases b with
 | spare => trivial
 | row t => exact Tel.underC h a
 | rows E ty => exact unders_free k _ (E.ffree a)
 | rowsW E ty => exact unders_free k _ (E.ffree a)
 | loop fn nt ps asl body s p t d =>
  simp only [Bk.lt, ifb_eq] at h
  split at h
  ·rename_i c
   exact ⟨of_ble c, fun i v hv => Tel.under h a _ (mkT_get hv)⟩
  ·cases h
 | dfr => trivial
 | mp KE VE =>
  intro e he
  obtain ⟨e', h1, rfl⟩ := List.mem_map.1 he
  exact ⟨under_free k _ (KE.free _), under_free k _ (VE.free _)⟩
theorem BTel.under {α : Type} {t : BTel α} {k : Nat} : t.lt k = true → ∀ (a : α), ∀ o ∈ t.obs id a, o.under k := by
 induction t with
 | nil => intro _ a o ho; simp [BTel.obs] at ho
 | cons b t ih =>
  intro h ⟨x, y⟩ o ho
  simp only [BTel.lt, ifb_eq] at h
  split at h
  ·rename_i c
   simp only [BTel.obs, List.mem_cons] at ho
   rcases ho with rfl | ho
   ·exact b.under c x
   ·exact ih h y o ho
  ·cases h
theorem BTel.read_sound {α : Type} {t : BTel α} {st : St} : ∀ {j : Nat} {env : Env} {k : α → Env → Prop}, t.read st j env k → ∃ a env', Ext env env' ∧
  (∀ env2, Ext env' env2 → ∀ (i : Nat) (o : Ob), (t.obs id a)[i]? = some o → ∃ o', st.heap.get (nmOf env2 (j + i)) = some o' ∧ WkO o' (o.ren (nmOf env2))) ∧ k a env' := by
 induction t with
 | nil => intro j env k h; exact ⟨(), env, Ext.refl _, fun _ _ i o ho => by simp [BTel.obs] at ho, h⟩
 | cons b t ih =>
  intro j env k h
  obtain ⟨x, hx, h⟩ := obW_iff.1 (show obW (envGet env j) (fun x => b.read st x env fun a env => t.read st (Nat.succ j) env fun y env => k (a, y) env) from h)
  obtain ⟨a, e1, x1, ⟨o1, g1, w1⟩, h⟩ := Bk.read_sound h
  obtain ⟨y, e2, x2, w2, h⟩ := ih h
  refine ⟨(a, y), e2, x1.trans x2, fun env2 x i o ho => ?_, h⟩
  cases i with
  | zero =>
   simp only [BTel.obs, List.getElem?_cons_zero, Option.some.injEq] at ho
   subst ho
   rw [Nat.add_zero, nmOf_at hx (x1.trans (x2.trans x))]
   exact ⟨o1, g1, w1 env2 (x2.trans x)⟩
  | succ i =>
   simp only [BTel.obs, List.getElem?_cons_succ] at ho
   have := w2 env2 x i o ho
   rwa [show Nat.succ j + i = j + (i + 1) by omega] at this
theorem WkO.row {cs cs' : List AV} {e e' : TypeId} (h : WkL cs cs') : WkO (.row cs e) (.row cs' e') := by
 refine ⟨fun ρ L y hy => ?_, fun q => by cases q⟩
 obtain ⟨arr, e', lo, hi, q1, q2, q3, q4, q5⟩ := hy
 refine ⟨arr, e', lo, hi, q1, q2, by rw [← h.length]; exact q3, q4, fun i v hv => ?_⟩
 obtain ⟨c, hc, hcw⟩ := h.get hv
 obtain ⟨r1, v', r2, r3⟩ := q5 i c hc
 exact ⟨Wk.scalar (hcw _ _ r3) r3 r1, v', r2, hcw _ _ r3⟩
theorem Bk.ren {α : Type} (b : Bk α) (σ : Nat → Nat) (a : α) : WkO ((b.ob id a).ren σ) (b.ob σ a) := by
 cases b with
 | spare => exact WkO.refl _
 | row t => show WkO (.row (AV.rens σ (t.cells id a)) 0) (.row (t.cells σ a) 0); rw [Tel.renC]; exact WkO.refl _
 | rows E ty => show WkO (.row (AV.rens σ (a.flatMap E.f)) ty) _; rw [rens_free _ _ (E.ffree a)]; exact WkO.refl _
 | rowsW E ty => show WkO (.row (AV.rens σ (a.flatMap E.f)) ty) _; rw [rens_free _ _ (E.ffree a)]; exact WkO.refl _
 | loop fn nt ps asl body s p t d =>
  refine ⟨fun ρ L y hy => ?_, fun q => by cases q⟩
  obtain ⟨tm, dl, q1, q2, q3⟩ := hy
  refine ⟨tm, dl, q1, ⟨q2.1, fun i v hv => ?_⟩, q3⟩
  have hv' : (mkT (t.av σ a)).get i = some v := hv
  rw [← Tel.ren, mkT_ren] at hv'
  obtain ⟨u, hu, rfl⟩ := hv'
  exact q2.2 i _ (by show ((mkT (t.av id a)).map (AV.ren σ)).get i = _; rw [Tr.get_map, hu]; rfl)
 | dfr => exact WkO.refl _
 | mp KE VE => rw [mp_ren]; exact WkO.refl _
theorem BTel.ren {α : Type} (t : BTel α) (σ : Nat → Nat) : ∀ (a : α) (i : Nat) (o o' : Ob), (t.obs id a)[i]? = some o → (t.obs σ a)[i]? = some o' → WkO (o.ren σ) o' := by
 induction t with
 | nil => intro a i o o' h; simp [BTel.obs] at h
 | cons b t ih =>
  intro ⟨x, y⟩ i o o' h h'
  cases i with
  | zero =>
   simp only [BTel.obs, List.getElem?_cons_zero, Option.some.injEq] at h h'
   subst h; subst h'
   exact b.ren σ x
  | succ i =>
   simp only [BTel.obs, List.getElem?_cons_succ] at h h'
   exact ih y i o o' h h'
def allSome : Env → Option (List Nat)
 | [] => some []
 | none :: _ => none
 | some b :: l => Option.rec none (fun bs => some (b :: bs)) (allSome l)
theorem allSome_get : ∀ {env : Env} {bs : List Nat}, allSome env = some bs → bs.length = env.length ∧ ∀ j, nmOf env j = tauL bs j
 | [], bs, h => by injection h with h; subst h; exact ⟨rfl, fun j => rfl⟩
 | none :: l, bs, h => by cases h
 | some b :: l, bs, h => by
  change Option.rec none (fun bs => some (b :: bs)) (allSome l) = some bs at h
  cases hl : allSome l with
  | none => rw [hl] at h; cases h
  | some bs' =>
   rw [hl] at h
   injection h with h; subst h
   obtain ⟨h1, h2⟩ := allSome_get hl
   refine ⟨by simp [h1], fun j => ?_⟩
   cases j with
   | zero => rfl
   | succ j => have := h2 j; simpa [nmOf, envGet, tauL] using this
def envNew : Nat → Env
 | 0 => []
 | n + 1 => none :: envNew n
def envOld : Nat → Nat → Nat → Env
 | _, _, 0 => []
 | i, N, n + 1 => ifb (Nat.ble (Nat.succ i) N) (some i) none :: envOld (Nat.succ i) N n
theorem envNew_len : ∀ n, (envNew n).length = n
 | 0 => rfl
 | n + 1 => by simp [envNew, envNew_len n]
theorem envOld_len : ∀ i N n, (envOld i N n).length = n
 | _, _, 0 => rfl
 | i, N, n + 1 => by simp [envOld, envOld_len (Nat.succ i) N n]
theorem envOld_get : ∀ (n i N j : Nat), j < n → i + j < N → envGet (envOld i N n) j = some (i + j)
 | n + 1, i, N, 0, _, h => by simp only [envOld, envGet]; rw [show Nat.ble (Nat.succ i) N = true from ble_t (by omega)]; rfl
 | n + 1, i, N, j + 1, hj, h => by
  simp only [envOld, envGet]
  rw [envOld_get n (Nat.succ i) N j (by omega) (by omega)]
  congr 1; omega
def readAll {α β : Type} (t : Tel α) (b : BTel β) (env : Env) (T : Tr AV) (st : St) (k : List Nat → α → β → Prop) : Prop :=
 t.read st T env fun x env => b.read st 0 env fun y env => obW (allSome env) fun bs => distinct bs ∧ k bs x y
structure Seen {α β : Type} (t : Tel α) (b : BTel β) (T : Tr AV) (st : St) (bs : List Nat) (x : α) (y : β) : Prop where
 nd : bs.Nodup
 tmp : ∀ p ∈ t.av id x, Got T p.1 (p.2.ren (tauL bs))
 ob : ∀ (i : Nat) (o : Ob), (b.obs id y)[i]? = some o → ∃ o', st.heap.get (tauL bs i) = some o' ∧ WkO o' (o.ren (tauL bs))
theorem readAll_sound {α β : Type} {t : Tel α} {b : BTel β} {env : Env} {T : Tr AV} {st : St} {k : List Nat → α → β → Prop} (h : readAll t b env T st k) :
  ∃ bs x y, Seen t b T st bs x y ∧ bs.length = env.length ∧ (∀ j c, envGet env j = some c → tauL bs j = c) ∧ k bs x y := by
 obtain ⟨x, e1, x1, w1, h⟩ := Tel.read_sound (show t.read st T env _ from h)
 obtain ⟨y, e2, x2, w2, h⟩ := BTel.read_sound h
 obtain ⟨bs, hb, hd, h⟩ := obW_iff.1 h
 obtain ⟨hl, hn⟩ := allSome_get hb
 have hfun : nmOf e2 = tauL bs := funext hn
 refine ⟨bs, x, y, ⟨hd.nodup, fun p hp => ?_, fun i o ho => ?_⟩, hl.trans (x1.trans x2).1, fun j c hc => ?_, h⟩
 ·have := w1 e2 x2 (p.1, p.2.ren (tauL bs)) (by rw [← Tel.ren, hfun]; exact List.mem_map.2 ⟨p, hp, rfl⟩)
  exact this
 ·have := w2 e2 (Ext.refl _) i o ho
  rw [Nat.zero_add, hfun] at this; exact this
 ·rw [← hn j]; exact nmOf_at hc (x1.trans x2)
structure Alt (Z : Type) where
 ex : Ex
 γ : Type
 δ : Type
 outs : Tel γ
 obs : BTel δ
 R : Z → γ → δ → Prop
def exEq : Ex → Ex → Bool
 | .normal, .normal => true
 | .exit a, .exit b => Nat.beq a b
 | .ret, .ret => true
 | _, _ => false
theorem exEq_eq {a b : Ex} (h : exEq a b = true) : a = b := by
 cases a <;> cases b <;> first | rfl | cases h | (rw [of_beq h])
def hasEx {Z : Type} (e : Ex) : List (Alt Z) → Bool
 | [] => false
 | a :: l => ifb (exEq e a.ex) true (hasEx e l)
def altsAt {Z : Type} (N : Nat) (z : Z) (e : Ex) (T : Tr AV) (D : List ADef) (st : St) : List (Alt Z) → Prop
 | [] => False
 | a :: l => ifp (exEq e a.ex) (ifp (hasEx e l)
   ((noD D ∧ readAll a.outs a.obs (envOld 0 N a.obs.len) T st fun _ c d => a.R z c d) ∨ altsAt N z e T D st l)
   (noD D ∧ readAll a.outs a.obs (envOld 0 N a.obs.len) T st fun _ c d => a.R z c d)) (altsAt N z e T D st l)
structure LForm (Z : Type) where
 α : Type
 β : Type
 t : Tel α
 b : BTel β
 z : α → β → Z
def readAny {Z : Type} (N : Nat) (T : Tr AV) (st : St) (k : Z → Prop) : List (LForm Z) → Prop
 | [] => False
 | [s] => readAll s.t s.b (envOld 0 N s.b.len) T st fun _ x y => k (s.z x y)
 | s :: l => readAll s.t s.b (envOld 0 N s.b.len) T st (fun _ x y => k (s.z x y)) ∨ readAny N T st k l
def postL {Z : Type} (N : Nat) (fs : List (LForm Z)) (alts : List (Alt Z)) (z : Z) (k : Z → Prop) (o : Out) : Prop :=
 Out.rec (fun e T D st => Ex.rec (noD D ∧ readAny N T st k fs) (fun id => altsAt N z (.exit id) T D st alts) (altsAt N z .ret T D st alts) e) o
def nmX (N : Nat) (bs : List Nat) (next j : Nat) : Nat := shift (tauL bs) N next j
def altsQ {Z : Type} (N : Nat) (bs : List Nat) (st : St) (Q : Out → Prop) (z : Z) : List (Alt Z) → Prop
 | [] => True
 | a :: l => (∀ c d, a.R z c d → Q ⟨a.ex, mkT (a.outs.av (nmX N bs st.next) c), [], newL (putL (delL st (bs.drop N)) (bs.take N) ((a.obs.obs (nmX N bs st.next) d).take N)) ((a.obs.obs (nmX N bs st.next) d).drop N)⟩) ∧ altsQ N bs st Q z l
def readNew {Z : Type} (T : Tr AV) (st : St) (k : List Nat → Z → Prop) : List (LForm Z) → Prop
 | [] => False
 | [s] => readAll s.t s.b (envNew s.b.len) T st fun bs x y => k bs (s.z x y)
 | s :: l => readAll s.t s.b (envNew s.b.len) T st (fun bs x y => k bs (s.z x y)) ∨ readNew T st k l
def loopC {Z : Type} (N : Nat) (fs : List (LForm Z)) (alts : List (Alt Z)) (Inv : Z → Prop) : LoopC := fun ro nt T D st Q =>
 noneO ro ∧ noD D ∧ readNew T st (fun bs z => Inv z ∧ altsQ N bs st Q z alts) fs
def altsMono {Z : Type} (z' z : Z) : List (Alt Z) → Prop
 | [] => True
 | a :: l => (∀ c d, a.R z' c d → a.R z c d) ∧ altsMono z' z l
def altsLt {Z : Type} (N : Nat) : List (Alt Z) → Bool
 | [] => true
 | a :: l => ifb (and (Nat.ble N a.obs.len) (and (a.outs.lt a.obs.len) (a.obs.lt a.obs.len))) (altsLt N l) false
def altsR {Z : Type} (z : Z) (e : Ex) (out : List (Nat × AV)) (h : List Ob) : List (Alt Z) → Prop
 | [] => False
 | a :: l => (e = a.ex ∧ ∃ c d, a.R z c d ∧ out = a.outs.av id c ∧ h = a.obs.obs id d) ∨ altsR z e out h l
theorem altsR_mono {Z : Type} {z z' : Z} {e : Ex} {out : List (Nat × AV)} {h : List Ob} : ∀ {alts : List (Alt Z)}, altsMono z' z alts → altsR z' e out h alts → altsR z e out h alts
 | [], _, hr => hr
 | a :: l, ⟨m, ml⟩, .inl ⟨h1, c, d, h2, h3⟩ => .inl ⟨h1, c, d, m c d h2, h3⟩
 | a :: l, ⟨m, ml⟩, .inr hr => .inr (altsR_mono ml hr)
theorem range_tau {bs : List Nat} {N : Nat} (hN : N ≤ bs.length) (h : ∀ j, j < N → tauL bs j = j) : bs = List.range N ++ bs.drop N := by
 apply List.ext_getElem?
 intro i
 rcases Nat.lt_or_ge i N with q | q
 ·rw [List.getElem?_append_left (by simpa using q)]
  have hi : i < bs.length := by omega
  have := h i q
  rw [tauL_at (List.getElem?_eq_getElem hi)] at this
  rw [List.getElem?_eq_getElem hi, this]; simp [q]
 ·rw [List.getElem?_append_right (by simpa using q)]; simp; congr 1; omega
theorem Seen.at {α β : Type} {t : Tel α} {b : BTel β} {T : Tr AV} {st : St} {bs : List Nat} {x : α} {y : β} (h : Seen t b T st bs x y) {N : Nat} (hl : bs.length = b.len) (hN : N ≤ b.len) (ht : t.lt b.len = true) (hb : b.lt b.len = true) (ho : ∀ j, j < N → tauL bs j = j) :
  At N (bs.drop N) (t.av id x) (b.obs id y) T st := by
 have e := range_tau (by omega) ho
 refine ⟨by rw [b.obs_len, List.length_drop]; omega, by rw [← e]; exact h.nd, fun p hp => ?_, fun i c o h1 h2 => ?_⟩
 ·rw [← e, b.obs_len]; exact ⟨h.tmp p hp, Tel.under ht x p hp⟩
 ·rw [← e] at h1 ⊢
  rw [b.obs_len]
  obtain ⟨o', g, w⟩ := h.ob i o h2
  rw [tauL_at h1] at g
  exact ⟨⟨o', g, w⟩, BTel.under hb y o (List.mem_of_getElem? h2)⟩
theorem altsAt_sound {Z : Type} {N : Nat} {z : Z} {e : Ex} {T : Tr AV} {D : List ADef} {st : St} : ∀ {alts : List (Alt Z)}, altsLt N alts = true → altsAt N z e T D st alts →
  D = [] ∧ ∃ out h ds, At N ds out h T st ∧ altsR z e out h alts
 | [], _, h => h.elim
 | a :: l, hlt, h => by
  simp only [altsLt, ifb_eq] at hlt
  split at hlt
  ·rename_i hc
   simp only [Bool.and_eq_true] at hc
   obtain ⟨h1, h2, h3⟩ := hc
   have h' : (exEq e a.ex = true ∧ noD D ∧ readAll a.outs a.obs (envOld 0 N a.obs.len) T st fun _ c d => a.R z c d) ∨ altsAt N z e T D st l := by
    rcases ifp_iff.1 h with ⟨he, h⟩ | ⟨_, h⟩
    ·rcases ifp_iff.1 h with ⟨_, h | h⟩ | ⟨_, h⟩
     ·exact .inl ⟨he, h⟩
     ·exact .inr h
     ·exact .inl ⟨he, h⟩
    ·exact .inr h
   rcases h' with ⟨he, hD, h⟩ | h
   ·obtain ⟨bs, c, d, hs, hl, ho, hR⟩ := readAll_sound h
    rw [envOld_len] at hl
    have hN : N ≤ a.obs.len := of_ble h1
    refine ⟨noD_eq hD, _, _, bs.drop N, hs.at hl hN h2 h3 (fun j hj => ?_), .inl ⟨exEq_eq he, c, d, hR, rfl, rfl⟩⟩
    exact ho j j (by have := envOld_get a.obs.len 0 N j (by omega) (by omega); rwa [Nat.zero_add] at this)
   ·obtain ⟨q1, out, hh, ds, q2, q3⟩ := altsAt_sound hlt h
    exact ⟨q1, out, hh, ds, q2, .inr q3⟩
  ·cases hlt
theorem altsQ_at {Z : Type} {N : Nat} {bs : List Nat} {st : St} {Q : Out → Prop} {z : Z} {e : Ex} {out : List (Nat × AV)} {h : List Ob} : ∀ {alts : List (Alt Z)}, altsQ N bs st Q z alts → altsR z e out h alts →
  ∃ (T' : Tr AV) (obs' : List Ob), Q ⟨e, T', [], newL (putL (delL st (bs.drop N)) (bs.take N) (obs'.take N)) (obs'.drop N)⟩ ∧ obs'.length = h.length ∧ (∀ (i : Nat) (o o' : Ob), h[i]? = some o → obs'[i]? = some o' → WkO (o.ren (nmX N bs st.next)) o') ∧
   (∀ i v, T'.get i = some v → ∃ u, (mkT out).get i = some u ∧ Wk (u.ren (nmX N bs st.next)) v)
 | [], _, hr => hr.elim
 | a :: l, ⟨hq, hl⟩, .inl ⟨he, c, d, hR, ho, hh⟩ => by
  subst he; subst ho; subst hh
  refine ⟨_, _, hq c d hR, by rw [BTel.obs_len, BTel.obs_len], a.obs.ren _ d, fun i v hv => ?_⟩
  rw [← Tel.ren, mkT_ren] at hv
  obtain ⟨u, h1, rfl⟩ := hv
  exact ⟨u, h1, Wk.refl _⟩
 | a :: l, ⟨hq, hl⟩, .inr hr => altsQ_at hl hr
theorem ifb_none_iff {b x : Bool} : ifb b x false = true ↔ b = true ∧ x = true := by cases b <;> simp
theorem readAny_sound {Z : Type} {N : Nat} {T : Tr AV} {st : St} {k : Z → Prop} : ∀ {fs : List (LForm Z)}, readAny N T st k fs → ∃ s ∈ fs, readAll s.t s.b (envOld 0 N s.b.len) T st fun _ x y => k (s.z x y)
 | [], h => h.elim
 | [s], h => ⟨s, by simp, h⟩
 | s :: s2 :: l, h => by
  rcases (show readAll s.t s.b (envOld 0 N s.b.len) T st (fun _ x y => k (s.z x y)) ∨ readAny N T st k (s2 :: l) from h) with h | h
  ·exact ⟨s, by simp, h⟩
  ·obtain ⟨s', h1, h2⟩ := readAny_sound h
   exact ⟨s', List.mem_cons_of_mem _ h1, h2⟩
theorem readNew_sound {Z : Type} {T : Tr AV} {st : St} {k : List Nat → Z → Prop} : ∀ {fs : List (LForm Z)}, readNew T st k fs → ∃ s ∈ fs, readAll s.t s.b (envNew s.b.len) T st fun bs x y => k bs (s.z x y)
 | [], h => h.elim
 | [s], h => ⟨s, by simp, h⟩
 | s :: s2 :: l, h => by
  rcases (show readAll s.t s.b (envNew s.b.len) T st (fun bs x y => k bs (s.z x y)) ∨ readNew T st k (s2 :: l) from h) with h | h
  ·exact ⟨s, by simp, h⟩
  ·obtain ⟨s', h1, h2⟩ := readNew_sound h
   exact ⟨s', List.mem_cons_of_mem _ h1, h2⟩
def formsLt {Z : Type} (N : Nat) : List (LForm Z) → Bool
 | [] => true
 | s :: l => ifb (and (Nat.ble N s.b.len) (and (s.t.lt s.b.len) (s.b.lt s.b.len))) (formsLt N l) false
theorem formsLt_mem {Z : Type} {N : Nat} : ∀ {fs : List (LForm Z)}, formsLt N fs = true → ∀ s ∈ fs, N ≤ s.b.len ∧ s.t.lt s.b.len = true ∧ s.b.lt s.b.len = true
 | [], _, s, hs => by simp at hs
 | a :: l, h, s, hs => by
  rw [formsLt, ifb_none_iff] at h
  obtain ⟨hc, h⟩ := h
  simp only [Bool.and_eq_true] at hc
  rcases List.mem_cons.1 hs with rfl | hs
  ·exact ⟨of_ble hc.1, hc.2.1, hc.2.2⟩
  ·exact formsLt_mem h s hs
def stepsOk (P : Program) (K : Known) (n : Nat) (fn : FuncId) (nt : Nat) (y : Code) (N : Nat) (vm : Bool) {Z : Type} (fs : List (LForm Z)) (alts : List (Alt Z)) (Inv : Z → Prop) (μ : Z → Nat) (s : LForm Z) (gl : Tr (List AV) := .leaf) (rw' : TypeId → Bool := fun _ => false) : Prop :=
 ∀ a b, Inv (s.z a b) → (runW P K n).code none fn nt y (mkT (s.t.av id a)) [] (stL vm (s.b.obs id b) gl rw') (postL N fs alts (s.z a b) fun z' => Inv z' ∧ μ z' < μ (s.z a b) ∧ altsMono z' (s.z a b) alts)
theorem loop_ok_of {Z : Type} {K : Known} {n : Nat} {fn : FuncId} {nt : Nat} {y : Code} {N : Nat} {vm : Bool} {fs : List (LForm Z)} {alts : List (Alt Z)} {Inv : Z → Prop} (μ : Z → Nat) {gl : Tr (List AV)} {rw' : TypeId → Bool}
  (hgf : ∀ g l, gl.get g = some l → AV.frees l = true)
  (hm : P.follows .mixedOrders = true) (hK : KnownOk P K) (hlt : ifb (formsLt N fs) (altsLt N alts) false = true)
  (step : ∀ s ∈ fs, stepsOk P K n fn nt y N vm fs alts Inv μ s gl rw')
  (ro : Option Nat) (T : Tr AV) (D : List ADef) (st : St) (Q : Out → Prop) (hgs : ∀ g l, gl.get g = some l → st.gl.get g = some l) (h : loopC N fs alts Inv ro nt T D st Q) : ∃ o, CodeS P ro fn nt (.loop y) T D st o ∧ Q o := by
 rw [ifb_none_iff] at hlt
 obtain ⟨hfs, hlt⟩ := hlt
 obtain ⟨hro, hD, h⟩ := h
 obtain rfl := noneO_eq hro
 obtain rfl := noD_eq hD
 obtain ⟨s0, hs0, h⟩ := readNew_sound h
 obtain ⟨hN, ht, hb⟩ := formsLt_mem hfs s0 hs0
 obtain ⟨bs, x, y0, hs, hl, _, hI, hQ⟩ := readAll_sound h
 rw [envNew_len] at hl
 have htd : bs.take N ++ bs.drop N = bs := List.take_append_drop _ _
 let ZZ := Σ s : { s : LForm Z // s ∈ fs }, s.1.α × s.1.β
 let ev : ZZ → Z := fun q => q.1.1.z q.2.1 q.2.2
 obtain ⟨e, out, hh, hlen, hR, fin⟩ := heap_loop (P := P) (N := N) (k := fun q : ZZ => q.1.1.b.len) (vm := vm) (fn := fn) (nt := nt) (y := y) hgf (fun q : ZZ => q.1.1.t.av id q.2.1) (fun q : ZZ => q.1.1.b.obs id q.2.2) (fun q : ZZ => μ (ev q)) (fun q : ZZ => Inv (ev q)) (fun (q : ZZ) e out h => altsR (ev q) e out h alts)
  (fun (q : ZZ) _ => q.1.1.b.obs_len id q.2.2) (fun (q : ZZ) _ => (formsLt_mem hfs q.1.1 q.1.2).1)
  (by
   intro q hz
   obtain ⟨⟨s, hsm⟩, a, b⟩ := q
   obtain ⟨⟨ex, T1, D1, st1⟩, k1, k2⟩ := (runW_sound hm hK n).code _ _ _ _ _ _ _ _ (step s hsm a b hz)
   cases ex with
   | normal =>
    obtain ⟨hD1, k3⟩ := (show noD D1 ∧ readAny N T1 st1 (fun z' => Inv z' ∧ μ z' < μ (s.z a b) ∧ altsMono z' (s.z a b) alts) fs from k2)
    obtain rfl := noD_eq hD1
    obtain ⟨s', hsm', k4⟩ := readAny_sound k3
    obtain ⟨hN', ht', hb'⟩ := formsLt_mem hfs s' hsm'
    obtain ⟨bs', x', y', hs', hl', ho', i1, i2, i3⟩ := readAll_sound k4
    rw [envOld_len] at hl'
    refine ⟨_, k1, rfl, .inl ⟨rfl, ⟨⟨s', hsm'⟩, x', y'⟩, bs'.drop N, i1, i2, hs'.at hl' hN' ht' hb' (fun j hj => ?_), fun e out h hr => altsR_mono i3 hr⟩⟩
    exact ho' j j (by have := envOld_get s'.b.len 0 N j (by omega) (by omega); rwa [Nat.zero_add] at this)
   | exit id =>
    obtain ⟨q1, out, h, ds, q2, q3⟩ := altsAt_sound hlt (show altsAt N (s.z a b) (.exit id) T1 D1 st1 alts from k2)
    subst q1
    exact ⟨_, k1, rfl, .inr ⟨by simp, out, h, ds, q2, q3⟩⟩
   | ret =>
    obtain ⟨q1, out, h, ds, q2, q3⟩ := altsAt_sound hlt (show altsAt N (s.z a b) .ret T1 D1 st1 alts from k2)
    subst q1
    exact ⟨_, k1, rfl, .inr ⟨by simp, out, h, ds, q2, q3⟩⟩)
  (z := ⟨⟨s0, hs0⟩, x, y0⟩) hI (T := T) (st := st) hgs (bs := bs.take N) (ds := bs.drop N) (by rw [List.length_take]; omega) (by rw [htd]; exact hs.nd) (by rw [htd]; exact hl)
  (fun p hp => ⟨by rw [htd]; exact hs.tmp p hp, Tel.under ht x p hp⟩)
  (fun i c o h1 h2 => by
   rw [htd] at h1 ⊢
   obtain ⟨o', g, w⟩ := hs.ob i o h2
   rw [tauL_at h1] at g
   exact ⟨⟨o', g, w⟩, BTel.under hb y0 o (List.mem_of_getElem? h2)⟩)
 obtain ⟨T', obs', hq, hol, hw, hT'⟩ := altsQ_at hQ hR
 refine ⟨_, ?_, hq⟩
 rw [htd] at fin
 refine fin T' _ _ (by rw [List.length_take]; omega) (by rw [List.length_drop]; omega) (fun i o o' hi h1 h2 => ?_) (fun i o o' h1 h2 => ?_) hT'
 ·rw [List.getElem?_take_of_lt hi] at h2
  exact hw i o o' h1 h2
 ·rw [List.getElem?_drop] at h2
  exact hw (N + i) o o' h1 h2
theorem loop_ok {Z : Type} {K : Known} {n : Nat} {fn : FuncId} {nt : Nat} {y : Code} {N : Nat} {vm : Bool} {rw' : TypeId → Bool} {fs : List (LForm Z)} {alts : List (Alt Z)} {Inv : Z → Prop} (μ : Z → Nat)
  (hm : P.follows .mixedOrders = true) (hK : KnownOk P K) (hlt : ifb (formsLt N fs) (altsLt N alts) false = true)
  (step : ∀ s ∈ fs, stepsOk P K n fn nt y N vm fs alts Inv μ s .leaf rw') : LoopOk P fn nt (.loop y) (loopC N fs alts Inv) :=
 fun ro T D st Q h => loop_ok_of μ glLeaf hm hK hlt step ro T D st Q glLeaf h
theorem steps_nil {Z : Type} {C : LForm Z → Prop} : ∀ s ∈ ([] : List (LForm Z)), C s := fun s h => by cases h
theorem steps_cons {Z : Type} {C : LForm Z → Prop} {a : LForm Z} {l : List (LForm Z)} (h : C a) (t : ∀ s ∈ l, C s) : ∀ s ∈ a :: l, C s := fun s hs => by
 rcases List.mem_cons.1 hs with rfl | hs
 ·exact h
 ·exact t s hs
end Go.Det
end
noncomputable section
namespace Go.Det
variable {P : Program}
def valC {α : Type} (t : Tel α) (Pre : α → Prop) (res : α → AV) : CallC := fun args st Q => t.readC st args [] fun x _ => Pre x ∧ Q (res x) st
theorem cells_ren0 {α : Type} {t : Tel α} (h : t.lt 0 = true) (nm : Nat → Nat) (a : α) : t.cells nm a = t.cells id a := by
 induction t with
 | nil => rfl
 | cons i s t ih =>
  obtain ⟨x, y⟩ := a
  simp only [Tel.lt, ifb_eq] at h
  split at h
  ·rename_i c
   simp only [Tel.cells, ih h y]
   congr 1
   cases s with
   | own E j => cases c
   | ptr j => cases c
   | yld j => cases c
   | sl j e => cases c
   | slq j e => cases c
   | mapr j => cases c
   | fnp f js =>
    cases js with
    | nil => rfl
    | cons j js => cases c
   | fnb f js =>
    cases js with
    | nil => rfl
    | cons j js => cases c
   | _ => rfl
  ·cases h
theorem val_ok {α : Type} {f : FuncId} {t : Tel α} {Pre : α → Prop} {res : α → AV} (ht : t.lt 0 = true) (h : ∀ x, Pre x → Val P f (t.cells id x) (res x)) : CcOk P f (valC t Pre res) := by
 intro args st Q hQ
 obtain ⟨x, e, _, w, hp, hq⟩ := Tel.readC_sound (show t.readC st args [] _ from hQ)
 exact ⟨_, st, (h x hp).wk (by have := w e (Ext.refl _); rwa [cells_ren0 ht] at this) st, hq⟩
def one1 (n : Nat) (v : AV) (k : List AV → Prop) : Prop :=
 ifp (Nat.beq n 1) (k [v]) (match v with | .tuple l => k l | _ => False)
def Tel.num {α : Type} (t : Tel α) : Nat :=
 match t with
 | .nil => 0
 | .cons _ _ t => Nat.succ t.num
theorem Tel.cells_len {α : Type} (t : Tel α) (nm : Nat → Nat) : ∀ a : α, (t.cells nm a).length = t.num := by
 induction t with
 | nil => intro a; rfl
 | cons i s t ih => intro ⟨x, y⟩; simp only [Tel.cells, List.length_cons, ih y, Tel.num, Nat.succ_eq_add_one]
def readCells {α β : Type} (t : Tel α) (b : BTel β) (env : Env) (cs : List AV) (st : St) (k : List Nat → α → β → Prop) : Prop :=
 t.readC st cs env fun x env => b.read st 0 env fun y env => obW (allSome env) fun bs => distinct bs ∧ k bs x y
structure SeenC {α β : Type} (t : Tel α) (b : BTel β) (cs : List AV) (st : St) (bs : List Nat) (x : α) (y : β) : Prop where
 nd : bs.Nodup
 wk : WkL cs (AV.rens (tauL bs) (t.cells id x))
 ob : ∀ (i : Nat) (o : Ob), (b.obs id y)[i]? = some o → ∃ o', st.heap.get (tauL bs i) = some o' ∧ WkO o' (o.ren (tauL bs))
theorem readCells_sound {α β : Type} {t : Tel α} {b : BTel β} {env : Env} {cs : List AV} {st : St} {k : List Nat → α → β → Prop} (h : readCells t b env cs st k) :
  ∃ bs x y, SeenC t b cs st bs x y ∧ bs.length = env.length ∧ (∀ j c, envGet env j = some c → tauL bs j = c) ∧ k bs x y := by
 obtain ⟨x, e1, x1, w1, h⟩ := Tel.readC_sound (show t.readC st cs env _ from h)
 obtain ⟨y, e2, x2, w2, h⟩ := BTel.read_sound h
 obtain ⟨bs, hb, hd, h⟩ := obW_iff.1 h
 obtain ⟨hl, hn⟩ := allSome_get hb
 have hfun : nmOf e2 = tauL bs := funext hn
 refine ⟨bs, x, y, ⟨hd.nodup, ?_, fun i o ho => ?_⟩, hl.trans (x1.trans x2).1, fun j c hc => ?_, h⟩
 ·have := w1 e2 x2
  rwa [hfun, ← Tel.renC] at this
 ·have := w2 e2 (Ext.refl _) i o ho
  rw [Nat.zero_add, hfun] at this; exact this
 ·rw [← hn j]; exact nmOf_at hc (x1.trans x2)
structure Res (Z : Type) where
 γ : Type
 δ : Type
 outs : Tel γ
 obs : BTel δ
 R : Z → γ → δ → Prop
def resAt {Z : Type} (N : Nat) (a : Res Z) (z : Z) (v : AV) (st : St) : Prop :=
 one1 a.outs.num v fun cs => readCells a.outs a.obs (envOld 0 N a.obs.len) cs st fun _ c d => a.R z c d
def resVal {γ : Type} (t : Tel γ) (nm : Nat → Nat) (c : γ) : AV := oneOrTuple (t.cells nm c)
def resAny {Z : Type} (N : Nat) (z : Z) (v : AV) (st : St) : List (Res Z) → Prop
 | [] => False
 | [a] => resAt N a z v st
 | a :: l => resAt N a z v st ∨ resAny N z v st l
def resQ {Z : Type} (N : Nat) (bs : List Nat) (st : St) (Q : AV → St → Prop) (z : Z) : List (Res Z) → Prop
 | [] => True
 | a :: l => (∀ c d, a.R z c d →
  Q (resVal a.outs (nmX N bs st.next) c) (newL (putL (delL st (bs.drop N)) (bs.take N) ((a.obs.obs (nmX N bs st.next) d).take N)) ((a.obs.obs (nmX N bs st.next) d).drop N))) ∧ resQ N bs st Q z l
def resLt {Z : Type} (N : Nat) : List (Res Z) → Bool
 | [] => true
 | a :: l => ifb (and (Nat.ble N a.obs.len) (and (a.outs.lt a.obs.len) (a.obs.lt a.obs.len))) (resLt N l) false
def callC {α β : Type} (N : Nat) (t : Tel α) (b : BTel β) (Pre : α × β → Prop) (asl : List (Res (α × β))) : CallC := fun args st Q =>
 readCells t b (envNew b.len) args st fun bs x y => Pre (x, y) ∧ resQ N bs st Q (x, y) asl
theorem resAny_sound {Z : Type} {N : Nat} {z : Z} {v : AV} {st : St} : ∀ {asl : List (Res Z)}, resAny N z v st asl → ∃ a ∈ asl, resAt N a z v st
 | [], h => h.elim
 | [a], h => ⟨a, by simp, h⟩
 | a :: a2 :: l, h => by
  rcases (show resAt N a z v st ∨ resAny N z v st (a2 :: l) from h) with h | h
  ·exact ⟨a, by simp, h⟩
  ·obtain ⟨b, h1, h2⟩ := resAny_sound h
   exact ⟨b, List.mem_cons_of_mem _ h1, h2⟩
theorem resQ_mem {Z : Type} {N : Nat} {bs : List Nat} {st : St} {Q : AV → St → Prop} {z : Z} : ∀ {asl : List (Res Z)}, resQ N bs st Q z asl → ∀ a ∈ asl, ∀ c d, a.R z c d →
  Q (resVal a.outs (nmX N bs st.next) c) (newL (putL (delL st (bs.drop N)) (bs.take N) ((a.obs.obs (nmX N bs st.next) d).take N)) ((a.obs.obs (nmX N bs st.next) d).drop N))
 | [], _, a, h => by cases h
 | b :: l, h, a, hm => by
  rcases List.mem_cons.1 hm with rfl | hm
  ·exact h.1
  ·exact resQ_mem h.2 a hm
theorem resLt_mem {Z : Type} {N : Nat} : ∀ {asl : List (Res Z)}, resLt N asl = true → ∀ a ∈ asl, Nat.ble N a.obs.len = true ∧ a.outs.lt a.obs.len = true ∧ a.obs.lt a.obs.len = true
 | [], _, a, h => by cases h
 | b :: l, h, a, hm => by
  rw [resLt, ifb_none_iff] at h
  obtain ⟨hc, h⟩ := h
  simp only [Bool.and_eq_true] at hc
  rcases List.mem_cons.1 hm with rfl | hm
  ·exact hc
  ·exact resLt_mem h a hm
theorem one1_sound {n : Nat} {v : AV} {k : List AV → Prop} (h : one1 n v k) : ∃ cs, k cs ∧ (cs.length = n → ∀ cs' : List AV, WkL cs cs' → Wk v (oneOrTuple cs')) := by
 rcases ifp_iff.1 h with ⟨hn, h⟩ | ⟨hn, h⟩
 ·refine ⟨_, h, fun hl cs' w => ?_⟩
  match cs', w with
  | [u], w => exact w.1
 ·split at h
  ·rename_i l
   refine ⟨_, h, fun hl cs' w => ?_⟩
   have hne : cs'.length ≠ 1 := by rw [← w.length, hl]; intro e; rw [e] at hn; cases hn
   have : oneOrTuple cs' = .tuple cs' := by
    match cs' with
    | [] => rfl
    | [_] => exact absurd rfl hne
    | _ :: _ :: _ => rfl
   rw [this]
   intro ρ x hx
   cases hx with
   | tuple hx => exact .tuple (w.vrs hx)
  ·exact h.elim
theorem ren_one (τ : Nat → Nat) : ∀ l : List AV, (oneOrTuple l).ren τ = oneOrTuple (AV.rens τ l)
 | [] => rfl
 | [_] => rfl
 | _ :: _ :: _ => rfl
theorem under_one {k : Nat} : ∀ {l : List AV}, AV.unders k l → (oneOrTuple l).under k
 | [], h => h
 | [_], h => h.1
 | _ :: _ :: _, h => h
theorem call_ok_st {α β : Type} {f : FuncId} {N : Nat} {vm : Bool} {t : Tel α} {b : BTel β} {Pre : α × β → Prop} {asl : List (Res (α × β))} {gl : Tr (List AV)} {rw' : TypeId → Bool}
  (hgf : ∀ g l, gl.get g = some l → AV.frees l = true)
  (hlt : and (and (Nat.ble N b.len) (and (t.lt b.len) (b.lt b.len))) (resLt N asl) = true)
  (step : ∀ z, Pre z → ∃ v1 st1, CallS P f (t.cells id z.1) (stL vm (b.obs id z.2) gl rw') v1 st1 ∧ resAny N z v1 st1 asl)
  (args : List AV) (st : St) (Q : AV → St → Prop) (hgs : ∀ g l, gl.get g = some l → st.gl.get g = some l) (h : callC N t b Pre asl args st Q) : ∃ v st', CallS P f args st v st' ∧ Q v st' := by
 simp only [Bool.and_eq_true] at hlt
 obtain ⟨⟨hN0, ht, hb⟩, hlt⟩ := hlt
 have hN : N ≤ b.len := of_ble hN0
 obtain ⟨bs, x, y, hs, hl, _, hP, hQ⟩ := readCells_sound (show readCells t b (envNew b.len) args st _ from h)
 rw [envNew_len] at hl
 have htd : bs.take N ++ bs.drop N = bs := List.take_append_drop _ _
 obtain ⟨v1, st1, h1, h2⟩ := step (x, y) hP
 obtain ⟨a, ham, h2⟩ := resAny_sound h2
 obtain ⟨hN1, ha, hao⟩ := resLt_mem hlt a ham
 have hN' : N ≤ a.obs.len := of_ble hN1
 have hQ := resQ_mem hQ a ham
 obtain ⟨cs, h3, h4⟩ := one1_sound h2
 obtain ⟨bs', c, d, hs', hl', ho', hR⟩ := readCells_sound (show readCells a.outs a.obs (envOld 0 N a.obs.len) cs st1 _ from h3)
 rw [envOld_len] at hl'
 have ho : ∀ j, j < N → tauL bs' j = j := fun j hj => ho' j j (by have := envOld_get a.obs.len 0 N j (by omega) (by omega); rwa [Nat.zero_add] at this)
 have e' := range_tau (bs := bs') (by omega) ho
 have hcl : cs.length = a.outs.num := by rw [hs'.wk.length, rens_length, Tel.cells_len]
 have w1 : Wk v1 ((oneOrTuple (a.outs.cells id c)).ren (tauL bs')) := by rw [ren_one]; exact h4 hcl _ hs'.wk
 have atO : At N (bs'.drop N) [(0, oneOrTuple (a.outs.cells id c))] (a.obs.obs id d) (mkT [(0, v1)]) st1 := by
  refine ⟨by rw [a.obs.obs_len, List.length_drop]; omega, by rw [← e']; exact hs'.nd, fun p hp => ?_, fun i b o q1 q2 => ?_⟩
  ·simp only [List.mem_singleton] at hp
   subst hp
   rw [← e', a.obs.obs_len]
   exact ⟨⟨v1, by simp [mkT, Tr.get_set], w1⟩, under_one (Tel.underC ha c)⟩
  ·rw [← e'] at q1 ⊢
   rw [a.obs.obs_len]
   obtain ⟨o', g, w⟩ := hs'.ob i o q2
   rw [tauL_at q1] at g
   exact ⟨⟨o', g, w⟩, BTel.under hao d o (List.mem_of_getElem? q2)⟩
 have h5 : CallN P N f (t.cells id x) (stL vm (b.obs id y) gl rw') v1 st1 := h1.toN (by show N ≤ (b.obs id y).length; rw [b.obs_len]; exact hN)
 have h6 := h5.re (atO.re vm (rw' := rw') hgf) (fun _ _ h => h)
 have hbN : (bs.take N).length = N := by rw [List.length_take]; omega
 have hp : Part N (tauL bs) st (stL vm (b.obs id y) gl rw') := Part.of (fun g l h => ⟨hgs g l h, hgf g l h⟩) (by rw [hl, b.obs_len]) hs.nd fun i c o q1 q2 => by
  obtain ⟨o', g, w⟩ := hs.ob i o q2
  rw [tauL_at q1] at g
  rw [b.obs_len]
  exact ⟨⟨o', g, w⟩, BTel.under hb y o (List.mem_of_getElem? q2)⟩
 have hw := Whole.of (st := st) (vm := vm) (vm' := vm) (gl := gl) (gl' := gl) (rw' := rw') (rw2 := rw') (bs := bs.take N) (ds := bs.drop N) (os := b.obs id y) (ps := (a.obs.obs id d).take N) (ns := (a.obs.obs id d).drop N) (ps' := (a.obs.obs (nmX N bs st.next) d).take N) (ns' := (a.obs.obs (nmX N bs st.next) d).drop N)
  (by rw [hbN, List.length_take, a.obs.obs_len]; omega) (by rw [htd]; exact hs.nd) (by rw [b.obs_len, hbN, List.length_drop]; omega)
  (fun i o o' q1 q2 => by
   rw [htd, hbN]
   have hi : i < N := by
    rcases Nat.lt_or_ge i N with q | q
    ·exact q
    ·rw [List.getElem?_eq_none (by rw [List.length_take]; omega)] at q1; cases q1
   rw [List.getElem?_take_of_lt hi] at q1 q2
   exact a.obs.ren (nmX N bs st.next) d i o o' q1 q2)
  (by rw [List.length_take, List.length_take, BTel.obs_len, BTel.obs_len])
  (fun i o o' q1 q2 => by
   rw [htd, hbN]
   rw [List.getElem?_drop] at q1 q2
   exact a.obs.ren (nmX N bs st.next) d (N + i) o o' q1 q2)
  (by rw [List.length_drop, List.length_drop, BTel.obs_len, BTel.obs_len])
 rw [htd, hbN, List.take_append_drop] at hw
 refine ⟨_, _, CallN.frame h6 hp hw hs.wk ?_ ?_, hQ c d hR⟩
 ·show AV.unders (b.obs id y).length _; rw [b.obs_len]; exact Tel.underC ht x
 ·show Wk ((oneOrTuple (a.outs.cells id c)).ren (nmX N bs st.next)) (oneOrTuple (a.outs.cells (nmX N bs st.next) c))
  rw [ren_one, Tel.renC]; exact Wk.refl _
theorem call_ok_of {α β : Type} {f : FuncId} {N : Nat} {vm : Bool} {t : Tel α} {b : BTel β} {Pre : α × β → Prop} {asl : List (Res (α × β))} {rw' : TypeId → Bool}
  (hlt : and (and (Nat.ble N b.len) (and (t.lt b.len) (b.lt b.len))) (resLt N asl) = true)
  (step : ∀ z, Pre z → ∃ v1 st1, CallS P f (t.cells id z.1) (stL vm (b.obs id z.2) .leaf rw') v1 st1 ∧ resAny N z v1 st1 asl) : CcOk P f (callC N t b Pre asl) :=
 fun args st Q h => call_ok_st glLeaf hlt step args st Q glLeaf h
theorem call_ok {α β : Type} {K : Known} {n : Nat} {f : FuncId} {N : Nat} {vm : Bool} {t : Tel α} {b : BTel β} {Pre : α × β → Prop} {asl : List (Res (α × β))} {rw' : TypeId → Bool}
  (hm : P.follows .mixedOrders = true) (hK : KnownOk P K) (hlt : and (and (Nat.ble N b.len) (and (t.lt b.len) (b.lt b.len))) (resLt N asl) = true)
  (step : ∀ z, Pre z → callW P (runW P K n) f (t.cells id z.1) (stL vm (b.obs id z.2) .leaf rw') (fun v st => resAny N z v st asl)) : CcOk P f (callC N t b Pre asl) :=
 call_ok_of hlt fun z hz => CallS.of_W hm hK n (step z hz)
end Go.Det
namespace Go.Det
variable {P : Program}
theorem freesC {α : Type} {t : Tel α} (h : t.lt 0 = true) (a : α) : AV.frees (t.cells id a) = true := by
 induction t with
 | nil => rfl
 | cons i s t ih =>
  obtain ⟨x, y⟩ := a
  simp only [Tel.lt, ifb_eq] at h
  split at h
  ·rename_i c
   simp only [Tel.cells, AV.frees]
   have : AV.free (s.av id x) = true := by
    cases s with
    | own E j => cases c
    | ptr j => cases c
    | yld j => cases c
    | sl j e => cases c
    | slq j e => cases c
    | mapr j => cases c
    | fnp f js =>
     cases js with
     | nil => rfl
     | cons j js => cases c
    | fnb f js =>
     cases js with
     | nil => rfl
     | cons j js => cases c
    | lst E => exact lst_free E x
    | agg E => show AV.frees (E.f x) = true; exact E.free x
    | aggW E => show AV.frees (E.f x) = true; exact E.free x
    | con v h => exact h
    | _ => rfl
   rw [this, ifb_true]; exact ih h y
  ·cases h
theorem cc_nil : ∀ p ∈ ([] : List (Nat × CallC)), CcOk P p.1 p.2 := fun p h => by cases h
theorem cc_cons {f : Nat} {C : CallC} {l : List (Nat × CallC)} (h : CcOk P f C) (t : ∀ p ∈ l, CcOk P p.1 p.2) : ∀ p ∈ (f, C) :: l, CcOk P p.1 p.2 := fun p hp => by
 rcases List.mem_cons.1 hp with rfl | hp
 ·exact h
 ·exact t p hp
end Go.Det
namespace Go.Det
noncomputable def findRange (id : Nat) : Code → Option (Code × Code)
 | .seq a b => Option.rec (findRange id b) (fun c => some c) (findRange id a)
 | .cond _ a b => Option.rec (findRange id b) (fun c => some c) (findRange id a)
 | .block _ b => findRange id b
 | .scope b => findRange id b
 | .loop b => findRange id b
 | .rangeFunc _ _ asl b => Bool.rec (findRange id b) (some (asl, b)) (Nat.beq (firstReg b) id)
 | _ => none
noncomputable def rangeAt (P : Program) (fn : FuncId) (id : Nat) : Code × Code := Option.rec (.skip, .skip) (fun f => Option.rec (.skip, .skip) (fun c => Option.rec (.skip, .skip) (fun b => b) (findRange id c)) f.body) P.funcs[fn]?
noncomputable def rangeAs (P : Program) (fn : FuncId) (id : Nat) : Code := (rangeAt P fn id).1
noncomputable def rangeBody (P : Program) (fn : FuncId) (id : Nat) : Code := (rangeAt P fn id).2
end Go.Det
namespace Go.Det
variable {P : Program}
noncomputable def KLS (cs : List (Nat × CallC)) (ls : List (Nat × List (Nat × LoopC))) (t : TypeId) : Known := { tab := lookL cs, lp := fun f id => ob (lookL ls f) fun l => lookL l id, sym := fun u => Nat.beq u t }
theorem KLS_ok {cs : List (Nat × CallC)} {ls : List (Nat × List (Nat × LoopC))} {t : TypeId} (h : ∀ p ∈ cs, CcOk P p.1 p.2) : KnownOk P (KLS cs ls t) := fun f C args st Q hC hr => h (f, C) (lookL_mem hC) args st Q hr
noncomputable def KLX (cs : List (Nat × CallC)) (ls : List (Nat × List (Nat × LoopC))) (ts : List TypeId) (rs qs : List (Nat × List Nat)) : Known :=
  { tab := lookL cs, lp := fun f id => ob (lookL ls f) fun l => lookL l id, sym := fun u => hasT u ts, eqAt := fun f i => Option.rec false (fun l => hasT i l) (lookL rs f), neAt := fun f i => Option.rec false (fun l => hasT i l) (lookL qs f) }
theorem KLX_ok {cs : List (Nat × CallC)} {ls : List (Nat × List (Nat × LoopC))} {ts : List TypeId} {rs qs : List (Nat × List Nat)} (h : ∀ p ∈ cs, CcOk P p.1 p.2) : KnownOk P (KLX cs ls ts rs qs) := fun f C args st Q hC hr => h (f, C) (lookL_mem hC) args st Q hr
end Go.Det
end
namespace Go.Det
theorem natOf_nat (k : Nat) : natOf (k : Int) = k := rfl
theorem w64 {z : Int} (h1 : -9223372036854775808 ≤ z) (h2 : z < 9223372036854775808) : wrapF .i64 z = z := wr64 h1 h2
theorem w32 {z : Int} (h1 : -2147483648 ≤ z) (h2 : z < 2147483648) : wrapF .i32 z = z := by
 rw [wrapF_eq]
 show (if (true && decide (z % 4294967296 ≥ 2147483648)) = true then z % 4294967296 - 4294967296 else z % 4294967296) = z
 rw [Bool.true_and]
 by_cases h : z % 4294967296 ≥ 2147483648
 ·rw [if_pos (decide_eq_true h)]; omega
 ·rw [if_neg (by rw [decide_eq_false h]; simp)]; omega
theorem wu64 {z : Int} (h1 : 0 ≤ z) (h2 : z < 18446744073709551616) : wrapF .u64 z = z := by
 rw [wrapF_eq]
 show (if (false && decide (z % 18446744073709551616 ≥ 9223372036854775808)) = true then z % 18446744073709551616 - 18446744073709551616 else z % 18446744073709551616) = z
 rw [Bool.false_and, if_neg (by simp)]; omega
theorem wsucc {k : Nat} (h : k < 9223372036854775807) : wrapF .i64 (Int.add (k : Int) 1) = ((k + 1 : Nat) : Int) := by
 rw [w64 (by show _ ≤ (k : Int) + 1; omega) (by show (k : Int) + 1 < _; omega)]; rfl
theorem idx_ok {k n : Nat} (h : k < n) : idxOk (k : Int) n := ⟨Int.natCast_nonneg k, by omega⟩
theorem idx_ok0 {n : Nat} (h : 0 < n) : idxOk 0 n := ⟨by decide, by omega⟩
theorem nth_enc {α : Type} {E : Enc α} (he : E.e = 1) : ∀ {l : List α} {k : Nat} (h : k < l.length), nth k (l.flatMap E.f) = nth 0 (E.f l[k])
 | a :: l, 0, h => by
  rw [List.flatMap_cons, nth_eq, nth_eq]
  have := E.len a
  rw [List.getElem?_append_left (by omega)]; rfl
 | a :: l, k + 1, h => by
  have h1 := E.len a
  rw [List.flatMap_cons, nth_eq, List.getElem?_append_right (by omega), h1, he, ← nth_eq]
  exact nth_enc he (l := l) (k := k) (by simpa using h)
theorem nth_int {q : IntKind} {l : List Int} {k : Nat} (h : k < l.length) : nth (Nat.mul k 1) (l.flatMap (Enc.int q).f) = some (.int q l[k]) := by
 rw [show Nat.mul k 1 = k from Nat.mul_one k]; exact nth_enc (E := Enc.int q) rfl h
theorem nth_lst {α : Type} {E : Enc α} {l : List (List α)} {k : Nat} (h : k < l.length) : nth (Nat.mul k 1) (l.flatMap (Enc.list E).f) = some (lst E l[k]) := by
 rw [show Nat.mul k 1 = k from Nat.mul_one k]; exact nth_enc (E := Enc.list E) rfl h
theorem nth_lst0 {α : Type} {E : Enc α} {l : List (List α)} (h : 0 < l.length) : nth 0 (l.flatMap (Enc.list E).f) = some (lst E l[0]) := nth_enc (E := Enc.list E) rfl h
theorem any_take_succ {α : Type} {p : α → Bool} {l : List α} {k : Nat} (h : k < l.length) : (l.take (k + 1)).any p = ((l.take k).any p || p l[k]) := by
 rw [← List.take_append_getElem h, List.any_append]; simp
theorem all_take_succ {α : Type} {p : α → Bool} {l : List α} {k : Nat} (h : k < l.length) : (l.take (k + 1)).all p = ((l.take k).all p && p l[k]) := by
 rw [← List.take_append_getElem h, List.all_append]; simp
theorem any_of_get {α : Type} {p : α → Bool} {l : List α} {k : Nat} (h : k < l.length) (hp : p l[k] = true) : l.any p = true := List.any_eq_true.2 ⟨_, List.getElem_mem h, hp⟩
theorem all_of_get {α : Type} {p : α → Bool} {l : List α} {k : Nat} (h : k < l.length) (hp : p l[k] = false) : l.all p = false := by
 rw [← Bool.not_eq_true, List.all_eq_true]; intro q; rw [q _ (List.getElem_mem h)] at hp; cases hp
theorem ifp_lt {a b : Int} {x y : Prop} : ifp (!leInt b a) x y = if a < b then x else y := by
 rw [ifp_nle]; by_cases h : b ≤ a
 ·rw [if_pos h, if_neg (by omega)]
 ·rw [if_neg h, if_pos (by omega)]
theorem tells_int {q : IntKind} {a b : Int} (h : a = b) : Tells (.int q a) (.int q b) := by subst h; exact tells_free rfl rfl
theorem tells_bool {a b : Bool} (h : a = b) : Tells (.bool a) (.bool b) := by subst h; exact tells_free rfl rfl
theorem take_all {α : Type} {l : List α} {k : Nat} (h : ¬ k < l.length) : l.take k = l := List.take_of_length_le (by omega)
theorem drop_get {α : Type} {l : List α} {k : Nat} (h : k < l.length) : l.drop k = l[k] :: l.drop (k + 1) := List.drop_eq_getElem_cons h
theorem ifp_pos {b : Bool} {x y : Prop} (h : b = true) : ifp b x y = x := by subst h; rfl
theorem ifp_neg {b : Bool} {x y : Prop} (h : b = false) : ifp b x y = y := by subst h; rfl
theorem roomy_small {n b : Nat} (h : n ≤ 1000000000) (hb : b ≤ 100) : roomy n b = true := by
 refine ble_t ?_
 have : (2 * n + 1024) * (b + 1) ≤ 2000001024 * 101 := Nat.mul_le_mul (by omega) (by omega)
 show (2 * n + 1024) * (b + 1) ≤ 70368744177664
 omega
theorem fdrop1 {α : Type} {E : Enc α} (he : E.e = 1) : ∀ (l : List α) (k : Nat), (l.flatMap E.f).drop k = (l.drop k).flatMap E.f
 | [], k => by simp
 | a :: l, 0 => rfl
 | a :: l, k + 1 => by
  have h1 := E.len a
  rw [List.flatMap_cons, List.drop_append, h1, he, List.drop_of_length_le (by rw [h1, he]; omega), List.nil_append, show k + 1 - 1 = k by omega, fdrop1 he l k]; rfl
theorem ftake1 {α : Type} {E : Enc α} (he : E.e = 1) : ∀ (l : List α) (k : Nat), (l.flatMap E.f).take k = (l.take k).flatMap E.f
 | [], k => by simp
 | a :: l, 0 => rfl
 | a :: l, k + 1 => by
  have h1 := E.len a
  rw [List.flatMap_cons, List.take_append, h1, he, List.take_of_length_le (by rw [h1, he]; omega), show k + 1 - 1 = k by omega, ftake1 he l k]; rfl
theorem setAt_app {α : Type} {E : Enc α} (he : E.e = 1) {l m : List α} {k : Nat} (h : k + m.length ≤ l.length) : setAt k (m.flatMap E.f) (l.flatMap E.f) = (l.take k ++ m ++ l.drop (k + m.length)).flatMap E.f := by
 rw [setAt, ftake1 he, E.flen, he, Nat.mul_one, fdrop1 he, List.flatMap_append, List.flatMap_append]
theorem repl_enc {α : Type} {E : Enc α} {x : α} : ∀ n : Nat, repl n (E.f x) = (List.replicate n x).flatMap E.f
 | 0 => rfl
 | n + 1 => by rw [List.replicate_succ, List.flatMap_cons, ← repl_enc n]; rfl
theorem WkL.app : ∀ {a a' b b' : List AV}, WkL a a' → WkL b b' → WkL (a ++ b) (a' ++ b')
 | [], [], _, _, _, h => h
 | _ :: _, _ :: _, _, _, ⟨h, t⟩, h' => ⟨h, WkL.app t h'⟩
 | [], _ :: _, _, _, h, _ => h.elim
 | _ :: _, [], _, _, h, _ => h.elim
theorem wkl_snoc {α : Type} {E : Enc α} {l : List α} {x : α} {cs : List AV} (h : WkL cs (E.f x)) : WkL (l.flatMap E.f ++ cs) ((l ++ [x]).flatMap E.f) := by
 rw [List.flatMap_append]; exact WkL.app (WkL.refl _) (by simpa using h)
theorem wkl_one {α : Type} {E : Enc α} {x : α} {cs : List AV} (h : WkL cs (E.f x)) : WkL cs (([x] : List α).flatMap E.f) := by simpa using h
theorem wkl_app {α : Type} {E : Enc α} {l m : List α} : WkL (l.flatMap E.f ++ m.flatMap E.f) ((l ++ m).flatMap E.f) := by rw [List.flatMap_append]; exact WkL.refl _
theorem len_snoc {α : Type} {l : List α} {x : α} : Nat.add l.length 1 = (l ++ [x]).length := by simp
theorem len_app {α : Type} {l m : List α} : Nat.add l.length m.length = (l ++ m).length := by simp
theorem wk_of_own {α : Type} {E : Enc α} {l : List α} {b : Nat} : Wk (own E l b) (lst E l) := wk_vs ⟨rfl, rfl, rfl⟩
end Go.Det
namespace Go.Det
open Go.RowKit
variable {P : Program}
def Enc.unit : Enc Unit := ⟨fun _ => [], 0, fun _ => rfl, fun _ => rfl, fun _ => rfl, fun _ => rfl⟩
def Enc.bool : Enc Bool := ⟨fun b => [.bool b], 1, fun _ => rfl, fun _ => rfl, fun _ => rfl, fun _ => rfl⟩
def Enc.str : Enc ByteArray := ⟨fun b => [.str b], 1, fun _ => rfl, fun _ => rfl, fun _ => rfl, fun _ => rfl⟩
def Enc.pair {α β : Type} (E : Enc α) (F : Enc β) : Enc (α × β) :=
 ⟨fun x => E.f x.1 ++ F.f x.2, Nat.add E.e F.e, fun x => by rw [List.length_append, E.len, F.len]; rfl, fun x => allScalar_append (E.scal _) (F.scal _), fun x => frees_append (E.free _) (F.free _), fun x => by rw [drops_append, E.drop, F.drop]⟩
def Sh.Pl : Sh → Type
 | .int _ => Int
 | .bool => Bool
 | .str => ByteArray
 | .slice s => List s.Pl
 | .fnil => Unit
 | .fcons s r => s.Pl × r.Pl
def Sh.enc : (s : Sh) → Enc s.Pl
 | .int k => Enc.int k
 | .bool => Enc.bool
 | .str => Enc.str
 | .slice s => Enc.list s.enc
 | .fnil => Enc.unit
 | .fcons s r => Enc.pair s.enc r.enc
def Sh.pl : (s : Sh) → s.V → s.Pl
 | .int _, x => x
 | .bool, x => x
 | .str, x => x
 | .slice s, x => (SliceV.list x).map s.pl
 | .fnil, _ => ()
 | .fcons s r, x => (s.pl x.1, r.pl x.2)
def Sh.plOk : (s : Sh) → s.Pl → Prop
 | .int k, x => (Lit.int k x).wf = true
 | .bool, _ => True
 | .str, x => x.size ≤ maxLen
 | .slice s, (x : List s.Pl) => (∀ b ∈ x, s.plOk b) ∧ x.length ≤ maxLen
 | .fnil, _ => True
 | .fcons s r, x => s.plOk x.1 ∧ r.plOk x.2
theorem Sh.enc_e : ∀ s : Sh, s.enc.e = s.size
 | .int _ => rfl
 | .bool => rfl
 | .str => rfl
 | .slice s => rfl
 | .fnil => rfl
 | .fcons s r => by show Nat.add _ _ = _; rw [Sh.enc_e s, Sh.enc_e r]; rfl
theorem WkL.append : ∀ {a a' b b' : List AV}, WkL a a' → WkL b b' → WkL (a ++ b) (a' ++ b')
 | [], [], _, _, _, h => h
 | _ :: _, _ :: _, _, _, ⟨h, t⟩, h' => ⟨h, WkL.append t h'⟩
 | [], _ :: _, _, _, h, _ => h.elim
 | _ :: _, [], _, _, h, _ => h.elim
theorem wk_vsL {α : Type} {E : Enc α} {l : List α} {cs : List AV} {n c e : Nat} {x : Bool} {w : Option Nat} (h : WkL cs (l.flatMap E.f)) (hn : n = l.length) (he : e = E.e) : Wk (.vs cs n c x w e) (lst E l) := by
 subst he
 intro ρ v hv
 unfold lst
 cases hv with
 | vs g hs hl h1 h2 h3 h4 h5 =>
  rw [← hn]
  exact VR.vs (h.vrs g) (E.fscal l) (by rw [E.flen, hn]) (Nat.le_refl _) (by omega) (fun h => by cases h) h4 (fun b hb => by cases hb)
 | vsNil =>
  have hl : l = [] := List.length_eq_zero_iff.1 hn.symm
  subst hl
  exact .vsNil
theorem Sh.wk : ∀ (s : Sh) (x : s.V), WkL (s.cells x) (s.enc.f (s.pl x))
 | .int k, x => ⟨Wk.refl _, trivial⟩
 | .bool, x => ⟨Wk.refl _, trivial⟩
 | .str, x => ⟨Wk.refl _, trivial⟩
 | .slice s, x => by
  refine ⟨?_, trivial⟩
  show Wk (SliceV.av s.cells s.size x) (lst s.enc ((SliceV.list x).map s.pl))
  have key : ∀ l : List s.V, WkL (l.flatMap s.cells) ((l.map s.pl).flatMap s.enc.f) := by
   intro l
   induction l with
   | nil => exact trivial
   | cons a l ih => simp only [List.flatMap_cons, List.map_cons]; exact WkL.append (Sh.wk s a) ih
  cases x with
  | nil => exact wk_vsL (l := []) trivial rfl (Sh.enc_e s).symm
  | mk l cap => exact wk_vsL (key l) (by simp [SliceV.list]) (Sh.enc_e s).symm
 | .fnil, x => trivial
 | .fcons s r, x => WkL.append (Sh.wk s x.1) (Sh.wk r x.2)
theorem Sh.pl_ok : ∀ (s : Sh) (x : s.V), s.ok x → s.plOk (s.pl x)
 | .int k, x, h => h
 | .bool, x, h => trivial
 | .str, x, h => h
 | .slice s, x, h => by
  cases x with
  | nil => exact ⟨fun b hb => by simp [Sh.pl, SliceV.list] at hb, by simp [Sh.pl, SliceV.list]⟩
  | mk l cap =>
   obtain ⟨h1, h2, h3⟩ := h
   refine ⟨fun b hb => ?_, by show (List.map s.pl l).length ≤ _; rw [List.length_map]; omega⟩
   obtain ⟨a, ha, rfl⟩ := List.mem_map.1 (show b ∈ l.map s.pl from hb)
   exact Sh.pl_ok s a (h1 a ha)
 | .fnil, x, h => trivial
 | .fcons s r, x, h => ⟨Sh.pl_ok s x.1 h.1, Sh.pl_ok r x.2 h.2⟩
def Sh.plAv : (s : Sh) → s.Pl → AV
 | .int k, x => .int k x
 | .bool, x => .bool x
 | .str, x => .str x
 | .slice s, x => lst s.enc x
 | .fnil, _ => .agg []
 | .fcons s r, x => .agg ((Sh.fcons s r).enc.f x)
theorem Sh.wkAv (s : Sh) (x : s.V) : Wk (s.av x) (s.plAv (s.pl x)) := by
 cases s with
 | int k => exact Wk.refl _
 | bool => exact Wk.refl _
 | str => exact Wk.refl _
 | slice s => exact (Sh.wk (.slice s) x).1
 | fnil => exact Wk.refl _
 | fcons s r => exact wk_agg (Sh.wk (.fcons s r) x)
def ShPls : List Sh → Type
 | [] => Unit
 | s :: l => s.Pl × ShPls l
def ShPl : (l : List Sh) → ShVs l → ShPls l
 | [], _ => ()
 | s :: l, x => (s.pl x.1, ShPl l x.2)
def ShPlAvs : (l : List Sh) → ShPls l → List AV
 | [], _ => []
 | s :: l, x => s.plAv x.1 :: ShPlAvs l x.2
def ShPlOks : (l : List Sh) → ShPls l → Prop
 | [], _ => True
 | s :: l, x => s.plOk x.1 ∧ ShPlOks l x.2
theorem ShPl_wk : ∀ (l : List Sh) (x : ShVs l), WkL (ShAvs l x) (ShPlAvs l (ShPl l x))
 | [], _ => trivial
 | s :: l, x => ⟨s.wkAv x.1, ShPl_wk l x.2⟩
theorem ShPl_ok : ∀ (l : List Sh) (x : ShVs l), ShOks l x → ShPlOks l (ShPl l x)
 | [], _, _ => trivial
 | s :: l, x, h => ⟨s.pl_ok x.1 h.1, ShPl_ok l x.2 h.2⟩
theorem law_plain (hm : P.follows .mixedOrders = true) {K : Known} (hK : KnownOk P K) {n f : Nat} {shapes : List Sh} {b : Bool} (h : ∀ y : ShPls shapes, ShPlOks shapes y → callW P (runW P K n) f (ShPlAvs shapes y) (stB b) fun v _ => yesQ v)
  {x : ShVs shapes} (hx : ShOks shapes x) {w : World} {args' : List Value} (hA : VRs (frozenAll w) (ShAvs shapes x) args') :
  Calls P f ⟨args'⟩ w fun e w' => e = .returned (.bool true) ∧ Below w.heap.size w w' :=
 law_W hm hK (h _ (ShPl_ok shapes x hx)) ((ShPl_wk shapes x).vrs hA)
theorem wf_i64 {x : Int} (h : (Lit.int .i64 x).wf = true) : -9223372036854775808 ≤ x ∧ x < 9223372036854775808 := by
 simp [Lit.wf] at h
 have h1 : (-9223372036854775808 : Int) ≤ x := h.1
 omega
end Go.Det
namespace Go.Det
open Go.RowKit Go.Sort Go.Proofs
variable {P : Program}
section
variable {α : Type} [Inhabited α] {E : Enc α} {g : α → List Value}
structure Sorts (P : Program) (fs fc : FuncId) (E : Enc α) (g : α → List Value) (cf : α → α → Int) : Prop where
 to : ∀ ρ x, VRs ρ (E.f x) (g x)
 from' : ∀ ρ x l, VRs ρ (E.f x) l → l = g x
 enter : ∀ (X : Array Value) (w : World), (callFunc fs X).run P w = .ok (.enter fs X) w
 val : ∀ x y, Val P fc [.agg (E.f x), .agg (E.f y)] (.int .i64 (cf x y))
 some' : ∀ (blk off cap : Nat) (d : Array α) (w : World), CmpLays P fc #[] g E.e cf blk off d.size w → HoldsK g E.e w blk off d → blk < w.heap.size → d.size < 4611686018427387904 →
   Calls P fs #[.slice (some ⟨blk, off, none⟩) d.size cap, .func (.func fc) #[] #[]] w fun e w' => e = .returned (.tuple #[]) ∧ ∃ n os, w' = sortWorldK g E.e w blk off n (d.toList.mergeSort fun x y => !(ltOf cf) y x).toArray os
 none' : ∀ (p : Option Addr) (cap : Nat) (fv : Value) (w : World), Calls P fs #[.slice p 0 cap, fv] w fun e w' => e = .returned (.tuple #[]) ∧ w' = w
end
def orL (A B : LoopC) : LoopC := fun ro nt T D st Q => A ro nt T D st Q ∨ B ro nt T D st Q
theorem orL_ok {fn : FuncId} {nt : Nat} {c : Code} {A B : LoopC} (h : LoopOk P fn nt c A) (h' : LoopOk P fn nt c B) : LoopOk P fn nt c (orL A B) := fun ro T D st Q hQ => by
 rcases hQ with hQ | hQ
 ·exact h ro T D st Q hQ
 ·exact h' ro T D st Q hQ
end Go.Det
namespace Go.Det
abbrev I64 (x : Int) : AV := .int .i64 x
abbrev Sa {α : Type} (E : Enc α) (a b : List α) : Prop := a.flatMap E.f = b.flatMap E.f
abbrev Ow {α : Type} (E : Enc α) (a b : List α) (n : Nat) : Prop := WkL (a.flatMap E.f) (b.flatMap E.f) ∧ a.length = b.length ∧ n = n
abbrev Wv {α : Type} (E : Enc α) (a b : List α) : Prop := Wk (lst E a) (lst E b)
abbrev Nt {α : Type} (E : Enc α) (k e j : Nat) (l : List α) (x : Int) : Prop := nth ((k.mul e).add j) (l.flatMap E.f) = some (.int .i64 x)
abbrev Ag2 {β : Type} (x y : Int) (a : Int × Int × β) : Prop := AV.agg [.int .i64 x, .int .i64 y] = AV.agg [.int .i64 a.1, .int .i64 a.2.1]
abbrev Ag4 {β : Type} (x y z w : Int) (a : Int × Int × Int × Int × β) : Prop := AV.agg [.int .i64 x, .int .i64 y, .int .i64 z, .int .i64 w] = AV.agg [.int .i64 a.1, .int .i64 a.2.1, .int .i64 a.2.2.1, .int .i64 a.2.2.2.1]
abbrev T3 (p : Prop) : Prop := True ∧ True ∧ True ∧ p
abbrev T4 (p : Prop) : Prop := True ∧ True ∧ True ∧ True ∧ p
abbrev T5 (p : Prop) : Prop := True ∧ True ∧ True ∧ True ∧ True ∧ p
abbrev T6 (p : Prop) : Prop := True ∧ True ∧ True ∧ True ∧ True ∧ True ∧ p
abbrev T7 (p : Prop) : Prop := True ∧ True ∧ True ∧ True ∧ True ∧ True ∧ True ∧ p
abbrev T8 (p : Prop) : Prop := True ∧ True ∧ True ∧ True ∧ True ∧ True ∧ True ∧ True ∧ p
abbrev T9 (p : Prop) : Prop := True ∧ True ∧ True ∧ True ∧ True ∧ True ∧ True ∧ True ∧ True ∧ p
abbrev T10 (p : Prop) : Prop := True ∧ True ∧ True ∧ True ∧ True ∧ True ∧ True ∧ True ∧ True ∧ True ∧ p
abbrev T11 (p : Prop) : Prop := True ∧ True ∧ True ∧ True ∧ True ∧ True ∧ True ∧ True ∧ True ∧ True ∧ True ∧ p
abbrev T12 (p : Prop) : Prop := True ∧ True ∧ True ∧ True ∧ True ∧ True ∧ True ∧ True ∧ True ∧ True ∧ True ∧ True ∧ p
abbrev T13 (p : Prop) : Prop := True ∧ True ∧ True ∧ True ∧ True ∧ True ∧ True ∧ True ∧ True ∧ True ∧ True ∧ True ∧ True ∧ p
abbrev T14 (p : Prop) : Prop := True ∧ True ∧ True ∧ True ∧ True ∧ True ∧ True ∧ True ∧ True ∧ True ∧ True ∧ True ∧ True ∧ True ∧ p
abbrev T15 (p : Prop) : Prop := True ∧ True ∧ True ∧ True ∧ True ∧ True ∧ True ∧ True ∧ True ∧ True ∧ True ∧ True ∧ True ∧ True ∧ True ∧ p
abbrev T16 (p : Prop) : Prop := True ∧ True ∧ True ∧ True ∧ True ∧ True ∧ True ∧ True ∧ True ∧ True ∧ True ∧ True ∧ True ∧ True ∧ True ∧ True ∧ p
abbrev T17 (p : Prop) : Prop := True ∧ True ∧ True ∧ True ∧ True ∧ True ∧ True ∧ True ∧ True ∧ True ∧ True ∧ True ∧ True ∧ True ∧ True ∧ True ∧ True ∧ p
abbrev T18 (p : Prop) : Prop := True ∧ True ∧ True ∧ True ∧ True ∧ True ∧ True ∧ True ∧ True ∧ True ∧ True ∧ True ∧ True ∧ True ∧ True ∧ True ∧ True ∧ True ∧ p
abbrev T19 (p : Prop) : Prop := True ∧ True ∧ True ∧ True ∧ True ∧ True ∧ True ∧ True ∧ True ∧ True ∧ True ∧ True ∧ True ∧ True ∧ True ∧ True ∧ True ∧ True ∧ True ∧ p
abbrev T20 (p : Prop) : Prop := True ∧ True ∧ True ∧ True ∧ True ∧ True ∧ True ∧ True ∧ True ∧ True ∧ True ∧ True ∧ True ∧ True ∧ True ∧ True ∧ True ∧ True ∧ True ∧ True ∧ p
noncomputable abbrev Tel.ji {β : Type} (i : Nat) (t : Tel β) : Tel (Int × β) := .cons i (.int .i64) t
end Go.Det
