/- Contracts of functions made of shapes; that they hold. -/
import Derived.Test.YteehkdejkemnmabDoorDvGen2
set_option linter.unusedVariables false
set_option linter.unusedSimpArgs false
noncomputable section
namespace Go.Det
variable {P : Program}

/-! Functions of values. -/
def valC {α : Type} (t : Tel α) (Pre : α → Prop) (res : α → AV) : CallC := fun args st Q => t.readC st args [] fun x _ => Pre x ∧ Q (res x) st
theorem cells_ren0 {α : Type} {t : Tel α} (h : t.lt 0 = true) (nm : Nat → Nat) (a : α) : t.cells nm a = t.cells id a := by
  induction t with
  | nil => rfl
  | cons i s t ih =>
    obtain ⟨x, y⟩ := a
    simp only [Tel.lt, ifb_eq] at h
    split at h
    · rename_i c
      simp only [Tel.cells, ih h y]
      congr 1
      cases s with
      | own E j => cases c
      | ptr j => cases c
      | yld j => cases c
      | sl j e => cases c
      | slq j e => cases c
      | mapr j => cases c
      | fnp f js =>
        cases js with
        | nil => rfl
        | cons j js => cases c
      | _ => rfl
    · cases h
theorem val_ok {α : Type} {f : FuncId} {t : Tel α} {Pre : α → Prop} {res : α → AV} (ht : t.lt 0 = true) (h : ∀ x, Pre x → Val P f (t.cells id x) (res x)) : CcOk P f (valC t Pre res) := by
  intro args st Q hQ
  obtain ⟨x, e, _, w, hp, hq⟩ := Tel.readC_sound (show t.readC st args [] _ from hQ)
  exact ⟨_, st, (h x hp).wk (by have := w e (Ext.refl _); rwa [cells_ren0 ht] at this) st, hq⟩

/-! Functions that touch blocks. -/
def one1 (n : Nat) (v : AV) (k : List AV → Prop) : Prop :=
  ifp (Nat.beq n 1) (k [v]) (match v with | .tuple l => k l | _ => False)
def Tel.num {α : Type} (t : Tel α) : Nat :=
  match t with
  | .nil => 0
  | .cons _ _ t => Nat.succ t.num
theorem Tel.cells_len {α : Type} (t : Tel α) (nm : Nat → Nat) : ∀ a : α, (t.cells nm a).length = t.num := by
  induction t with
  | nil => intro a; rfl
  | cons i s t ih => intro ⟨x, y⟩; simp only [Tel.cells, List.length_cons, ih y, Tel.num, Nat.succ_eq_add_one]
def readCells {α β : Type} (t : Tel α) (b : BTel β) (env : Env) (cs : List AV) (st : St) (k : List Nat → α → β → Prop) : Prop :=
  t.readC st cs env fun x env => b.read st 0 env fun y env => obW (allSome env) fun bs => distinct bs ∧ k bs x y
structure SeenC {α β : Type} (t : Tel α) (b : BTel β) (cs : List AV) (st : St) (bs : List Nat) (x : α) (y : β) : Prop where
  nd : bs.Nodup
  wk : WkL cs (AV.rens (tauL bs) (t.cells id x))
  ob : ∀ (i : Nat) (o : Ob), (b.obs id y)[i]? = some o → ∃ o', st.heap.get (tauL bs i) = some o' ∧ WkO o' (o.ren (tauL bs))
theorem readCells_sound {α β : Type} {t : Tel α} {b : BTel β} {env : Env} {cs : List AV} {st : St} {k : List Nat → α → β → Prop} (h : readCells t b env cs st k) :
    ∃ bs x y, SeenC t b cs st bs x y ∧ bs.length = env.length ∧ (∀ j c, envGet env j = some c → tauL bs j = c) ∧ k bs x y := by
  obtain ⟨x, e1, x1, w1, h⟩ := Tel.readC_sound (show t.readC st cs env _ from h)
  obtain ⟨y, e2, x2, w2, h⟩ := BTel.read_sound h
  obtain ⟨bs, hb, hd, h⟩ := obW_iff.1 h
  obtain ⟨hl, hn⟩ := allSome_get hb
  have hfun : nmOf e2 = tauL bs := funext hn
  refine ⟨bs, x, y, ⟨hd.nodup, ?_, fun i o ho => ?_⟩, hl.trans (x1.trans x2).1, fun j c hc => ?_, h⟩
  · have := w1 e2 x2
    rwa [hfun, ← Tel.renC] at this
  · have := w2 e2 (Ext.refl _) i o ho
    rw [Nat.zero_add, hfun] at this; exact this
  · rw [← hn j]; exact nmOf_at hc (x1.trans x2)

/-- What a call answers: its values, its blocks (the first N under their own names, the others new). -/
structure Res (Z : Type) where
  γ : Type
  δ : Type
  outs : Tel γ
  obs : BTel δ
  R : Z → γ → δ → Prop
def resAt {Z : Type} (N : Nat) (a : Res Z) (z : Z) (v : AV) (st : St) : Prop :=
  one1 a.outs.num v fun cs => readCells a.outs a.obs (envOld 0 N a.obs.len) cs st fun _ c d => a.R z c d
def resVal {γ : Type} (t : Tel γ) (nm : Nat → Nat) (c : γ) : AV := oneOrTuple (t.cells nm c)
def resAny {Z : Type} (N : Nat) (z : Z) (v : AV) (st : St) : List (Res Z) → Prop
  | [] => False
  | [a] => resAt N a z v st
  | a :: l => resAt N a z v st ∨ resAny N z v st l
def resQ {Z : Type} (N : Nat) (bs : List Nat) (st : St) (Q : AV → St → Prop) (z : Z) : List (Res Z) → Prop
  | [] => True
  | a :: l => (∀ c d, a.R z c d →
    Q (resVal a.outs (nmX N bs st.next) c) (newL (putL (delL st (bs.drop N)) (bs.take N) ((a.obs.obs (nmX N bs st.next) d).take N)) ((a.obs.obs (nmX N bs st.next) d).drop N))) ∧ resQ N bs st Q z l
def resLt {Z : Type} (N : Nat) : List (Res Z) → Bool
  | [] => true
  | a :: l => ifb (and (Nat.ble N a.obs.len) (and (a.outs.lt a.obs.len) (a.obs.lt a.obs.len))) (resLt N l) false
def callC {α β : Type} (N : Nat) (t : Tel α) (b : BTel β) (Pre : α × β → Prop) (as : List (Res (α × β))) : CallC := fun args st Q =>
  readCells t b (envNew b.len) args st fun bs x y => Pre (x, y) ∧ resQ N bs st Q (x, y) as
theorem resAny_sound {Z : Type} {N : Nat} {z : Z} {v : AV} {st : St} : ∀ {as : List (Res Z)}, resAny N z v st as → ∃ a ∈ as, resAt N a z v st
  | [], h => h.elim
  | [a], h => ⟨a, by simp, h⟩
  | a :: a2 :: l, h => by
    rcases (show resAt N a z v st ∨ resAny N z v st (a2 :: l) from h) with h | h
    · exact ⟨a, by simp, h⟩
    · obtain ⟨b, h1, h2⟩ := resAny_sound h
      exact ⟨b, List.mem_cons_of_mem _ h1, h2⟩
theorem resQ_mem {Z : Type} {N : Nat} {bs : List Nat} {st : St} {Q : AV → St → Prop} {z : Z} : ∀ {as : List (Res Z)}, resQ N bs st Q z as → ∀ a ∈ as, ∀ c d, a.R z c d →
    Q (resVal a.outs (nmX N bs st.next) c) (newL (putL (delL st (bs.drop N)) (bs.take N) ((a.obs.obs (nmX N bs st.next) d).take N)) ((a.obs.obs (nmX N bs st.next) d).drop N))
  | [], _, a, h => by cases h
  | b :: l, h, a, hm => by
    rcases List.mem_cons.1 hm with rfl | hm
    · exact h.1
    · exact resQ_mem h.2 a hm
theorem resLt_mem {Z : Type} {N : Nat} : ∀ {as : List (Res Z)}, resLt N as = true → ∀ a ∈ as, Nat.ble N a.obs.len = true ∧ a.outs.lt a.obs.len = true ∧ a.obs.lt a.obs.len = true
  | [], _, a, h => by cases h
  | b :: l, h, a, hm => by
    rw [resLt, ifb_none_iff] at h
    obtain ⟨hc, h⟩ := h
    simp only [Bool.and_eq_true] at hc
    rcases List.mem_cons.1 hm with rfl | hm
    · exact hc
    · exact resLt_mem h a hm
theorem one1_sound {n : Nat} {v : AV} {k : List AV → Prop} (h : one1 n v k) : ∃ cs, k cs ∧ (cs.length = n → ∀ cs' : List AV, WkL cs cs' → Wk v (oneOrTuple cs')) := by
  rcases ifp_iff.1 h with ⟨hn, h⟩ | ⟨hn, h⟩
  · refine ⟨_, h, fun hl cs' w => ?_⟩
    match cs', w with
    | [u], w => exact w.1
  · split at h
    · rename_i l
      refine ⟨_, h, fun hl cs' w => ?_⟩
      have hne : cs'.length ≠ 1 := by rw [← w.length, hl]; intro e; rw [e] at hn; cases hn
      have : oneOrTuple cs' = .tuple cs' := by
        match cs' with
        | [] => rfl
        | [_] => exact absurd rfl hne
        | _ :: _ :: _ => rfl
      rw [this]
      intro ρ x hx
      cases hx with
      | tuple hx => exact .tuple (w.vrs hx)
    · exact h.elim
theorem ren_one (τ : Nat → Nat) : ∀ l : List AV, (oneOrTuple l).ren τ = oneOrTuple (AV.rens τ l)
  | [] => rfl
  | [_] => rfl
  | _ :: _ :: _ => rfl
theorem under_one {k : Nat} : ∀ {l : List AV}, AV.unders k l → (oneOrTuple l).under k
  | [], h => h
  | [_], h => h.1
  | _ :: _ :: _, h => h
theorem call_ok_st {α β : Type} {f : FuncId} {N : Nat} {vm : Bool} {t : Tel α} {b : BTel β} {Pre : α × β → Prop} {as : List (Res (α × β))} {gl : Tr (List AV)} {rw' : TypeId → Bool}
    (hgf : ∀ g l, gl.get g = some l → AV.frees l = true)
    (hlt : and (and (Nat.ble N b.len) (and (t.lt b.len) (b.lt b.len))) (resLt N as) = true)
    (step : ∀ z, Pre z → ∃ v1 st1, CallS P f (t.cells id z.1) (stL vm (b.obs id z.2) gl rw') v1 st1 ∧ resAny N z v1 st1 as)
    (args : List AV) (st : St) (Q : AV → St → Prop) (hgs : ∀ g l, gl.get g = some l → st.gl.get g = some l) (h : callC N t b Pre as args st Q) : ∃ v st', CallS P f args st v st' ∧ Q v st' := by
  simp only [Bool.and_eq_true] at hlt
  obtain ⟨⟨hN0, ht, hb⟩, hlt⟩ := hlt
  have hN : N ≤ b.len := of_ble hN0
  obtain ⟨bs, x, y, hs, hl, _, hP, hQ⟩ := readCells_sound (show readCells t b (envNew b.len) args st _ from h)
  rw [envNew_len] at hl
  have htd : bs.take N ++ bs.drop N = bs := List.take_append_drop _ _
  obtain ⟨v1, st1, h1, h2⟩ := step (x, y) hP
  obtain ⟨a, ham, h2⟩ := resAny_sound h2
  obtain ⟨hN1, ha, hao⟩ := resLt_mem hlt a ham
  have hN' : N ≤ a.obs.len := of_ble hN1
  have hQ := resQ_mem hQ a ham
  obtain ⟨cs, h3, h4⟩ := one1_sound h2
  obtain ⟨bs', c, d, hs', hl', ho', hR⟩ := readCells_sound (show readCells a.outs a.obs (envOld 0 N a.obs.len) cs st1 _ from h3)
  rw [envOld_len] at hl'
  have ho : ∀ j, j < N → tauL bs' j = j := fun j hj => ho' j j (by have := envOld_get a.obs.len 0 N j (by omega) (by omega); rwa [Nat.zero_add] at this)
  have e' := range_tau (bs := bs') (by omega) ho
  have hcl : cs.length = a.outs.num := by rw [hs'.wk.length, rens_length, Tel.cells_len]
  have w1 : Wk v1 ((oneOrTuple (a.outs.cells id c)).ren (tauL bs')) := by rw [ren_one]; exact h4 hcl _ hs'.wk
  have atO : At N (bs'.drop N) [(0, oneOrTuple (a.outs.cells id c))] (a.obs.obs id d) (mkT [(0, v1)]) st1 := by
    refine ⟨by rw [a.obs.obs_len, List.length_drop]; omega, by rw [← e']; exact hs'.nd, fun p hp => ?_, fun i b o q1 q2 => ?_⟩
    · simp only [List.mem_singleton] at hp
      subst hp
      rw [← e', a.obs.obs_len]
      exact ⟨⟨v1, by simp [mkT, Tr.get_set], w1⟩, under_one (Tel.underC ha c)⟩
    · rw [← e'] at q1 ⊢
      rw [a.obs.obs_len]
      obtain ⟨o', g, w⟩ := hs'.ob i o q2
      rw [tauL_at q1] at g
      exact ⟨⟨o', g, w⟩, BTel.under hao d o (List.mem_of_getElem? q2)⟩
  have h5 : CallN P N f (t.cells id x) (stL vm (b.obs id y) gl rw') v1 st1 := h1.toN (by show N ≤ (b.obs id y).length; rw [b.obs_len]; exact hN)
  have h6 := h5.re (atO.re vm (rw' := rw') hgf) (fun _ _ h => h)
  have hbN : (bs.take N).length = N := by rw [List.length_take]; omega
  have hp : Part N (tauL bs) st (stL vm (b.obs id y) gl rw') := Part.of (fun g l h => ⟨hgs g l h, hgf g l h⟩) (by rw [hl, b.obs_len]) hs.nd fun i c o q1 q2 => by
    obtain ⟨o', g, w⟩ := hs.ob i o q2
    rw [tauL_at q1] at g
    rw [b.obs_len]
    exact ⟨⟨o', g, w⟩, BTel.under hb y o (List.mem_of_getElem? q2)⟩
  have hw := Whole.of (st := st) (vm := vm) (vm' := vm) (gl := gl) (gl' := gl) (rw' := rw') (rw2 := rw') (bs := bs.take N) (ds := bs.drop N) (os := b.obs id y) (ps := (a.obs.obs id d).take N) (ns := (a.obs.obs id d).drop N) (ps' := (a.obs.obs (nmX N bs st.next) d).take N) (ns' := (a.obs.obs (nmX N bs st.next) d).drop N)
    (by rw [hbN, List.length_take, a.obs.obs_len]; omega) (by rw [htd]; exact hs.nd) (by rw [b.obs_len, hbN, List.length_drop]; omega)
    (fun i o o' q1 q2 => by
      rw [htd, hbN]
      have hi : i < N := by
        rcases Nat.lt_or_ge i N with q | q
        · exact q
        · rw [List.getElem?_eq_none (by rw [List.length_take]; omega)] at q1; cases q1
      rw [List.getElem?_take_of_lt hi] at q1 q2
      exact a.obs.ren (nmX N bs st.next) d i o o' q1 q2)
    (by rw [List.length_take, List.length_take, BTel.obs_len, BTel.obs_len])
    (fun i o o' q1 q2 => by
      rw [htd, hbN]
      rw [List.getElem?_drop] at q1 q2
      exact a.obs.ren (nmX N bs st.next) d (N + i) o o' q1 q2)
    (by rw [List.length_drop, List.length_drop, BTel.obs_len, BTel.obs_len])
  rw [htd, hbN, List.take_append_drop] at hw
  refine ⟨_, _, CallN.frame h6 hp hw hs.wk ?_ ?_, hQ c d hR⟩
  · show AV.unders (b.obs id y).length _; rw [b.obs_len]; exact Tel.underC ht x
  · show Wk ((oneOrTuple (a.outs.cells id c)).ren (nmX N bs st.next)) (oneOrTuple (a.outs.cells (nmX N bs st.next) c))
    rw [ren_one, Tel.renC]; exact Wk.refl _
theorem call_ok_of {α β : Type} {f : FuncId} {N : Nat} {vm : Bool} {t : Tel α} {b : BTel β} {Pre : α × β → Prop} {as : List (Res (α × β))} {rw' : TypeId → Bool}
    (hlt : and (and (Nat.ble N b.len) (and (t.lt b.len) (b.lt b.len))) (resLt N as) = true)
    (step : ∀ z, Pre z → ∃ v1 st1, CallS P f (t.cells id z.1) (stL vm (b.obs id z.2) .leaf rw') v1 st1 ∧ resAny N z v1 st1 as) : CcOk P f (callC N t b Pre as) :=
  fun args st Q h => call_ok_st glLeaf hlt step args st Q glLeaf h
/-- A call over tables. -/
def callCg (gl : Tr (List AV)) {α β : Type} (N : Nat) (t : Tel α) (b : BTel β) (Pre : α × β → Prop) (as : List (Res (α × β))) : CallC := fun args st Q => st.gl = gl ∧ callC N t b Pre as args st Q
theorem call_ok_ofg {α β : Type} {f : FuncId} {N : Nat} {vm : Bool} {t : Tel α} {b : BTel β} {Pre : α × β → Prop} {as : List (Res (α × β))} {gl : Tr (List AV)} {rw' : TypeId → Bool}
    (hgf : ∀ g l, gl.get g = some l → AV.frees l = true)
    (hlt : and (and (Nat.ble N b.len) (and (t.lt b.len) (b.lt b.len))) (resLt N as) = true)
    (step : ∀ z, Pre z → ∃ v1 st1, CallS P f (t.cells id z.1) (stL vm (b.obs id z.2) gl rw') v1 st1 ∧ resAny N z v1 st1 as) : CcOk P f (callCg gl N t b Pre as) :=
  fun args st Q h => call_ok_st hgf hlt step args st Q (by rw [h.1]; exact fun _ _ h => h) h.2
theorem call_okg {α β : Type} {K : Known} {n : Nat} {f : FuncId} {N : Nat} {vm : Bool} {t : Tel α} {b : BTel β} {Pre : α × β → Prop} {as : List (Res (α × β))} {gl : Tr (List AV)} {rw' : TypeId → Bool}
    (hgf : ∀ g l, gl.get g = some l → AV.frees l = true)
    (hm : P.follows .mixedOrders = true) (hK : KnownOk P K) (hlt : and (and (Nat.ble N b.len) (and (t.lt b.len) (b.lt b.len))) (resLt N as) = true)
    (step : ∀ z, Pre z → callW P (runW P K n) f (t.cells id z.1) (stL vm (b.obs id z.2) gl rw') (fun v st => resAny N z v st as)) : CcOk P f (callCg gl N t b Pre as) :=
  call_ok_ofg hgf hlt fun z hz => CallS.of_W hm hK n (step z hz)
theorem call_ok {α β : Type} {K : Known} {n : Nat} {f : FuncId} {N : Nat} {vm : Bool} {t : Tel α} {b : BTel β} {Pre : α × β → Prop} {as : List (Res (α × β))} {rw' : TypeId → Bool}
    (hm : P.follows .mixedOrders = true) (hK : KnownOk P K) (hlt : and (and (Nat.ble N b.len) (and (t.lt b.len) (b.lt b.len))) (resLt N as) = true)
    (step : ∀ z, Pre z → callW P (runW P K n) f (t.cells id z.1) (stL vm (b.obs id z.2) .leaf rw') (fun v st => resAny N z v st as)) : CcOk P f (callC N t b Pre as) :=
  call_ok_of hlt fun z hz => CallS.of_W hm hK n (step z hz)
/-- An answer that lies in a row of its own is told as a value. -/
def frz1 (v : AV) (st : St) (k : AV → St → Prop) : Prop :=
  match v with
  | .slice b o n cap ex e => rowW st b fun cs _ => Nat.add o (Nat.mul n e) ≤ cs.length ∧ k (.vs (List.take (Nat.mul n e) (List.drop o cs)) n cap ex none e) (st.del b)
  | v => k v st
theorem CallS.frz1 {f : FuncId} {args : List AV} {st st' : St} {v : AV} (h : CallS P f args st v st') {k : AV → St → Prop} (hk : Det.frz1 v st' k) : ∃ u st2, CallS P f args st u st2 ∧ k u st2 := by
  cases v with
  | slice b o n cap ex e =>
    obtain ⟨cs, te, h1, h2, h3⟩ := rowW_iff.1 (show rowW st' b (fun cs _ => Nat.add o (Nat.mul n e) ≤ cs.length ∧ k (.vs (List.take (Nat.mul n e) (List.drop o cs)) n cap ex none e) (st'.del b)) from hk)
    exact ⟨_, _, h.freeze (rowOf_get h1) (fun ρ ρ' _ hs x hx => hs o n cap ex e x hx h2), h3⟩
  | _ => exact ⟨_, _, h, hk⟩
theorem call_okFg {α β : Type} {K : Known} {n : Nat} {f : FuncId} {N : Nat} {vm : Bool} {t : Tel α} {b : BTel β} {Pre : α × β → Prop} {as : List (Res (α × β))} {gl : Tr (List AV)} {rw' : TypeId → Bool}
    (hgf : ∀ g l, gl.get g = some l → AV.frees l = true)
    (hm : P.follows .mixedOrders = true) (hK : KnownOk P K) (hlt : and (and (Nat.ble N b.len) (and (t.lt b.len) (b.lt b.len))) (resLt N as) = true)
    (step : ∀ z, Pre z → callW P (runW P K n) f (t.cells id z.1) (stL vm (b.obs id z.2) gl rw') (fun v st => Det.frz1 v st fun v st => resAny N z v st as)) : CcOk P f (callCg gl N t b Pre as) :=
  call_ok_ofg hgf hlt fun z hz => by
    obtain ⟨v1, st1, h1, h2⟩ := CallS.of_W hm hK n (step z hz)
    exact h1.frz1 h2
theorem call_okF {α β : Type} {K : Known} {n : Nat} {f : FuncId} {N : Nat} {vm : Bool} {t : Tel α} {b : BTel β} {Pre : α × β → Prop} {as : List (Res (α × β))} {rw' : TypeId → Bool}
    (hm : P.follows .mixedOrders = true) (hK : KnownOk P K) (hlt : and (and (Nat.ble N b.len) (and (t.lt b.len) (b.lt b.len))) (resLt N as) = true)
    (step : ∀ z, Pre z → callW P (runW P K n) f (t.cells id z.1) (stL vm (b.obs id z.2) .leaf rw') (fun v st => Det.frz1 v st fun v st => resAny N z v st as)) : CcOk P f (callC N t b Pre as) :=
  call_ok_of hlt fun z hz => by
    obtain ⟨v1, st1, h1, h2⟩ := CallS.of_W hm hK n (step z hz)
    exact h1.frz1 h2
end Go.Det
namespace Go.Det
variable {P : Program}
theorem freesC {α : Type} {t : Tel α} (h : t.lt 0 = true) (a : α) : AV.frees (t.cells id a) = true := by
  induction t with
  | nil => rfl
  | cons i s t ih =>
    obtain ⟨x, y⟩ := a
    simp only [Tel.lt, ifb_eq] at h
    split at h
    · rename_i c
      simp only [Tel.cells, AV.frees]
      have : AV.free (s.av id x) = true := by
        cases s with
        | own E j => cases c
        | ptr j => cases c
        | yld j => cases c
        | sl j e => cases c
        | slq j e => cases c
        | mapr j => cases c
        | fnp f js =>
          cases js with
          | nil => rfl
          | cons j js => cases c
        | lst E => exact lst_free E x
        | agg E => show AV.frees (E.f x) = true; exact E.free x
        | aggW E => show AV.frees (E.f x) = true; exact E.free x
        | con v h => exact h
        | _ => rfl
      rw [this, ifb_true]; exact ih h y
    · cases h
theorem cc_nil : ∀ p ∈ ([] : List (Nat × CallC)), CcOk P p.1 p.2 := fun p h => by cases h
theorem cc_cons {f : Nat} {C : CallC} {l : List (Nat × CallC)} (h : CcOk P f C) (t : ∀ p ∈ l, CcOk P p.1 p.2) : ∀ p ∈ (f, C) :: l, CcOk P p.1 p.2 := fun p hp => by
  rcases List.mem_cons.1 hp with rfl | hp
  · exact h
  · exact t p hp
end Go.Det
namespace Go.Det
/-! Where the program's loops over functions lie. -/
noncomputable def findRange (id : Nat) : Code → Option (Code × Code)
  | .seq a b => Option.rec (findRange id b) (fun c => some c) (findRange id a)
  | .cond _ a b => Option.rec (findRange id b) (fun c => some c) (findRange id a)
  | .block _ b => findRange id b
  | .scope b => findRange id b
  | .loop b => findRange id b
  | .rangeFunc _ _ as b => Bool.rec (findRange id b) (some (as, b)) (Nat.beq (firstReg b) id)
  | _ => none
noncomputable def rangeAt (P : Program) (fn : FuncId) (id : Nat) : Code × Code := Option.rec (.skip, .skip) (fun f => Option.rec (.skip, .skip) (fun c => Option.rec (.skip, .skip) (fun b => b) (findRange id c)) f.body) P.funcs[fn]?
noncomputable def rangeAs (P : Program) (fn : FuncId) (id : Nat) : Code := (rangeAt P fn id).1
noncomputable def rangeBody (P : Program) (fn : FuncId) (id : Nat) : Code := (rangeAt P fn id).2
end Go.Det
namespace Go.Det
variable {P : Program}
/-- As KL; rows of this type's elements are known by their list. -/
noncomputable def KLS (cs : List (Nat × CallC)) (ls : List (Nat × List (Nat × LoopC))) (t : TypeId) : Known := { tab := lookL cs, lp := fun f id => ob (lookL ls f) fun l => lookL l id, sym := fun u => Nat.beq u t }
theorem KLS_ok {cs : List (Nat × CallC)} {ls : List (Nat × List (Nat × LoopC))} {t : TypeId} (h : ∀ p ∈ cs, CcOk P p.1 p.2) : KnownOk P (KLS cs ls t) := fun f C args st Q hC hr => h (f, C) (lookL_mem hC) args st Q hr
/-- As KLS, for many types; with regions in which what is compared must be equal. -/
noncomputable def KLX (cs : List (Nat × CallC)) (ls : List (Nat × List (Nat × LoopC))) (ts : List TypeId) (rs qs : List (Nat × List Nat)) : Known :=
  { tab := lookL cs, lp := fun f id => ob (lookL ls f) fun l => lookL l id, sym := fun u => hasT u ts, eqAt := fun f i => Option.rec false (fun l => hasT i l) (lookL rs f), neAt := fun f i => Option.rec false (fun l => hasT i l) (lookL qs f) }
/-- As KLX; with regions in which an order that is asked for must be there. -/
noncomputable def KLY (cs : List (Nat × CallC)) (ls : List (Nat × List (Nat × LoopC))) (ts : List TypeId) (rs qs os : List (Nat × List Nat)) : Known :=
  { KLX cs ls ts rs qs with ltAt := fun f i => Option.rec false (fun l => hasT i l) (lookL os f) }
theorem KLY_ok {cs : List (Nat × CallC)} {ls : List (Nat × List (Nat × LoopC))} {ts : List TypeId} {rs qs os : List (Nat × List Nat)} (h : ∀ p ∈ cs, CcOk P p.1 p.2) : KnownOk P (KLY cs ls ts rs qs os) := fun f C args st Q hC hr => h (f, C) (lookL_mem hC) args st Q hr
theorem KLX_ok {cs : List (Nat × CallC)} {ls : List (Nat × List (Nat × LoopC))} {ts : List TypeId} {rs qs : List (Nat × List Nat)} (h : ∀ p ∈ cs, CcOk P p.1 p.2) : KnownOk P (KLX cs ls ts rs qs) := fun f C args st Q hC hr => h (f, C) (lookL_mem hC) args st Q hr
end Go.Det
