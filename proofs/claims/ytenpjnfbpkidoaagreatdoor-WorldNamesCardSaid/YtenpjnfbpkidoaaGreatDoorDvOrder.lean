/- The order's laws of a region whose order is drawn, and what its run in the text's order has recorded. -/
import Derived.Test.YtenpjnfbpkidoaaGreatDoorDvLocal
set_option linter.unusedVariables false
set_option linter.unusedSimpArgs false
namespace Go.Det
variable {P : Program} {ρ : Names}

theorem ifb_and {b x : Bool} : ifb b x false = true ↔ b = true ∧ x = true := by cases b <;> simp
/-! Bits. -/
theorem tb_eq (m i : Nat) : tb m i = m.testBit i := by
  have e : Nat.land (Nat.shiftRight m i) 1 = (m >>> i) % 2 := Nat.and_one_is_mod _
  unfold tb
  rw [e, Nat.testBit_eq_decide_div_mod_eq, Nat.shiftRight_eq_div_pow]
  by_cases h : m / 2 ^ i % 2 = 1
  · simp [h]
  · simp [h]; exact beq_f h
theorem tb_or (a b i : Nat) : tb (Nat.lor a b) i = (tb a i || tb b i) := by
  simp only [tb_eq]
  exact Nat.testBit_or a b i
theorem tb_one (e j : Nat) : tb (Nat.shiftLeft 1 e) j = true ↔ j = e := by
  have h : Nat.shiftLeft 1 e = 2 ^ e := Nat.one_shiftLeft e
  rw [tb_eq, h, Nat.testBit_two_pow]
  simp [eq_comm]
theorem tb_zero (j : Nat) : tb 0 j = false := by simp [tb_eq]

theorem mask_spec {bef : List Nat} : ∀ {l : List Edge} {j : Nat}, tb (mask bef l) j = true → ∃ e ∈ l, bindE e = true ∧ (j = e.on ∨ ∃ m, nth e.on bef = some m ∧ tb m j = true)
  | [], j, h => by rw [mask, tb_zero] at h; cases h
  | e :: l, j, h => by
    have ih := fun h => mask_spec (bef := bef) (l := l) (j := j) h
    have tail : (∃ e ∈ l, bindE e = true ∧ (j = e.on ∨ ∃ m, nth e.on bef = some m ∧ tb m j = true)) → ∃ e' ∈ e :: l, bindE e' = true ∧ (j = e'.on ∨ ∃ m, nth e'.on bef = some m ∧ tb m j = true) :=
      fun ⟨e', a, b⟩ => ⟨e', List.mem_cons_of_mem _ a, b⟩
    rw [mask] at h
    cases hb : bindE e with
    | false => rw [hb, ifb_false] at h; exact tail (ih h)
    | true =>
      rw [hb, ifb_true, tb_or, tb_or, Bool.or_eq_true, Bool.or_eq_true] at h
      rcases h with (h | h) | h
      · exact ⟨e, by simp, hb, .inl ((tb_one _ _).1 h)⟩
      · split at h
        · rename_i m hm; exact ⟨e, by simp, hb, .inr ⟨m, hm, h⟩⟩
        · rw [tb_zero] at h; cases h
      · exact tail (ih h)

theorem befs_prefix : ∀ (l : List Oper) (bef : List Nat), ∃ r, befs bef l = bef ++ r ∧ r.length = l.length
  | [], bef => ⟨[], by simp [befs], rfl⟩
  | o :: l, bef => by
    obtain ⟨r, h1, h2⟩ := befs_prefix l (bef ++ [mask bef o.after.toList])
    exact ⟨mask bef o.after.toList :: r, by rw [befs, h1]; simp, by simp [h2]⟩
theorem befs_get : ∀ (l : List Oper) (bef : List Nat) (k : Nat) (o : Oper), l[k]? = some o → (befs bef l)[bef.length + k]? = some (mask ((befs bef l).take (bef.length + k)) o.after.toList)
  | [], bef, k, o, h => by simp at h
  | x :: l, bef, 0, o, h => by
    simp at h; subst h
    obtain ⟨r, h1, h2⟩ := befs_prefix l (bef ++ [mask bef x.after.toList])
    rw [befs, h1]
    simp
  | x :: l, bef, k + 1, o, h => by
    have := befs_get l (bef ++ [mask bef x.after.toList]) k o (by simpa using h)
    rw [befs]
    simp only [List.length_append, List.length_singleton] at this
    rw [show bef.length + (k + 1) = bef.length + 1 + k by omega]
    exact this

theorem bef_closed {os : List Oper} {i : Nat} {o : Oper} {m j : Nat} (ho : os[i]? = some o) (hm : nth i (befs [] os) = some m) (h : tb m j = true) :
    ∃ e ∈ o.after.toList, bindE e = true ∧ (j = e.on ∨ ∃ m', nth e.on (befs [] os) = some m' ∧ tb m' j = true) := by
  have := befs_get os [] i o ho
  simp only [List.length_nil, Nat.zero_add] at this
  rw [nth_eq, this] at hm
  injection hm with hm; subst hm
  obtain ⟨e, h1, h2, h3⟩ := mask_spec h
  refine ⟨e, h1, h2, ?_⟩
  rcases h3 with h3 | ⟨m', h3, h4⟩
  · exact .inl h3
  · refine .inr ⟨m', ?_, h4⟩
    rw [nth_eq] at h3 ⊢
    rw [List.getElem?_take] at h3
    split at h3
    · exact h3
    · cases h3

theorem backs_spec {i : Nat} : ∀ {l : List Edge}, backs i l = true → ∀ e ∈ l, bindE e = true → e.on < i
  | e :: l, h, e', he, hb => by
    rw [backs] at h
    rcases List.mem_cons.1 he with rfl | he
    · rw [hb, ifb_true] at h
      cases c : Nat.ble (Nat.succ e'.on) i with
      | true => exact of_ble c
      | false => rw [c] at h; cases h
    · have : backs i l = true := by
        cases hb' : bindE e with
        | false => rw [hb', ifb_false] at h; exact h
        | true =>
          rw [hb', ifb_true] at h
          cases c : Nat.ble (Nat.succ e.on) i with
          | true => rw [c] at h; exact h
          | false => rw [c] at h; cases h
      exact backs_spec this e' he hb

theorem pairOk_spec {ops : List Oper} {m : Nat} {y : Oper} (l : List Oper) : ∀ (i : Nat), pairOk ops m y i l = true → ∀ j x, l[j]? = some x → tb m (i + j) = true ∨ apartA ops x y = true := by
  induction l with
  | nil => intro i h j x hx; simp at hx
  | cons x l ih =>
    intro i h j z hz
    have h' : ifb (or (tb m i) (apartA ops x y)) (pairOk ops m y (Nat.succ i) l) false = true := h
    clear h
    generalize hq : apartA ops x y = q at h'
    rw [ifb_eq] at h'
    split at h'
    rotate_left
    · cases h'
    rename_i c
    cases j with
    | zero =>
      simp at hz; subst hz
      rw [Nat.add_zero, hq]
      simpa using c
    | succ j =>
      have := ih (Nat.succ i) h' j z (by simpa using hz)
      have e : i + (j + 1) = Nat.succ i + j := by omega
      rw [e]; exact this

theorem regOkGo_spec {ops : List Oper} {bef : List Nat} : ∀ {l : List Oper} {i : Nat} {pre : List Oper}, regOkGo ops bef i pre l = true → pre.length = i → ∀ k y, l[k]? = some y →
    ∃ m, nth (i + k) bef = some m ∧ backs (i + k) y.after.toList = true ∧ ∀ j x, j < i + k → (pre ++ l)[j]? = some x → tb m j = true ∨ apartA ops x y = true
  | [], i, pre, h, hp, k, y, hy => by simp at hy
  | z :: l, i, pre, h, hp, k, y, hy => by
    rw [regOkGo] at h
    split at h
    rotate_left
    · cases h
    rename_i m hm
    cases c : and (backs i z.after.toList) (pairOk ops m z 0 pre) with
    | false => rw [c] at h; cases h
    | true =>
      rw [c, ifb_true] at h
      simp only [Bool.and_eq_true] at c
      cases k with
      | zero =>
        simp at hy; subst hy
        refine ⟨m, hm, c.1, fun j x hj hx => ?_⟩
        have := pairOk_spec pre 0 c.2 j x (by rw [List.getElem?_append_left (by omega)] at hx; exact hx)
        simpa using this
      | succ k =>
        obtain ⟨m', h1, h2, h3⟩ := regOkGo_spec h (by simp [hp]) k y (by simpa using hy)
        refine ⟨m', ?_, ?_, ?_⟩
        · rw [← h1]; congr 1; omega
        · rw [← h2]; congr 1; omega
        · intro j x hj hx
          exact h3 j x (by omega) (by simpa using hx)
theorem regOk_spec {ops : List Oper} (h : regOk ops = true) {k : Nat} {y : Oper} (hy : ops[k]? = some y) :
    ∃ m, nth k (befs [] ops) = some m ∧ backs k y.after.toList = true ∧ ∀ j x, j < k → ops[j]? = some x → tb m j = true ∨ apartA ops x y = true := by
  have := regOkGo_spec h rfl k y hy
  simpa using this

theorem hasT_iff {t : Tmp} : ∀ {l : List Tmp}, hasT t l = true ↔ t ∈ l
  | [] => by simp [hasT]
  | x :: l => by
    rw [hasT, List.mem_cons]
    cases c : Nat.beq x t with
    | true => rw [ifb_true]; simp [(of_beq c).symm]
    | false =>
      rw [ifb_false, hasT_iff]
      have : t ≠ x := fun e => by subst e; rw [beq_t rfl] at c; cases c
      simp [this]
theorem apartA_spec {ops : List Oper} {x y : Oper} (h : apartA ops x y = true) :
    (∀ d, x.dst = some d → d ∉ looks ops y) ∧ (∀ d, y.dst = some d → d ∉ looks ops x) ∧ (∀ d, x.dst = some d → y.dst ≠ some d) ∧ ¬ (isActK (kd x.op) = true ∧ isActK (kd y.op) = true) := by
  unfold apartA at h
  simp only [Bool.not_eq_true', Bool.or_eq_false_iff, Bool.and_eq_false_iff] at h
  obtain ⟨h1, h2, h3, h4⟩ := h
  refine ⟨fun d hd hm => ?_, fun d hd hm => ?_, fun d hd he => ?_, fun ⟨a, b⟩ => ?_⟩
  · rw [hd] at h1; simp only [hits] at h1; rw [hasT_iff.2 hm] at h1; cases h1
  · rw [hd] at h2; simp only [hits] at h2; rw [hasT_iff.2 hm] at h2; cases h2
  · rw [hd, he] at h3; simp only [sameDst] at h3; rw [beq_t rfl] at h3; cases h3
  · rcases h4 with h4 | h4
    · rw [a] at h4; cases h4
    · rw [b] at h4; cases h4

/-! What the run in the text's order has recorded. -/
def Stp (P : Program) (r : Nat → Rec) (nt base : Nat) (ops : List Oper) (bef : List Nat) (i : Nat) (o : Oper) (e e' : DEnt) : Prop :=
  ∃ m d, nth i bef = some m ∧ wantedA e.T ops o = some e.wt ∧ ifb e.wt (drawOp P (r i) base i m e.T e.st e.pend o) (some ⟨undefA, e.st, none, e.pend⟩) = some d ∧
    putDst nt e.T o.dst d.v = some e'.T ∧ e'.st = d.st ∧ e'.pend = d.pend ∧ e.v = d.v ∧ e.ob = d.ob

theorem drawGo_data {r : Nat → Rec} {nt base : Nat} {ops : List Oper} {bef : List Nat} : ∀ {l : List Oper} {i : Nat} {T : Tr AV} {st : St} {pend : List (Nat × Ob)} {tr trf : List DEnt} {mid : Mid},
    drawGo P r nt base ops bef i l T st pend tr = some (trf, mid) → tr.length = i →
    (∀ k, k < i → trf[k]? = tr[k]?) ∧ (∃ e, trf[i]? = some e ∧ e.T = T ∧ e.st = st ∧ e.pend = pend) ∧
    (∀ k o, l[k]? = some o → ∃ e e', trf[i + k]? = some e ∧ trf[i + k + 1]? = some e' ∧ Stp P r nt base ops bef (i + k) o e e') ∧
    ∃ e, trf[i + l.length]? = some e ∧ mid = ⟨e.T, [], addP e.st e.pend⟩
  | [], i, T, st, pend, tr, trf, mid, h, hl => by
    rw [drawGo] at h
    injection h with h
    injection h with h1 h2
    subst h1; subst h2; subst hl
    refine ⟨fun k hk => by rw [List.getElem?_append_left hk], ⟨⟨T, st, true, undefA, none, pend⟩, by simp, rfl, rfl, rfl⟩, fun k o h => by simp at h, ⟨T, st, true, undefA, none, pend⟩, by simp, rfl⟩
  | o :: l, i, T, st, pend, tr, trf, mid, h, hl => by
    rw [drawGo] at h
    simp only [ob_some] at h
    obtain ⟨m, h1, wt, h2, d, h3, T', h4, h5⟩ := h
    obtain ⟨k1, ⟨e1, k2, k3, k4, k5⟩, k6, e2, k7, k8⟩ := drawGo_data h5 (by simp [hl])
    have hi : trf[i]? = some ⟨T, st, wt, d.v, d.ob, pend⟩ := by
      rw [k1 i (Nat.lt_succ_self i)]
      subst hl
      simp
    refine ⟨fun k hk => ?_, ⟨_, hi, rfl, rfl, rfl⟩, fun k z hz => ?_, e2, ?_, k8⟩
    · rw [k1 k (Nat.lt_succ_of_lt hk), List.getElem?_append_left (by omega)]
    · cases k with
      | zero =>
        simp at hz; subst hz
        exact ⟨_, e1, hi, k2, m, d, h1, h2, h3, by rw [k3]; exact h4, k4, k5, rfl, rfl⟩
      | succ k =>
        obtain ⟨e, e', q1, q2, q3⟩ := k6 k z (by simpa using hz)
        rw [show Nat.succ i + k = i + (k + 1) by omega] at q1 q2 q3
        exact ⟨e, e', q1, q2, q3⟩
    · rw [← k7]; congr 1; simp; omega

theorem readsOk1_cons {bef : List Nat} {rd : Nat} {o : Oper} {e : DEnt} {a : Nat} {x : Oper} {l : List Oper} {ea : DEnt} {tr : List DEnt} : readsOk1 P bef rd o e a (x :: l) (ea :: tr) =
    ifb (ifb (isActK (kd x.op))
      (ifb (Nat.ble (Nat.succ a) rd)
        (match nth rd bef with | some m => ifb (tb m a) true (readSame P e.T ea.st o.op e.v) | none => false)
        (match nth a bef with
         | some m => ifb (tb m rd) true (match tr with | e2 :: _ => readSame P e.T e2.st o.op e.v | [] => false)
         | none => false))
      true) (readsOk1 P bef rd o e (Nat.succ a) l tr) false := rfl
theorem readsOk1_spec {bef : List Nat} {rd : Nat} {o : Oper} {e : DEnt} : ∀ {l : List Oper} {tr : List DEnt} {a : Nat}, readsOk1 P bef rd o e a l tr = true → ∀ j x, l[j]? = some x → isActK (kd x.op) = true →
    (a + j < rd → (∃ m, nth rd bef = some m ∧ tb m (a + j) = true) ∨ ∃ ea, tr[j]? = some ea ∧ readSame P e.T ea.st o.op e.v = true) ∧
    (rd ≤ a + j → (∃ m, nth (a + j) bef = some m ∧ tb m rd = true) ∨ ∃ ea, tr[j + 1]? = some ea ∧ readSame P e.T ea.st o.op e.v = true)
  | [], tr, a, h, j, x, hx, hk => by simp at hx
  | y :: l, [], a, h, j, x, hx, hk => by simp [readsOk1] at h
  | y :: l, ea :: tr, a, h, j, x, hx, hk => by
    rw [readsOk1_cons] at h
    cases j with
    | succ j =>
      have h' : readsOk1 P bef rd o e (Nat.succ a) l tr = true := by
        exact (ifb_and.1 h).2
      have := readsOk1_spec h' j x (by simpa using hx) hk
      rw [show Nat.succ a + j = a + (j + 1) by omega] at this
      simpa using this
    | zero =>
      simp at hx; subst hx
      have hc := (ifb_and.1 h).1
      rw [hk, ifb_true] at hc
      rw [Nat.add_zero]
      constructor
      · intro hlt
        rw [ble_t (show Nat.succ a ≤ rd from hlt), ifb_true] at hc
        split at hc
        · rename_i m hm
          cases c : tb m a with
          | true => exact .inl ⟨m, hm, c⟩
          | false => rw [c, ifb_false] at hc; exact .inr ⟨ea, by simp, hc⟩
        · cases hc
      · intro hge
        have hb : Nat.ble (Nat.succ a) rd = false := ble_f (by omega)
        rw [hb, ifb_false] at hc
        split at hc
        · rename_i m hm
          cases c : tb m rd with
          | true => exact .inl ⟨m, hm, c⟩
          | false =>
            rw [c, ifb_false] at hc
            split at hc
            · rename_i e2 t; exact .inr ⟨e2, by simp, hc⟩
            · cases hc
        · cases hc
theorem readsOk_spec {bef : List Nat} {ops : List Oper} {tr : List DEnt} : ∀ {l : List Oper} {t : List DEnt} {i : Nat}, readsOk P bef ops tr i l t = true → ∀ j o e, l[j]? = some o → t[j]? = some e → isReadK (kd o.op) = true → e.wt = true → readsOk1 P bef (i + j) o e 0 ops tr = true
  | [], t, i, h, j, o, e, ho, he, hk, hw => by simp at ho
  | x :: l, [], i, h, j, o, e, ho, he, hk, hw => by simp at he
  | x :: l, y :: t, i, h, j, o, e, ho, he, hk, hw => by
    rw [readsOk] at h
    obtain ⟨hc, h⟩ := ifb_and.1 h
    cases j with
    | succ j =>
      have := readsOk_spec h j o e (by simpa using ho) (by simpa using he) hk hw
      rwa [show Nat.succ i + j = i + (j + 1) by omega] at this
    | zero =>
      simp at ho he; subst ho; subst he
      rw [hk, hw] at hc
      simpa using hc

end Go.Det
