/- An operation sees its operands only; a region's own blocks; what stands beside a run. -/
import Derived.Test.YtenpjnfbpkidoaaGreatDoorDvOne
set_option linter.unusedVariables false
set_option linter.unusedSimpArgs false
namespace Go.Det
variable {P : Program} {ρ : Names}

/-! An operation sees its operands only. -/
theorem opds_congr {T T' : Tr AV} : ∀ {l : List Operand}, (∀ x ∈ l, opd T x = opd T' x) → opds T l = opds T' l
  | [], _ => rfl
  | x :: l, h => by
    simp only [opds]
    rw [h x (by simp), opds_congr fun y hy => h y (by simp [hy])]
theorem opdPairs_congr {T T' : Tr AV} : ∀ {l : List (Nat × Operand)}, (∀ p ∈ l, opd T p.2 = opd T' p.2) → opdPairs T l = opdPairs T' l
  | [], _ => rfl
  | x :: l, h => by
    simp only [opdPairs]
    rw [h x (by simp), opdPairs_congr fun y hy => h y (by simp [hy])]
theorem opdO_congr {T T' : Tr AV} {o : Option Operand} (h : ∀ x, o = some x → opd T x = opd T' x) : opdO T o = opdO T' o := by
  cases o with
  | none => rfl
  | some x => simp only [opdO]; rw [h x rfl]

theorem freshA_congr {T T' : Tr AV} {op : Op} (h : ∀ x ∈ op.operands.toList, opd T x = opd T' x) (vm : Bool) (name : Nat) : freshA P vm T name op = freshA P vm T' name op := by
  cases op <;> try rfl
  case box e x => simp only [freshA]; rw [h x (by simp [Op.operands])]
  case buildSlice t n parts =>
    simp only [freshA]
    rw [opdPairs_congr fun p hp => h p.2 ?_]
    simp only [Op.operands, Array.toList_map, List.mem_map]
    exact ⟨p, hp, rfl⟩
  case makeSlice t l c => simp only [freshA]; rw [h l (by simp [Op.operands]), h c (by simp [Op.operands])]
  case makeMap t r => cases r <;> rfl

theorem callA_congr {T T' : Tr AV} {f : Operand} {args : List Operand} (h : ∀ x ∈ f :: args, opd T x = opd T' x) : callA T f args = callA T' f args := by
  simp only [callA]
  rw [h f (by simp), opds_congr fun y hy => h y (by simp [hy])]

theorem aop_congr {T T' : Tr AV} {op : Op} (h : ∀ x ∈ op.operands.toList, opd T x = opd T' x) (st : St) : aop P T st op = aop P T' st op := by
  have hf := fun vm name => freshA_congr (P := P) h vm name
  cases op <;> try rfl
  all_goals try (simp only [aop]; rw [hf]; done)
  case build t parts =>
    simp only [aop]
    rw [opdPairs_congr fun p hp => h p.2 ?_]
    simp only [Op.operands, Array.toList_map, List.mem_map]
    exact ⟨p, hp, rfl⟩
  case makeFunc c a b =>
    cases c <;> try rfl
    simp only [aop]
    rw [opds_congr fun y hy => h y (by simp [Op.operands, hy]), opds_congr fun y hy => h y (by simp [Op.operands, hy])]
  case slice t x lo hi mx =>
    simp only [aop]
    rw [h x (by simp [Op.operands]), opdO_congr fun y hy => h y (by simp [Op.operands, hy]), opdO_congr fun y hy => h y (by simp [Op.operands, hy]), opdO_congr fun y hy => h y (by simp [Op.operands, hy])]
  case call c =>
    obtain ⟨callee, args, at_⟩ := c
    cases callee
    · simp only [aop]
      rw [callA_congr fun y hy => h y (by simpa [Op.operands, Call.operands] using hy)]
    · rfl
    · simp only [aop, builtinA]
      rw [opds_congr fun y hy => h y (by simpa [Op.operands, Call.operands] using hy)]
  case defer c =>
    obtain ⟨callee, args, at_⟩ := c
    cases callee <;> try rfl
    simp only [aop]
    rw [callA_congr fun y hy => h y (by simpa [Op.operands, Call.operands] using hy)]
  all_goals (simp [Op.operands] at h; simp [aop, h])

/-- What looks at no heap. -/
theorem aop_pure {T : Tr AV} {op : Op} {st st1 : St} {v : AV} (hk : kd op = .pure) (h : aop P T st op = some (.val v st1)) (st2 : St) : aop P T st2 op = some (.val v st2) := by
  cases op
  case makeFunc c a b =>
    cases c <;> simp only [aop, ob_some, reduceCtorEq] at h ⊢
    obtain ⟨x, h1, y, h2, h3⟩ := h
    injection h3 with h3
    injection h3 with h3 _; subst h3
    exact ⟨x, h1, y, h2, rfl⟩
  case call c =>
    obtain ⟨callee, args, at_⟩ := c
    cases callee <;> simp only [kd, reduceCtorEq] at hk
    rename_i b
    simp only [aop, builtinA, ob_some] at h ⊢
    obtain ⟨as, h1, h2⟩ := h
    refine ⟨as, h1, ?_⟩
    cases b <;> simp only [reduceCtorEq] at hk h2 ⊢
    · obtain ⟨a, t, l, rfl, e, h3⟩ := arg1_some h2
      rw [jst_some] at h3
      obtain ⟨u, h4, h5⟩ := h3
      injection h5 with h5 _; subst h5
      rw [e]
      show jst st2 (capA P t a) = _
      rw [h4]; rfl
    · unfold argN at h2 ⊢
      split at h2
      · rw [jst_some] at h2 ⊢
        obtain ⟨u, h4, h5⟩ := h2
        injection h5 with h5 _; subst h5
        exact ⟨_, h4, rfl⟩
      · cases h2
    · unfold argN at h2 ⊢
      split at h2
      · rw [jst_some] at h2 ⊢
        obtain ⟨u, h4, h5⟩ := h2
        injection h5 with h5 _; subst h5
        exact ⟨_, h4, rfl⟩
      · cases h2
  all_goals simp only [kd, reduceCtorEq] at hk
  all_goals simp only [aop, ob_some, jst_some, ifb_none, ptrR_some, ptrV_some, ifb_none', reduceCtorEq] at h ⊢
  case pick c a b =>
    obtain ⟨x, h1, h2⟩ := h
    refine ⟨x, h1, ?_⟩
    split at h2
    · rw [jst_some] at h2 ⊢
      obtain ⟨u, h4, h5⟩ := h2
      injection h5 with h5 _; subst h5
      exact ⟨_, h4, rfl⟩
    · rw [jst_some] at h2 ⊢
      obtain ⟨u, h4, h5⟩ := h2
      injection h5 with h5 _; subst h5
      exact ⟨_, h4, rfl⟩
    · cases h2
  case nilCheck x =>
    obtain ⟨x, h1, h2⟩ := h
    refine ⟨x, h1, ?_⟩
    split at h2 <;> first | (injection h2 with h2; injection h2 with h2 _; subst h2; rfl) | cases h2
  case field t x f =>
    obtain ⟨x, h1, fd, h2, h3⟩ := h
    refine ⟨x, h1, fd, h2, ?_⟩
    split at h3
    · rw [jst_some] at h3 ⊢
      obtain ⟨u, h4, h5⟩ := h3
      injection h5 with h5 _; subst h5
      exact ⟨_, h4, rfl⟩
    · cases h3
  case extract x i =>
    obtain ⟨x, h1, h3⟩ := h
    refine ⟨x, h1, ?_⟩
    split at h3
    · rw [jst_some] at h3 ⊢
      obtain ⟨u, h4, h5⟩ := h3
      injection h5 with h5 _; subst h5
      exact ⟨_, h4, rfl⟩
    · cases h3
  all_goals grind

theorem wantedA_congr {T T' : Tr AV} {ops : List Oper} {o : Oper} (h : ∀ t, t ∈ looks ops o → T.get t = T'.get t) : wantedA T ops o = wantedA T' ops o := by
  unfold wantedA
  cases hg : o.guard with
  | none => rfl
  | some g =>
    show (ob (nth g.1 ops) fun p => om (isWant g.2) (yieldedA T p)) = (ob (nth g.1 ops) fun p => om (isWant g.2) (yieldedA T' p))
    cases hp : nth g.1 ops with
    | none => rfl
    | some p =>
      show om (isWant g.2) (yieldedA T p) = om (isWant g.2) (yieldedA T' p)
      unfold yieldedA
      cases hd : p.dst with
      | none => rfl
      | some d =>
        show om (isWant g.2) (ob (T.get d) _) = om (isWant g.2) (ob (T'.get d) _)
        rw [h d (by simp [looks, hg, hp, hd])]

theorem mem_tmpsOf {t : Tmp} : ∀ {l : List Operand}, .tmp t ∈ l → t ∈ tmpsOf l
  | x :: l, h => by
    rcases List.mem_cons.1 h with h | h
    · subst h; simp [tmpsOf]
    · have ih := mem_tmpsOf h
      cases x <;> simp [tmpsOf, ih]
theorem opd_looks {T T' : Tr AV} {ops : List Oper} {o : Oper} (h : ∀ t, t ∈ looks ops o → T.get t = T'.get t) : ∀ x ∈ o.op.operands.toList, opd T x = opd T' x := by
  intro x hx
  cases x <;> try rfl
  exact h _ (by unfold looks; exact List.mem_append_right _ (mem_tmpsOf hx))

theorem restrict (T : Tr AV) : ∀ L : List Tmp, ∃ T' : Tr AV, ∀ t, T'.get t = if t ∈ L then T.get t else none
  | [] => ⟨.leaf, fun t => by simp [Tr.get]⟩
  | t0 :: L => by
    obtain ⟨T', h⟩ := restrict T L
    cases hv : T.get t0 with
    | none =>
      refine ⟨T', fun t => ?_⟩
      rw [h t]
      by_cases e : t = t0
      · subst e; simp [hv]
      · simp [e]
    | some v =>
      refine ⟨T'.set t0 v, fun t => ?_⟩
      rw [Tr.get_set]
      by_cases e : t = t0
      · subst e; simp [hv]
      · simp [e, h t]

/-! The heap, with blocks beside. -/
theorem HR.ext {st st' : St} {w : World} (h : HR ρ st w) (hn : st.next ≤ st'.next) (hg : ∀ b o, st'.heap.get b = some o → st.heap.get b = some o) (hgl : st'.gl = st.gl := by rfl) : HR ρ st' w :=
  ⟨fun b L hb => ⟨Nat.lt_of_lt_of_le (h.lt b L hb).1 hn, (h.lt b L hb).2⟩, fun b o hb => h.obj b o (hg b o hb),
    fun b b' o o' L L' h1 h2 => h.inj b b' o o' L L' (hg _ _ h1) (hg _ _ h2), h.mem, (fun a i v hv b o L h1 => h.sep a i v hv b o L (hg _ _ h1)), by rw [hgl]; exact h.glob⟩
theorem Goes.ext {ρ0 : Names} {st0 st st' : St} {w0 w : World} (g : Goes ρ0 st0 w0 ρ st w) (hn : st.next ≤ st'.next) (hg : ∀ b o, st'.heap.get b = some o → st.heap.get b = some o) : Goes ρ0 st0 w0 ρ st' w :=
  ⟨g.le, Nat.le_trans g.next hn, g.fresh, g.size, fun b o L hb => g.img b o L (hg b o hb), g.same, g.os, g.tape, g.output, g.grew⟩

theorem HR.frame {ρ' : Names} {F A A' F' : St} {w w' : World} (hF : HR ρ F w) (hA : ∀ b o, A.heap.get b = some o → F.heap.get b = some o) (hn : A.next = F.next) (g : Goes ρ A w ρ' A' w') (hA' : HR ρ' A' w') (hn' : F'.next = A'.next)
    (hF' : ∀ b o, F'.heap.get b = some o → A'.heap.get b = some o ∨ (F.heap.get b = some o ∧ A.heap.get b = none)) (hgl : F'.gl = A'.gl := by rfl) : HR ρ' F' w' ∧ Goes ρ F w ρ' F' w' := by
  have old : ∀ b o, F.heap.get b = some o → ∃ K, ρ b = some K ∧ ρ' b = some K ∧ OR ρ K o w.heap[K.blk]? ∧ K.blk < w.heap.size := fun b o hb => by
    obtain ⟨K, hK, hO⟩ := hF.obj b o hb
    exact ⟨K, hK, g.le _ _ hK, hO, (hF.lt _ _ hK).2⟩
  have out : ∀ b o K, F.heap.get b = some o → A.heap.get b = none → ρ b = some K → ∀ b1 o1 L1, A.heap.get b1 = some o1 → ρ b1 = some L1 → L1.blk ≠ K.blk := by
    intro b o K hb hn hK b1 o1 L1 h1 hL1 he
    have := hF.inj _ _ _ _ _ _ (hA _ _ h1) hb hL1 hK he
    subst this
    rw [hn] at h1; cases h1
  have hsep : ∀ a i v, ρ'.mem a i = some v → ∀ b o L, F'.heap.get b = some o → ρ' b = some L → L.blk = a → o = .spare ∧ i < L.off := by
    intro a i v hv b o L hb hL he
    rcases hF' b o hb with h | ⟨h, hnA⟩
    · exact hA'.sep a i v hv b o L h hL he
    · obtain ⟨K, k1, k2, k3, k4⟩ := old b o h
      rw [hL] at k2; injection k2 with k2; subst k2
      rcases g.grew a i v hv with hv' | hge | ⟨b1, o1, L1, h1, hL1, he1⟩
      · exact hF.sep a i v hv' b o _ h k1 he
      · omega
      · exact absurd (he1.trans he.symm) (out b o _ h hnA k1 b1 o1 L1 h1 hL1)
  refine ⟨⟨?_, ?_, ?_, hA'.mem, hsep, by rw [hgl]; exact hA'.glob⟩, ⟨g.le, ?_, ?_, g.size, ?_, ?_, g.os, g.tape, g.output, fun a i v hv => (g.grew a i v hv).imp id (Or.imp id fun ⟨b, o, L, h1, h2, h3⟩ => ⟨b, o, L, hA _ _ h1, h2, h3⟩)⟩⟩
  · intro b L hb; rw [hn']; exact hA'.lt b L hb
  · intro b o hb
    rcases hF' b o hb with h | ⟨h, hnA⟩
    · exact hA'.obj b o h
    · obtain ⟨K, k1, k2, k3, k4⟩ := old b o h
      refine ⟨K, k2, ?_⟩
      rw [g.same K.blk k4 (fun b1 o1 L1 h1 hL1 => out b o K h hnA k1 b1 o1 L1 h1 hL1)]
      exact k3.mono g.le
  · intro b b' o o' L L' hb hb' hL hL' he
    rcases hF' b o hb with h | ⟨h, hnA⟩ <;> rcases hF' b' o' hb' with h' | ⟨h', hnA'⟩
    · exact hA'.inj _ _ _ _ _ _ h h' hL hL' he
    · obtain ⟨K, k1, k2, k3, k4⟩ := old b' o' h'
      rw [hL'] at k2; injection k2 with k2; subst k2
      obtain ⟨b0, o0, L0, q1, q2, q3⟩ := g.img b o L h hL (he ▸ k4)
      exact absurd (q3.trans he) (out b' o' _ h' hnA' k1 b0 o0 L0 q1 q2)
    · obtain ⟨K, k1, k2, k3, k4⟩ := old b o h
      rw [hL] at k2; injection k2 with k2; subst k2
      obtain ⟨b0, o0, L0, q1, q2, q3⟩ := g.img b' o' L' h' hL' (he ▸ k4)
      exact absurd (q3.trans he.symm) (out b o _ h hnA k1 b0 o0 L0 q1 q2)
    · obtain ⟨K, k1, k2, k3, k4⟩ := old b o h
      obtain ⟨K', k1', k2', k3', k4'⟩ := old b' o' h'
      rw [hL] at k2; injection k2 with k2; subst k2
      rw [hL'] at k2'; injection k2' with k2'; subst k2'
      exact hF.inj _ _ _ _ _ _ h h' k1 k1' he
  · rw [hn', ← hn]; exact g.next
  · intro b L hb; rw [← hn]; exact g.fresh b L hb
  · intro b o L hb hL hlt
    rcases hF' b o hb with h | ⟨h, hnA⟩
    · obtain ⟨b0, o0, L0, q1, q2, q3⟩ := g.img b o L h hL hlt
      exact ⟨b0, o0, L0, hA _ _ q1, q2, q3⟩
    · obtain ⟨K, k1, k2, k3, k4⟩ := old b o h
      rw [hL] at k2; injection k2 with k2; subst k2
      exact ⟨b, o, L, h, k1, rfl⟩
  · intro x hx hno
    exact g.same x hx fun b o L hb hL => hno b o L (hA _ _ hb) hL

theorem HR.newAt {F : St} {w : World} (h : HR ρ F w) {name : Nat} (hn : ρ name = none) (hlt : name < F.next) (o : Ob) (L : Loc) (x : Obj) (hb : L.blk = w.heap.size)
    (ho : OR (ρ.set name L) L o (some x)) : HR (ρ.set name L) (F.put name o) (worldNew w x) := by
  have hle := Names.set_le L hn
  have old : ∀ k, k < w.heap.size → (worldNew w x).heap[k]? = w.heap[k]? := fun k hk => by
    show (w.heap.push x)[k]? = _
    rw [Array.getElem?_push, if_neg (by omega)]
  have hsz : (worldNew w x).heap.size = w.heap.size + 1 := by simp [worldNew]
  refine ⟨?_, ?_, ?_, fun a i v hv => by rw [cell_of (old a (h.mem_lt hv))]; exact h.mem _ _ _ hv, ?_, fun g l hg => let ⟨l', a, c⟩ := h.glob g l hg; ⟨l', a.mono hle, fun i v hv => hle.mem _ _ _ (c i v hv)⟩⟩
  rotate_right
  · intro a i v hv b o' K hg hK he
    change (F.heap.set name o).get b = some o' at hg
    rw [Tr.get_set] at hg
    rcases Names.set_inv hK with ⟨e1, e2⟩ | ⟨n1, k1⟩
    · have := h.mem_lt (show ρ.mem a i = some v from hv); rw [e2, hb] at he; omega
    · rw [if_neg n1] at hg
      exact h.sep _ _ _ hv _ _ _ hg k1 he
  · intro b K hK
    rw [hsz]
    rcases Names.set_inv hK with ⟨rfl, rfl⟩ | ⟨_, hK⟩
    · exact ⟨hlt, by omega⟩
    · have := h.lt _ _ hK; exact ⟨this.1, by omega⟩
  · intro b o' hb'
    change (F.heap.set name o).get b = some o' at hb'
    rw [Tr.get_set] at hb'
    by_cases e : b = name
    · rw [if_pos e] at hb'
      injection hb' with hb'; subst hb'; subst e
      refine ⟨L, Names.set_same _ _ _, ?_⟩
      rw [hb, show (worldNew w x).heap[w.heap.size]? = some x by show (w.heap.push x)[w.heap.size]? = _; simp]
      exact ho
    · rw [if_neg e] at hb'
      obtain ⟨K, hK, hO⟩ := h.obj _ _ hb'
      refine ⟨K, hle _ _ hK, ?_⟩
      rw [old _ (h.lt _ _ hK).2]
      exact hO.mono hle
  · intro b b' o1 o2 K K' h1 h2 hK hK' he
    change (F.heap.set name o).get b = some o1 at h1
    change (F.heap.set name o).get b' = some o2 at h2
    rw [Tr.get_set] at h1 h2
    rcases Names.set_inv hK with ⟨e1, e2⟩ | ⟨n1, k1⟩
    · rcases Names.set_inv hK' with ⟨e3, e4⟩ | ⟨n2, k2⟩
      · rw [e1, e3]
      · have := (h.lt _ _ k2).2; rw [e2, hb] at he; omega
    · rcases Names.set_inv hK' with ⟨e3, e4⟩ | ⟨n2, k2⟩
      · have := (h.lt _ _ k1).2; rw [e4, hb] at he; omega
      · rw [if_neg n1] at h1; rw [if_neg n2] at h2
        exact h.inj _ _ _ _ _ _ h1 h2 k1 k2 he
theorem Goes.newAt {ρ0 : Names} {st0 F : St} {w0 w : World} (g : Goes ρ0 st0 w0 ρ F w) {name : Nat} (h1 : st0.next ≤ name) (hn : ρ name = none) (o : Ob) (L : Loc) (x : Obj) (hb : L.blk = w.heap.size) :
    Goes ρ0 st0 w0 (ρ.set name L) (F.put name o) (worldNew w x) := by
  have hsz : (worldNew w x).heap.size = w.heap.size + 1 := by simp [worldNew]
  refine ⟨Names.le_trans g.le (Names.set_le L hn), g.next, ?_, by have := g.size; omega, ?_, ?_, g.os, g.tape, g.output, fun a i v hv => g.grew a i v hv⟩
  · intro b K hK
    rcases Names.set_inv hK with ⟨rfl, rfl⟩ | ⟨_, hK⟩
    · exact .inr ⟨h1, fun k hk => by rw [g.le _ _ hk] at hn; cases hn⟩
    · exact g.fresh b K hK
  · intro b o' K hb' hK hlt
    rcases Names.set_inv hK with ⟨rfl, rfl⟩ | ⟨n1, hK⟩
    · have := g.size; omega
    · change (F.heap.set name o).get b = some o' at hb'
      rw [Tr.get_set, if_neg n1] at hb'
      exact g.img b o' K hb' hK hlt
  · intro k hk hno
    rw [← g.same k hk hno]
    show (w.heap.push x)[k]? = _
    have := g.size
    rw [Array.getElem?_push, if_neg (by omega)]

theorem exists_add (st : St) (base : Nat) (ob : Nat → Ob) (Q : Nat → Prop) : ∀ n, ∃ F : St, (F.next = st.next ∧ F.gl = st.gl) ∧ (∀ j, j < n → Q j → F.heap.get (base + j) = some (ob j)) ∧ ∀ b, (∀ j, j < n → Q j → b ≠ base + j) → F.heap.get b = st.heap.get b
  | 0 => ⟨st, ⟨rfl, rfl⟩, fun j h => absurd h (Nat.not_lt_zero _), fun _ _ => rfl⟩
  | n + 1 => by
    obtain ⟨F, h1, h2, h3⟩ := exists_add st base ob Q n
    by_cases q : Q n
    · refine ⟨F.put (base + n) (ob n), h1, fun j hj hq => ?_, fun b hb => ?_⟩
      · show (F.heap.set (base + n) (ob n)).get _ = _
        rw [Tr.get_set]
        by_cases e : j = n
        · subst e; simp
        · rw [if_neg (by omega)]; exact h2 j (by omega) hq
      · show (F.heap.set (base + n) (ob n)).get _ = _
        rw [Tr.get_set, if_neg (hb n (by omega) q)]
        exact h3 b fun j hj hq => hb j (by omega) hq
    · refine ⟨F, h1, fun j hj hq => ?_, fun b hb => h3 b fun j hj hq => hb j (by omega) hq⟩
      have : j ≠ n := fun e => q (e ▸ hq)
      exact h2 j (by omega) hq

theorem addP_next : ∀ (l : List (Nat × Ob)) (st : St), (addP st l).next = st.next
  | [], st => rfl
  | p :: l, st => addP_next l (st.put p.1 p.2)
theorem addP_gl : ∀ (l : List (Nat × Ob)) (st : St), (addP st l).gl = st.gl
  | [], st => rfl
  | p :: l, st => addP_gl l (st.put p.1 p.2)
theorem addP_get : ∀ (l : List (Nat × Ob)) (st : St), (∀ p ∈ l, ∀ q ∈ l, p.1 = q.1 → p.2 = q.2) →
    (∀ p ∈ l, (addP st l).heap.get p.1 = some p.2) ∧ ∀ b, (∀ p ∈ l, p.1 ≠ b) → (addP st l).heap.get b = st.heap.get b
  | [], st, _ => ⟨fun p h => by simp at h, fun _ _ => rfl⟩
  | p :: l, st, hf => by
    obtain ⟨h1, h2⟩ := addP_get l (st.put p.1 p.2) fun a ha b hb => hf a (by simp [ha]) b (by simp [hb])
    have put : ∀ b, (st.put p.1 p.2).heap.get b = if b = p.1 then some p.2 else st.heap.get b := fun b => Tr.get_set ..
    refine ⟨fun q hq => ?_, fun b hb => ?_⟩
    · show (addP (st.put p.1 p.2) l).heap.get q.1 = _
      rcases List.mem_cons.1 hq with rfl | hq
      · by_cases c : ∃ r ∈ l, r.1 = q.1
        · obtain ⟨r, hr, e⟩ := c
          have k := h1 r hr
          rw [e] at k
          rw [k, hf r (by simp [hr]) q (by simp) e]
        · rw [h2 q.1 fun r hr e => c ⟨r, hr, e⟩, put, if_pos rfl]
      · exact h1 q hq
    · show (addP (st.put p.1 p.2) l).heap.get b = _
      rw [h2 b fun r hr => hb r (by simp [hr]), put, if_neg (fun e => hb p (by simp) e.symm)]

theorem part2_mem {base m : Nat} : ∀ {l : List (Nat × Ob)} {p : Nat × Ob}, (p ∈ (part2 base m l).yes ↔ p ∈ l ∧ tb m (p.1 - base) = true) ∧ (p ∈ (part2 base m l).no ↔ p ∈ l ∧ tb m (p.1 - base) = false)
  | [], p => by simp [part2]
  | q :: l, p => by
    have ih := part2_mem (base := base) (m := m) (l := l) (p := p)
    show (p ∈ (ifb (tb m (Nat.sub q.1 base)) (⟨q :: (part2 base m l).yes, (part2 base m l).no⟩ : Parted) ⟨(part2 base m l).yes, q :: (part2 base m l).no⟩).yes ↔ _) ∧ (p ∈ (ifb (tb m (Nat.sub q.1 base)) (⟨q :: (part2 base m l).yes, (part2 base m l).no⟩ : Parted) ⟨(part2 base m l).yes, q :: (part2 base m l).no⟩).no ↔ _)
    have e : Nat.sub q.1 base = q.1 - base := rfl
    rw [e]
    cases hb : tb m (q.1 - base) with
    | true =>
      simp only [ifb_true, List.mem_cons]
      rw [ih.1, ih.2]
      constructor
      · constructor
        · rintro (rfl | ⟨a, b⟩)
          · exact ⟨.inl rfl, hb⟩
          · exact ⟨.inr a, b⟩
        · rintro ⟨rfl | a, b⟩
          · exact .inl rfl
          · exact .inr ⟨a, b⟩
      · constructor
        · rintro ⟨a, b⟩; exact ⟨.inr a, b⟩
        · rintro ⟨rfl | a, b⟩
          · rw [hb] at b; cases b
          · exact ⟨a, b⟩
    | false =>
      simp only [ifb_false, List.mem_cons]
      rw [ih.1, ih.2]
      constructor
      · constructor
        · rintro ⟨a, b⟩; exact ⟨.inr a, b⟩
        · rintro ⟨rfl | a, b⟩
          · rw [hb] at b; cases b
          · exact ⟨a, b⟩
      · constructor
        · rintro (rfl | ⟨a, b⟩)
          · exact ⟨.inl rfl, hb⟩
          · exact ⟨.inr a, b⟩
        · rintro ⟨rfl | a, b⟩
          · exact .inl rfl
          · exact .inr ⟨a, b⟩

end Go.Det
