/- Operations that leave the heap alone: what they answer, the model answers. -/
import Derived.Test.YtenpjnfbpkidoaaGreatDoorDvMem
import Derived.Laws.StructEq
set_option linter.unusedVariables false
set_option linter.unusedSimpArgs false
namespace Go.Det
variable {P : Program} {ρ : Names}

/-- The model answers a value that relates, and leaves the world as it was. -/
def Says (P : Program) (ρ : Names) (w : World) (v : AV) (s : Sem Value) : Prop := ∃ v', s.run P w = .ok v' w ∧ VR ρ v v'

inductive PRs (ρ : Names) : List (Nat × AV) → List (Nat × Value) → Prop where
  | nil : PRs ρ [] []
  | cons {i : Nat} {v : AV} {v' : Value} {l : List (Nat × AV)} {l' : List (Nat × Value)} (h : VR ρ v v') (t : PRs ρ l l') : PRs ρ ((i, v) :: l) ((i, v') :: l')

theorem opds_sound {T : Tr AV} {ev : Operand → Value} (hT : ∀ x a, opd T x = some a → VR ρ a (ev x)) : ∀ {l : List Operand} {as : List AV}, opds T l = some as → VRs ρ as (l.map ev)
  | [], as, h => by simp only [opds] at h; injection h with h; subst h; exact .nil
  | x :: l, as, h => by
    simp only [opds, ob_some, om_some] at h
    obtain ⟨v, h1, r, h2, rfl⟩ := h
    exact .cons (hT _ _ h1) (opds_sound hT h2)
theorem opdPairs_sound {T : Tr AV} {ev : Operand → Value} (hT : ∀ x a, opd T x = some a → VR ρ a (ev x)) : ∀ {l : List (Nat × Operand)} {as : List (Nat × AV)}, opdPairs T l = some as → PRs ρ as (l.map fun p => (p.1, ev p.2))
  | [], as, h => by simp only [opdPairs] at h; injection h with h; subst h; exact .nil
  | (i, x) :: l, as, h => by
    simp only [opdPairs, ob_some, om_some] at h
    obtain ⟨v, h1, r, h2, rfl⟩ := h
    exact .cons (hT _ _ h1) (opdPairs_sound hT h2)

/-! build -/
theorem foldl_over : ∀ (l : List Value) (k : Nat) (cells : Array Value) (off : Nat),
    ((l.zipIdx k).foldl (fun cs (p : Value × Nat) => cs.setIfInBounds (off + p.2) p.1) cells).toList = (l.zipIdx k).foldl (fun cs p => cs.set (off + p.2) p.1) cells.toList := by
  intro l
  induction l with
  | nil => intro k cells off; rfl
  | cons v l ih => intro k cells off; simp only [List.zipIdx_cons, List.foldl_cons]; rw [ih]; simp
theorem foldl_set_get : ∀ (l : List Value) (k : Nat) (cells : List Value) (off i : Nat), off + k + l.length ≤ cells.length →
    ((l.zipIdx k).foldl (fun cs (p : Value × Nat) => cs.set (off + p.2) p.1) cells)[i]? = if off + k ≤ i ∧ i < off + k + l.length then l[i - (off + k)]? else cells[i]? := by
  intro l
  induction l with
  | nil => intro k cells off i h; rw [if_neg (by simp only [List.length_nil]; omega)]; rfl
  | cons v l ih =>
    intro k cells off i h
    simp only [List.length_cons] at h
    simp only [List.zipIdx_cons, List.foldl_cons, List.length_cons]
    rw [ih _ _ _ _ (by simp; omega)]
    by_cases c : off + (k + 1) ≤ i ∧ i < off + (k + 1) + l.length
    · rw [if_pos c, if_pos (by omega), show i - (off + k) = i - (off + (k + 1)) + 1 by omega, List.getElem?_cons_succ]
    · rw [if_neg c, List.getElem?_set]
      by_cases e : off + k = i
      · subst e
        rw [if_pos rfl, if_pos (by omega), if_pos (by omega)]; simp
      · rw [if_neg e, if_neg (by omega)]
theorem foldl_set_length : ∀ (l : List (Value × Nat)) (cells : List Value) (off : Nat), (l.foldl (fun cs (p : Value × Nat) => cs.set (off + p.2) p.1) cells).length = cells.length := by
  intro l
  induction l with
  | nil => intro _ _; rfl
  | cons p l ih => intro cells off; simp only [List.foldl_cons]; rw [ih]; simp

theorem fill_sound {place : Nat → Option (Nat × Nat)} {place' : Nat → Option (Nat × Nat)} (hp : ∀ i q, place i = some q → place' i = some q) : ∀ {parts : List (Nat × AV)} {parts' : List (Nat × Value)} {cells r : List AV} {cells' : List Value},
    PRs ρ parts parts' → VRs ρ cells cells' → fillA place cells parts = some r → ∃ r', Instr.fill place' ⟨cells'⟩ parts' = some ⟨r'⟩ ∧ VRs ρ r r'
  | _, _, cells, r, cells', .nil, hc, h => by
    simp only [fillA] at h; injection h with h; subst h
    exact ⟨cells', rfl, hc⟩
  | _, _, cells, r, cells', .cons (i := i) (v := v) (v' := v') hv t, hc, h => by
    simp only [fillA, ob_some, ifb_none] at h
    obtain ⟨q, h1, h2, cs, h3, h4⟩ := h
    have hvc := hv.cells
    have hl : v'.cells.size = v.cells.length := by rw [← hvc.length]; simp
    have hlen := (overAt_some h3).1
    have hsz : v.cells.length = q.2 := of_beq h2
    have hcl := hc.length
    have hcs : VRs ρ cs (v'.cells.zipIdx.foldl (fun cs (p : Value × Nat) => cs.setIfInBounds (q.1 + p.2) p.1) (⟨cells'⟩ : Array Value)).toList := by
      rw [← Array.foldl_toList, Array.toList_zipIdx, foldl_over]
      refine VRs.of_get (by rw [foldl_set_length, overAt_length h3]; exact hcl) fun j u hj => ?_
      rw [overAt_get h3] at hj
      rw [foldl_set_get _ _ _ _ _ (by simp [hl]; omega)]
      by_cases c : q.1 ≤ j ∧ j < q.1 + v.cells.length
      · rw [if_pos c] at hj
        rw [if_pos (by simp [hl]; omega)]
        exact hvc.get hj
      · rw [if_neg c] at hj
        rw [if_neg (by simp [hl]; omega)]
        exact hc.get hj
    obtain ⟨r', k1, k2⟩ := fill_sound hp t hcs h4
    refine ⟨r', ?_, k2⟩
    simp only [Instr.fill, hp _ _ h1]
    rw [if_neg (by simp [hl, hsz]; omega)]
    exact k1

theorem places_run (w : World) : ∀ (fs : List Field) (ps : List (Nat × Nat)), placesT P fs = some ps →
    (fs.mapM fun f => (do pure (f.offset, ← sizeOf f.type) : Sem (Nat × Nat))).run P w = .ok ps w
  | [], ps, h => by simp only [placesT] at h; injection h with h; subst h; simp
  | f :: fs, ps, h => by
    simp only [placesT, ob_some, om_some] at h
    obtain ⟨n, h1, r, h2, rfl⟩ := h
    simp only [List.mapM_cons, Sem.run_bind, run_sizeOf' h1, Result.andThen_ok, Sem.run_pure, places_run w fs r h2]

theorem build_sound {t : TypeId} {parts : List (Nat × AV)} {parts' : Array (Nat × Value)} (hp : PRs ρ parts parts'.toList) {v : AV} (h : buildA P t parts = some v) (w : World) : Says P ρ w v (Instr.build t parts') := by
  simp only [buildA, ob_some] at h
  obtain ⟨z, h1, h⟩ := h
  obtain ⟨z', hz, hzr⟩ := run_zeroValue' (ρ := ρ) h1 w
  have hzc := hzr.cells
  unfold Says Instr.build
  simp only [Sem.run_bind, Sem.run_map, hz, Result.andThen_ok]
  split at h
  · rename_i fields hu
    simp only [ob_some, om_some] at h
    obtain ⟨ps, h2, cs, h3, rfl⟩ := h
    simp only [run_underlying' hu, Result.andThen_ok, Sem.run_bind]
    obtain ⟨r', k1, k2⟩ := fill_sound (place' := ((⟨ps⟩ : Array (Nat × Nat))[·]?)) (fun i q hq => by rw [nth_eq] at hq; simpa using hq) hp hzc h3
    have hm : (fields.mapM fun f => (do pure (f.offset, ← sizeOf f.type) : Sem (Nat × Nat))).run P w = .ok ⟨ps⟩ w := by
      rw [Array.mapM_eq_mapM_toList, Sem.run_map, places_run w _ _ h2]; rfl
    refine ⟨.agg ⟨r'⟩, ?_, .agg k2⟩
    rw [hm]
    simp only [Result.andThen_ok, k1]
    rfl
  · rename_i k elem hu
    simp only [ob_some, om_some] at h
    obtain ⟨n, h2, cs, h3, rfl⟩ := h
    simp only [run_underlying' hu, Result.andThen_ok, Sem.run_bind]
    obtain ⟨r', k1, k2⟩ := fill_sound (place' := fun i => some (i * n, n)) (fun i q hq => hq) hp hzc h3
    refine ⟨.agg ⟨r'⟩, ?_, .agg k2⟩
    rw [run_sizeOf' h2]
    simp only [Result.andThen_ok, k1]
    rfl
  · cases h

/-! Numbers. -/
theorem binInt_sound {op : BinOp} (hop : isShift op = false) {k : IntKind} {a b : Int} {v : AV} (h : binInt op k a b = some v) (t : TypeId) (w : World) : Says P ρ w v (binOp op t (.int k a) (.int k b)) := by
  have e : ∀ (x : Nat), wrapF k (.ofNat x) = k.wrap (x : Int) := fun x => wrapF_eq k _
  cases op <;> simp only [isShift, binInt, ifb_none', Option.some.injEq, reduceCtorEq] at h hop
  case add => subst h; exact ⟨_, by simp [binOp, Op.intArith]; rfl, by rw [wrapF_eq]; exact .int _ _⟩
  case sub => subst h; exact ⟨_, by simp [binOp, Op.intArith]; rfl, by rw [wrapF_eq]; exact .int _ _⟩
  case mul => subst h; exact ⟨_, by simp [binOp, Op.intArith]; rfl, by rw [wrapF_eq]; exact .int _ _⟩
  case quo =>
    obtain ⟨h0, rfl⟩ := h
    have : ¬ b = 0 := fun hb => by rw [← eqInt_iff] at hb; rw [hb] at h0; cases h0
    refine ⟨_, ?_, by rw [wrapF_eq]; exact .int _ _⟩
    simp [binOp, Op.intDiv, this]
  case rem =>
    obtain ⟨h0, rfl⟩ := h
    have : ¬ b = 0 := fun hb => by rw [← eqInt_iff] at hb; rw [hb] at h0; cases h0
    refine ⟨_, ?_, .int _ _⟩
    simp [binOp, Op.intDiv, this]
  case and =>
    subst h
    refine ⟨_, ?_, .int _ _⟩
    rw [e, natOf_uns, natOf_uns]
    simp [binOp, Op.intBits]
  case or =>
    subst h
    refine ⟨_, ?_, .int _ _⟩
    rw [e, natOf_uns, natOf_uns]
    simp [binOp, Op.intBits]
  case xor =>
    subst h
    refine ⟨_, ?_, .int _ _⟩
    rw [e, natOf_uns, natOf_uns]
    simp [binOp, Op.intBits]
  case andNot =>
    subst h
    refine ⟨_, ?_, .int _ _⟩
    rw [e, natOf_uns, natOf_uns, modOf_eq]
    simp [binOp, Op.intBits, BitVec.toNat_not]
  case eql => subst h; exact ⟨_, by simp [binOp, Op.intCmp]; rfl, by rw [eqInt_eq]; exact .bool _⟩
  case neq => subst h; exact ⟨_, by simp [binOp, Op.intCmp]; rfl, by rw [eqInt_eq]; exact .bool _⟩
  case lss => subst h; exact ⟨.bool (decide (a < b)), by simp [binOp, Op.intCmp], by rw [leInt_eq]; rw [show (!decide (b ≤ a)) = decide (a < b) by rw [Bool.eq_iff_iff]; simp]; exact .bool _⟩
  case leq => subst h; exact ⟨_, by simp [binOp, Op.intCmp]; rfl, by rw [leInt_eq]; exact .bool _⟩
  case gtr => subst h; exact ⟨.bool (decide (b < a)), by simp [binOp, Op.intCmp], by rw [leInt_eq]; rw [show (!decide (a ≤ b)) = decide (b < a) by rw [Bool.eq_iff_iff]; simp]; exact .bool _⟩
  case geq => subst h; exact ⟨_, by simp [binOp, Op.intCmp]; rfl, by rw [leInt_eq]; exact .bool _⟩

theorem isNeg_iff (y : Int) : isNeg y = decide (y < 0) := by
  cases y with
  | ofNat m => simp [isNeg]
  | negSucc m => simp [isNeg]
theorem shift_sound {op : BinOp} {k k' : IntKind} {a b : Int} {v : AV} (h : shiftA op k a b = some v) (t : TypeId) (w : World) : Says P ρ w v (binOp op t (.int k a) (.int k' b)) := by
  simp only [shiftA, ifb_none'] at h
  obtain ⟨h0, h⟩ := h
  have hb : ¬ b < 0 := by rw [isNeg_iff] at h0; simpa using h0
  have hn : ∀ (n : Nat), ifb (Nat.ble n (bitsOf k)) n (bitsOf k) = min n k.bits := fun n => by
    rw [bitsOf_eq, ifb_eq]
    by_cases c : n ≤ k.bits
    · rw [if_pos (ble_t c), Nat.min_eq_left c]
    · rw [if_neg (by rw [ble_f (by omega)]; simp), Nat.min_eq_right (by omega)]
  have hb2 : natOf b = b.toNat := by cases b <;> first | rfl | omega
  have hpow : ∀ (n : Nat), Int.ofNat (Nat.pow 2 n) = (2 : Int) ^ n := fun n => by
    show ((2 ^ n : Nat) : Int) = _
    simp
  cases op <;> simp only [Option.some.injEq, reduceCtorEq] at h
  case shl =>
    subst h
    refine ⟨_, ?_, .int _ _⟩
    rw [hn, hb2, wrapF_eq, hpow]
    simp [binOp, Op.shift, hb]
  case shr =>
    subst h
    refine ⟨_, ?_, .int _ _⟩
    rw [hn, hb2, hpow]
    simp [binOp, Op.shift, hb]

/-! Equality. -/
theorem eq_sound (w : World) : ∀ (d : Nat) (t : TypeId) (x y : AV) (x' y' : Value) (b : Bool), eqA P d t x y = some b → VR ρ x x' → VR ρ y y' → (Op.equalIn d t x' y').run P w = .ok b w := by
  intro d
  induction d with
  | zero => intro t x y x' y' b h; simp [eqA] at h
  | succ d ih =>
    have fields : ∀ (fs : List Field) (xs ys : List AV) (xs' ys' : List Value) (b : Bool), fieldsEqA P (eqA P d) xs ys fs = some b → VRs ρ xs xs' → VRs ρ ys ys' → (Op.eqFields d ⟨xs'⟩ ⟨ys'⟩ fs).run P w = .ok b w := by
      intro fs
      induction fs with
      | nil => intro xs ys xs' ys' b h _ _; simp only [fieldsEqA] at h; injection h with h; subst h; rfl
      | cons f fs ihf =>
        intro xs ys xs' ys' b h hx hy
        simp only [fieldsEqA] at h
        simp only [Op.eqFields]
        by_cases hn : f.name = "_"
        · rw [show (f.name == "_") = true by simp [hn], ifb_true] at h
          rw [if_neg (by simp [hn])]
          exact ihf _ _ _ _ _ h hx hy
        · rw [show (f.name == "_") = false by simp [hn], ifb_false] at h
          simp only [ob_some] at h
          obtain ⟨a, h1, c, h2, r, h3, h4⟩ := h
          obtain ⟨a', k1, k2⟩ := part_sound h1 hx w
          obtain ⟨c', k3, k4⟩ := part_sound h2 hy w
          rw [if_pos (by simp [hn])]
          simp only [Sem.run_bind, k1, k3, Result.andThen_ok, ih _ _ _ _ _ _ h3 k2 k4]
          cases r with
          | true => simp only [ifb_true] at h4; simp only [Bool.not_true, Bool.false_eq_true, if_false]; exact ihf _ _ _ _ _ h4 hx hy
          | false => simp only [ifb_false] at h4; injection h4 with h4; subst h4; simp
    intro t x y x' y' b h hx hy
    unfold eqA at h
    split at h
    · rename_i a c hu; cases hx; cases hy; injection h with h; subst h; rw [eqBool_eq]; exact run_equalIn_bool w d t a c hu
    · rename_i k k1 a k2 c hu
      cases hx; cases hy
      simp only [ifb_none, eqKind_iff] at h
      obtain ⟨rfl, h⟩ := h
      injection h with h; subst h
      rw [eqInt_eq]; exact run_equalIn_int w d t _ _ a c hu
    · rename_i a c hu
      cases hx; cases hy; injection h with h; subst h
      rw [run_equalIn_string w d t a c hu, eqBytes_eq, ByteArray.toList_eq, ByteArray.toList_eq]
    all_goals try (rename_i hu; cases hx; cases hy; injection h with h; subst h; simp [Op.equalIn, run_underlying' hu]; done)
    all_goals try (rename_i hu; rw [ifb_none'] at h; obtain ⟨hn, h⟩ := h; injection h with h; subst h; cases hx <;> cases hy <;> first | (cases hn; done) | simp [Op.equalIn, run_underlying' hu]; done)
    · rename_i fs xs ys hu
      cases hx with
      | agg hx =>
        cases hy with
        | agg hy =>
          simp only [ifb_none'] at h
          have hf : P.fieldsOf t = fs := by simp [Program.fieldsOf, hu]
          rw [run_equalIn_struct w d t _ _ (by rw [hf]; exact hu) h.1, hf]
          exact fields _ _ _ _ _ _ h.2 hx hy
    all_goals cases h

end Go.Det
