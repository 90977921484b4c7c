/- Operations that leave the heap alone: what they answer, the model answers. -/
import Derived.Test.YteehkdejkemnmabDoorDvMem
import Derived.Laws.StructEq
set_option linter.unusedVariables false
set_option linter.unusedSimpArgs false
namespace Go.Det
variable {P : Program} {ρ : Names}

/-- The model answers a value that relates, and leaves the world as it was. -/
def Says (P : Program) (ρ : Names) (w : World) (v : AV) (s : Sem Value) : Prop := ∃ v', s.run P w = .ok v' w ∧ VR ρ v v'

inductive PRs (ρ : Names) : List (Nat × AV) → List (Nat × Value) → Prop where
  | nil : PRs ρ [] []
  | cons {i : Nat} {v : AV} {v' : Value} {l : List (Nat × AV)} {l' : List (Nat × Value)} (h : VR ρ v v') (t : PRs ρ l l') : PRs ρ ((i, v) :: l) ((i, v') :: l')

theorem opds_sound {T : Tr AV} {ev : Operand → Value} (hT : ∀ x a, opd T x = some a → VR ρ a (ev x)) : ∀ {l : List Operand} {as : List AV}, opds T l = some as → VRs ρ as (l.map ev)
  | [], as, h => by simp only [opds] at h; injection h with h; subst h; exact .nil
  | x :: l, as, h => by
    simp only [opds, ob_some, om_some] at h
    obtain ⟨v, h1, r, h2, rfl⟩ := h
    exact .cons (hT _ _ h1) (opds_sound hT h2)
theorem opdPairs_sound {T : Tr AV} {ev : Operand → Value} (hT : ∀ x a, opd T x = some a → VR ρ a (ev x)) : ∀ {l : List (Nat × Operand)} {as : List (Nat × AV)}, opdPairs T l = some as → PRs ρ as (l.map fun p => (p.1, ev p.2))
  | [], as, h => by simp only [opdPairs] at h; injection h with h; subst h; exact .nil
  | (i, x) :: l, as, h => by
    simp only [opdPairs, ob_some, om_some] at h
    obtain ⟨v, h1, r, h2, rfl⟩ := h
    exact .cons (hT _ _ h1) (opdPairs_sound hT h2)

/-! build -/
theorem foldl_over : ∀ (l : List Value) (k : Nat) (cells : Array Value) (off : Nat),
    ((l.zipIdx k).foldl (fun cs (p : Value × Nat) => cs.setIfInBounds (off + p.2) p.1) cells).toList = (l.zipIdx k).foldl (fun cs p => cs.set (off + p.2) p.1) cells.toList := by
  intro l
  induction l with
  | nil => intro k cells off; rfl
  | cons v l ih => intro k cells off; simp only [List.zipIdx_cons, List.foldl_cons]; rw [ih]; simp
theorem foldl_set_get : ∀ (l : List Value) (k : Nat) (cells : List Value) (off i : Nat), off + k + l.length ≤ cells.length →
    ((l.zipIdx k).foldl (fun cs (p : Value × Nat) => cs.set (off + p.2) p.1) cells)[i]? = if off + k ≤ i ∧ i < off + k + l.length then l[i - (off + k)]? else cells[i]? := by
  intro l
  induction l with
  | nil => intro k cells off i h; rw [if_neg (by simp only [List.length_nil]; omega)]; rfl
  | cons v l ih =>
    intro k cells off i h
    simp only [List.length_cons] at h
    simp only [List.zipIdx_cons, List.foldl_cons, List.length_cons]
    rw [ih _ _ _ _ (by simp; omega)]
    by_cases c : off + (k + 1) ≤ i ∧ i < off + (k + 1) + l.length
    · rw [if_pos c, if_pos (by omega), show i - (off + k) = i - (off + (k + 1)) + 1 by omega, List.getElem?_cons_succ]
    · rw [if_neg c, List.getElem?_set]
      by_cases e : off + k = i
      · subst e
        rw [if_pos rfl, if_pos (by omega), if_pos (by omega)]; simp
      · rw [if_neg e, if_neg (by omega)]
theorem foldl_set_length : ∀ (l : List (Value × Nat)) (cells : List Value) (off : Nat), (l.foldl (fun cs (p : Value × Nat) => cs.set (off + p.2) p.1) cells).length = cells.length := by
  intro l
  induction l with
  | nil => intro _ _; rfl
  | cons p l ih => intro cells off; simp only [List.foldl_cons]; rw [ih]; simp

theorem fill_sound {place : Nat → Option (Nat × Nat)} {place' : Nat → Option (Nat × Nat)} (hp : ∀ i q, place i = some q → place' i = some q) : ∀ {parts : List (Nat × AV)} {parts' : List (Nat × Value)} {cells r : List AV} {cells' : List Value},
    PRs ρ parts parts' → VRs ρ cells cells' → fillA place cells parts = some r → ∃ r', Instr.fill place' ⟨cells'⟩ parts' = some ⟨r'⟩ ∧ VRs ρ r r'
  | _, _, cells, r, cells', .nil, hc, h => by
    simp only [fillA] at h; injection h with h; subst h
    exact ⟨cells', rfl, hc⟩
  | _, _, cells, r, cells', .cons (i := i) (v := v) (v' := v') hv t, hc, h => by
    simp only [fillA, ob_some, ifb_none] at h
    obtain ⟨q, h1, h2, cs, h3, h4⟩ := h
    have hvc := hv.cells
    have hl : v'.cells.size = v.cells.length := by rw [← hvc.length]; simp
    have hlen := (overAt_some h3).1
    have hsz : v.cells.length = q.2 := of_beq h2
    have hcl := hc.length
    have hcs : VRs ρ cs (v'.cells.zipIdx.foldl (fun cs (p : Value × Nat) => cs.setIfInBounds (q.1 + p.2) p.1) (⟨cells'⟩ : Array Value)).toList := by
      rw [← Array.foldl_toList, Array.toList_zipIdx, foldl_over]
      refine VRs.of_get (by rw [foldl_set_length, overAt_length h3]; exact hcl) fun j u hj => ?_
      rw [overAt_get h3] at hj
      rw [foldl_set_get _ _ _ _ _ (by simp [hl]; omega)]
      by_cases c : q.1 ≤ j ∧ j < q.1 + v.cells.length
      · rw [if_pos c] at hj
        rw [if_pos (by simp [hl]; omega)]
        exact hvc.get hj
      · rw [if_neg c] at hj
        rw [if_neg (by simp [hl]; omega)]
        exact hc.get hj
    obtain ⟨r', k1, k2⟩ := fill_sound hp t hcs h4
    refine ⟨r', ?_, k2⟩
    simp only [Instr.fill, hp _ _ h1]
    rw [if_neg (by simp [hl, hsz]; omega)]
    exact k1

theorem places_run (w : World) : ∀ (fs : List Field) (ps : List (Nat × Nat)), placesT P fs = some ps →
    (fs.mapM fun f => (do pure (f.offset, ← sizeOf f.type) : Sem (Nat × Nat))).run P w = .ok ps w
  | [], ps, h => by simp only [placesT] at h; injection h with h; subst h; simp
  | f :: fs, ps, h => by
    simp only [placesT, ob_some, om_some] at h
    obtain ⟨n, h1, r, h2, rfl⟩ := h
    simp only [List.mapM_cons, Sem.run_bind, run_sizeOf' h1, Result.andThen_ok, Sem.run_pure, places_run w fs r h2]

theorem build_sound {t : TypeId} {parts : List (Nat × AV)} {parts' : Array (Nat × Value)} (hp : PRs ρ parts parts'.toList) {v : AV} (h : buildA P t parts = some v) (w : World) : Says P ρ w v (Instr.build t parts') := by
  simp only [buildA, ob_some] at h
  obtain ⟨z, h1, h⟩ := h
  obtain ⟨z', hz, hzr⟩ := run_zeroValue' (ρ := ρ) h1 w
  have hzc := hzr.cells
  unfold Says Instr.build
  simp only [Sem.run_bind, Sem.run_map, hz, Result.andThen_ok]
  split at h
  · rename_i fields hu
    simp only [ob_some, om_some] at h
    obtain ⟨ps, h2, cs, h3, rfl⟩ := h
    simp only [run_underlying' hu, Result.andThen_ok, Sem.run_bind]
    obtain ⟨r', k1, k2⟩ := fill_sound (place' := ((⟨ps⟩ : Array (Nat × Nat))[·]?)) (fun i q hq => by rw [nth_eq] at hq; simpa using hq) hp hzc h3
    have hm : (fields.mapM fun f => (do pure (f.offset, ← sizeOf f.type) : Sem (Nat × Nat))).run P w = .ok ⟨ps⟩ w := by
      rw [Array.mapM_eq_mapM_toList, Sem.run_map, places_run w _ _ h2]; rfl
    refine ⟨.agg ⟨r'⟩, ?_, .agg k2⟩
    rw [hm]
    simp only [Result.andThen_ok, k1]
    rfl
  · rename_i k elem hu
    simp only [ob_some, om_some] at h
    obtain ⟨n, h2, cs, h3, rfl⟩ := h
    simp only [run_underlying' hu, Result.andThen_ok, Sem.run_bind]
    obtain ⟨r', k1, k2⟩ := fill_sound (place' := fun i => some (i * n, n)) (fun i q hq => hq) hp hzc h3
    refine ⟨.agg ⟨r'⟩, ?_, .agg k2⟩
    rw [run_sizeOf' h2]
    simp only [Result.andThen_ok, k1]
    rfl
  · cases h

/-! Numbers. -/
theorem binInt_sound {op : BinOp} (hop : isShift op = false) {k : IntKind} {a b : Int} {v : AV} (h : binInt op k a b = some v) (t : TypeId) (w : World) : Says P ρ w v (binOp op t (.int k a) (.int k b)) := by
  have e : ∀ (x : Nat), wrapF k (.ofNat x) = k.wrap (x : Int) := fun x => wrapF_eq k _
  cases op <;> simp only [isShift, binInt, ifb_none', Option.some.injEq, reduceCtorEq] at h hop
  case add => subst h; exact ⟨_, by simp [binOp, Op.intArith]; rfl, by rw [wrapF_eq]; exact .int _ _⟩
  case sub => subst h; exact ⟨_, by simp [binOp, Op.intArith]; rfl, by rw [wrapF_eq]; exact .int _ _⟩
  case mul => subst h; exact ⟨_, by simp [binOp, Op.intArith]; rfl, by rw [wrapF_eq]; exact .int _ _⟩
  case quo =>
    obtain ⟨h0, rfl⟩ := h
    have : ¬ b = 0 := fun hb => by rw [← eqInt_iff] at hb; rw [hb] at h0; cases h0
    refine ⟨_, ?_, by rw [wrapF_eq]; exact .int _ _⟩
    simp [binOp, Op.intDiv, this]
  case rem =>
    obtain ⟨h0, rfl⟩ := h
    have : ¬ b = 0 := fun hb => by rw [← eqInt_iff] at hb; rw [hb] at h0; cases h0
    refine ⟨_, ?_, .int _ _⟩
    simp [binOp, Op.intDiv, this]
  case and =>
    subst h
    refine ⟨_, ?_, .int _ _⟩
    rw [e, natOf_uns, natOf_uns]
    simp [binOp, Op.intBits]
  case or =>
    subst h
    refine ⟨_, ?_, .int _ _⟩
    rw [e, natOf_uns, natOf_uns]
    simp [binOp, Op.intBits]
  case xor =>
    subst h
    refine ⟨_, ?_, .int _ _⟩
    rw [e, natOf_uns, natOf_uns]
    simp [binOp, Op.intBits]
  case andNot =>
    subst h
    refine ⟨_, ?_, .int _ _⟩
    rw [e, natOf_uns, natOf_uns, modOf_eq]
    simp [binOp, Op.intBits, BitVec.toNat_not]
  case eql => subst h; exact ⟨_, by simp [binOp, Op.intCmp]; rfl, by rw [eqInt_eq]; exact .bool _⟩
  case neq => subst h; exact ⟨_, by simp [binOp, Op.intCmp]; rfl, by rw [eqInt_eq]; exact .bool _⟩
  case lss => subst h; exact ⟨.bool (decide (a < b)), by simp [binOp, Op.intCmp], by rw [leInt_eq]; rw [show (!decide (b ≤ a)) = decide (a < b) by rw [Bool.eq_iff_iff]; simp]; exact .bool _⟩
  case leq => subst h; exact ⟨_, by simp [binOp, Op.intCmp]; rfl, by rw [leInt_eq]; exact .bool _⟩
  case gtr => subst h; exact ⟨.bool (decide (b < a)), by simp [binOp, Op.intCmp], by rw [leInt_eq]; rw [show (!decide (a ≤ b)) = decide (b < a) by rw [Bool.eq_iff_iff]; simp]; exact .bool _⟩
  case geq => subst h; exact ⟨_, by simp [binOp, Op.intCmp]; rfl, by rw [leInt_eq]; exact .bool _⟩

theorem isNeg_iff (y : Int) : isNeg y = decide (y < 0) := by
  cases y with
  | ofNat m => simp [isNeg]
  | negSucc m => simp [isNeg]
theorem shift_sound {op : BinOp} {k k' : IntKind} {a b : Int} {v : AV} (h : shiftA op k a b = some v) (t : TypeId) (w : World) : Says P ρ w v (binOp op t (.int k a) (.int k' b)) := by
  simp only [shiftA, ifb_none'] at h
  obtain ⟨h0, h⟩ := h
  have hb : ¬ b < 0 := by rw [isNeg_iff] at h0; simpa using h0
  have hn : ∀ (n : Nat), ifb (Nat.ble n (bitsOf k)) n (bitsOf k) = min n k.bits := fun n => by
    rw [bitsOf_eq, ifb_eq]
    by_cases c : n ≤ k.bits
    · rw [if_pos (ble_t c), Nat.min_eq_left c]
    · rw [if_neg (by rw [ble_f (by omega)]; simp), Nat.min_eq_right (by omega)]
  have hb2 : natOf b = b.toNat := by cases b <;> first | rfl | omega
  have hpow : ∀ (n : Nat), Int.ofNat (Nat.pow 2 n) = (2 : Int) ^ n := fun n => by
    show ((2 ^ n : Nat) : Int) = _
    simp
  cases op <;> simp only [Option.some.injEq, reduceCtorEq] at h
  case shl =>
    subst h
    refine ⟨_, ?_, .int _ _⟩
    rw [hn, hb2, wrapF_eq, hpow]
    simp [binOp, Op.shift, hb]
  case shr =>
    subst h
    refine ⟨_, ?_, .int _ _⟩
    rw [hn, hb2, hpow]
    simp [binOp, Op.shift, hb]

/-! Equality. -/
theorem eq_sound (w : World) : ∀ (d : Nat) (t : TypeId) (x y : AV) (x' y' : Value) (b : Bool), eqA P d t x y = some b → VR ρ x x' → VR ρ y y' → (Op.equalIn d t x' y').run P w = .ok b w := by
  intro d
  induction d with
  | zero => intro t x y x' y' b h; simp [eqA] at h
  | succ d ih =>
    have fields : ∀ (fs : List Field) (xs ys : List AV) (xs' ys' : List Value) (b : Bool), fieldsEqA P (eqA P d) xs ys fs = some b → VRs ρ xs xs' → VRs ρ ys ys' → (Op.eqFields d ⟨xs'⟩ ⟨ys'⟩ fs).run P w = .ok b w := by
      intro fs
      induction fs with
      | nil => intro xs ys xs' ys' b h _ _; simp only [fieldsEqA] at h; injection h with h; subst h; rfl
      | cons f fs ihf =>
        intro xs ys xs' ys' b h hx hy
        simp only [fieldsEqA] at h
        simp only [Op.eqFields]
        by_cases hn : f.name = "_"
        · rw [show (f.name == "_") = true by simp [hn], ifb_true] at h
          rw [if_neg (by simp [hn])]
          exact ihf _ _ _ _ _ h hx hy
        · rw [show (f.name == "_") = false by simp [hn], ifb_false] at h
          simp only [ob_some] at h
          obtain ⟨a, h1, c, h2, r, h3, h4⟩ := h
          obtain ⟨a', k1, k2⟩ := part_sound h1 hx w
          obtain ⟨c', k3, k4⟩ := part_sound h2 hy w
          rw [if_pos (by simp [hn])]
          simp only [Sem.run_bind, k1, k3, Result.andThen_ok, ih _ _ _ _ _ _ h3 k2 k4]
          cases r with
          | true => simp only [ifb_true] at h4; simp only [Bool.not_true, Bool.false_eq_true, if_false]; exact ihf _ _ _ _ _ h4 hx hy
          | false => simp only [ifb_false] at h4; injection h4 with h4; subst h4; simp
    intro t x y x' y' b h hx hy
    unfold eqA at h
    split at h
    · rename_i a c hu; cases hx; cases hy; injection h with h; subst h; rw [eqBool_eq]; exact run_equalIn_bool w d t a c hu
    · rename_i k k1 a k2 c hu
      cases hx; cases hy
      simp only [ifb_none, eqKind_iff] at h
      obtain ⟨rfl, h⟩ := h
      injection h with h; subst h
      rw [eqInt_eq]; exact run_equalIn_int w d t _ _ a c hu
    · rename_i a c hu
      cases hx; cases hy; injection h with h; subst h
      rw [run_equalIn_string w d t a c hu, eqBytes_eq, ByteArray.toList_eq, ByteArray.toList_eq]
    all_goals try (rename_i hu; cases hx; cases hy; injection h with h; subst h; simp [Op.equalIn, run_underlying' hu]; done)
    all_goals try (rename_i hu; rw [ifb_none'] at h; obtain ⟨hn, h⟩ := h; injection h with h; subst h; cases hx <;> cases hy <;> first | (cases hn; done) | simp [Op.equalIn, run_underlying' hu]; done)
    · rename_i fs xs ys hu
      cases hx with
      | agg hx =>
        cases hy with
        | agg hy =>
          simp only [ifb_none'] at h
          have hf : P.fieldsOf t = fs := by simp [Program.fieldsOf, hu]
          rw [run_equalIn_struct w d t _ _ (by rw [hf]; exact hu) h.1, hf]
          exact fields _ _ _ _ _ _ h.2 hx hy
    all_goals cases h

end Go.Det
/- More operations that leave the heap alone. -/
set_option linter.unusedVariables false
set_option linter.unusedSimpArgs false
namespace Go.Det
variable {P : Program} {ρ : Names}

theorem eqGuard_nil {op : BinOp} {t : TypeId} {x y : Operand} (h : isConstO x = true ∨ isConstO y = true) (w : World) : (eqGuard op t x y .nilIface .nilIface).run P w = .ok () w := by
  cases op <;> first
    | rfl
    | (rcases h with h | h
       · cases x <;> first | (cases h; done) | rfl
       · cases y <;> first | (cases h; done) | (cases x <;> rfl))
theorem guard_sound {op : BinOp} {t : TypeId} {x y : Operand} {a b : AV} {a' b' : Value} (h : guardOk P op t x y a b = true) (ha : VR ρ a a') (hb : VR ρ b b') (w : World) :
    (eqGuard op t x y a' b').run P w = .ok () w := by
  have key : isEq op = true → guardVals P t x y a b = true → (eqGuard op t x y a' b').run P w = .ok () w := by
    intro _ hg
    cases ha <;> cases hb
    case nilIface.nilIface => exact eqGuard_nil (by simpa [guardVals] using hg) w
    case agg.agg => exact run_eqGuard_agg w op t x y _ _ (by simpa [guardVals] using hg)
    all_goals (cases op <;> rfl)
  unfold guardOk at h
  cases he : isEq op with
  | true => rw [he, ifb_true] at h; exact key he h
  | false => cases op <;> first | rfl | (cases he)

theorem ltBytes_eq : ∀ (x y : List UInt8), ltBytes x y = Op.bytesLess x y
  | x, [] => by cases x <;> rfl
  | [], _ :: _ => rfl
  | a :: x, b :: y => by
    simp only [ltBytes, Op.bytesLess, ifb_eq]
    rw [ltBytes_eq x y]
    have h1 : (Nat.ble (Nat.succ a.toNat) b.toNat = true) ↔ a < b := by
      rw [Nat.ble_eq, UInt8.lt_iff_toNat_lt]; exact Iff.rfl
    have h2 : (Nat.beq a.toNat b.toNat = true) ↔ a = b := by
      rw [Nat.beq_eq, UInt8.toNat_inj]
    by_cases c : a < b
    · rw [if_pos (h1.2 c)]; simp [c]
    · rw [if_neg (fun h => c (h1.1 h))]
      by_cases d : a = b
      · rw [if_pos (h2.2 d)]; simp [d]
      · rw [if_neg (fun h => d (h2.1 h))]; simp [c, d]

theorem bin_sound {op : BinOp} {t : TypeId} {a b v : AV} {a' b' : Value} (h : binA P op t a b = some v) (ha : VR ρ a a') (hb : VR ρ b b') (w : World) : Says P ρ w v (binOp op t a' b') := by
  unfold binA at h
  split at h
  · rename_i k x k' y
    cases ha; cases hb
    cases hs : isShift op with
    | true => rw [hs, ifb_true] at h; exact shift_sound h t w
    | false =>
      rw [hs, ifb_false, ifb_none, eqKind_iff] at h
      obtain ⟨rfl, h⟩ := h
      exact binInt_sound hs h t w
  · rename_i x y
    cases ha; cases hb
    split at h
    · injection h with h; subst h
      exact ⟨.bool (x.toList == y.toList), by simp [binOp, Op.stringOp], by rw [eqBytes_eq, ByteArray.toList_eq, ByteArray.toList_eq]; exact .bool _⟩
    · injection h with h; subst h
      exact ⟨.bool !(x.toList == y.toList), by simp [binOp, Op.stringOp], by rw [eqBytes_eq, ByteArray.toList_eq, ByteArray.toList_eq]; exact .bool _⟩
    · injection h with h; subst h
      exact ⟨.bool (Op.bytesLess x.toList y.toList), by simp [binOp, Op.stringOp], by rw [ltBytes_eq, ByteArray.toList_eq, ByteArray.toList_eq]; exact .bool _⟩
    · injection h with h; subst h
      exact ⟨.bool (Op.bytesLess x.toList y.toList || x.toList == y.toList), by simp [binOp, Op.stringOp], by rw [ltBytes_eq, eqBytes_eq, ByteArray.toList_eq, ByteArray.toList_eq]; exact .bool _⟩
    · injection h with h; subst h
      exact ⟨.bool !(Op.bytesLess x.toList y.toList || x.toList == y.toList), by simp [binOp, Op.stringOp], by rw [ltBytes_eq, eqBytes_eq, ByteArray.toList_eq, ByteArray.toList_eq]; exact .bool _⟩
    · injection h with h; subst h
      exact ⟨.bool !(Op.bytesLess x.toList y.toList), by simp [binOp, Op.stringOp], by rw [ltBytes_eq, ByteArray.toList_eq, ByteArray.toList_eq]; exact .bool _⟩
    · rw [ifb_none] at h
      obtain ⟨hb, h⟩ := h
      injection h with h; subst h
      have hb := of_ble hb
      have hs : x.size + y.size ≤ 9223372036854775807 := by
        have e1 : x.data.toList.length = x.size := by simp
        have e2 : y.data.toList.length = y.size := by simp
        rw [← e1, ← e2]; exact hb
      have e : (⟨⟨x.data.toList ++ y.data.toList⟩⟩ : ByteArray) = x ++ y := by
        apply ByteArray.ext
        simp
      rw [e]
      refine ⟨.string (x ++ y), ?_, .str _⟩
      have hm : IntKind.i64.max = 9223372036854775807 := by decide
      have : ¬ (((x.size + y.size : Nat) : Int) > IntKind.i64.max) := by rw [hm]; generalize x.size + y.size = z at hs ⊢; omega
      simp only [binOp, Op.stringOp]
      rw [if_neg this]
      rfl
    · cases h
  · rename_i n1 n2
    have key : ∀ (r : Bool), eqA P 10000 t a b = some r → (binOp .eql t a' b').run P w = .ok (.bool r) w ∧ (binOp .neq t a' b').run P w = .ok (.bool !r) w := by
      intro r hr
      have hq := eq_sound w 10000 t a b a' b' r hr ha hb
      have e1 : binOp .eql t a' b' = (do pure (.bool (← Op.equal t a' b'))) ∧ binOp .neq t a' b' = (do pure (.bool (!(← Op.equal t a' b')))) := by
        cases ha <;> cases hb <;> first
          | exact ⟨rfl, rfl⟩
          | exact absurd rfl (n1 _ _ _ _ rfl)
          | exact absurd rfl (n2 _ _ rfl)
      rw [e1.1, e1.2]
      constructor <;> simp [Op.equal, Op.maxDepth, hq]
    split at h
    · rw [om_some] at h; obtain ⟨r, hr, rfl⟩ := h; exact ⟨_, (key r hr).1, .bool _⟩
    · rw [om_some] at h; obtain ⟨r, hr, rfl⟩ := h; exact ⟨_, (key r hr).2, .bool _⟩
    · cases h

theorem un_sound {op : UnOp} {a v : AV} {a' : Value} (h : unA op a = some v) (ha : VR ρ a a') (w : World) : Says P ρ w v (Op.unary op a') := by
  unfold unA at h
  split at h
  · rename_i k n
    cases ha; injection h with h; subst h
    exact ⟨.int k (k.wrap (0 - n)), by simp [Op.unary, Op.intArith], by rw [wrapF_eq]; exact .int _ _⟩
  · rename_i k n
    cases ha
    obtain ⟨v', h1, h2⟩ := binInt_sound (P := P) (ρ := ρ) (op := .xor) rfl h 0 w
    refine ⟨v', ?_, h2⟩
    rw [← h1]
    cases k <;> simp [Op.unary, binOp, IntKind.signed, IntKind.max, IntKind.bits]
  · cases ha; injection h with h; subst h
    exact ⟨_, rfl, .bool _⟩
  · cases h

/-! Slices. -/
theorem natIn_sound {v : AV} {v' : Value} {y n y' : Nat} (h : natIn v y = some n) (hv : VR ρ v v') (hy : y ≤ y') (code : BoundsCode) (w : World) : (Instr.sliceBound v' y' code).run P w = .ok n w ∧ n ≤ y := by
  unfold natIn at h
  split at h
  · cases hv
    rw [ifb_none] at h
    obtain ⟨h1, h2⟩ := h
    injection h2 with h2; subst h2
    have := of_ble h1
    refine ⟨?_, this⟩
    simp [Instr.sliceBound, asIntOf]
    omega
  · cases h

inductive OptR (ρ : Names) : Option AV → Option Value → Prop where
  | none : OptR ρ none none
  | some {v : AV} {v' : Value} (h : VR ρ v v') : OptR ρ (some v) (some v')

theorem bounds_sound {len cap cap' : Nat} {lo hi mx : Option AV} {lo' hi' mx' : Option Value} {q : Bnd} (h : boundsA len cap lo hi mx = some q) (hlo : OptR ρ lo lo') (hhi : OptR ρ hi hi') (hmx : OptR ρ mx mx')
    (hlen : len ≤ cap) (hcap : cap ≤ cap') (b : Bool) (w : World) :
    ∃ m', (Instr.sliceBounds b len cap' lo' hi' mx').run P w = .ok (q.l, q.h, m') w ∧ q.l ≤ q.h ∧ q.h ≤ q.m ∧ q.m ≤ m' ∧ m' ≤ cap' ∧ ((mx = none ∧ cap' ≠ cap) ∨ m' = q.m) := by
  simp only [boundsA, ob_some, om_some] at h
  obtain ⟨m, h1, hh, h2, l, h3, rfl⟩ := h
  have hm : ∃ m', (match mx' with | some v => Instr.sliceBound v cap' (if b then .slice3Acap else .slice3Alen) | none => pure cap').run P w = .ok m' w ∧ m ≤ m' ∧ m' ≤ cap' ∧ ((mx = none ∧ cap' ≠ cap) ∨ m' = m) := by
    cases hmx with
    | none => injection h1 with h1; subst h1; exact ⟨cap', rfl, hcap, Nat.le_refl _, by by_cases c : cap' = cap <;> simp [c]⟩
    | some hv =>
      have := fun code => natIn_sound (P := P) h1 hv hcap code w
      exact ⟨m, (this _).1, Nat.le_refl _, Nat.le_trans (this .index).2 hcap, .inr rfl⟩
  obtain ⟨m', k1, k2, k3, k4⟩ := hm
  have hhm : (match hi', mx' with
      | some v, some _ => Instr.sliceBound v m' .slice3B
      | some v, none => Instr.sliceBound v m' (if b then .sliceAcap else .sliceAlen)
      | none, none => pure len
      | none, some _ => stuck "Slice: max without high").run P w = .ok hh w ∧ hh ≤ m := by
    cases hhi with
    | none =>
      cases hmx with
      | none => injection h1 with h1; subst h1; injection h2 with h2; subst h2; exact ⟨rfl, hlen⟩
      | some hv => cases h2
    | some hv =>
      have := fun code => natIn_sound (P := P) h2 hv k2 code w
      cases hmx <;> exact ⟨(this _).1, (this .index).2⟩
  have hl : (match lo' with | some v => Instr.sliceBound v hh (if mx'.isSome then .slice3C else .sliceB) | none => pure 0).run P w = .ok l w ∧ l ≤ hh := by
    cases hlo with
    | none => injection h3 with h3; subst h3; exact ⟨rfl, Nat.zero_le _⟩
    | some hv =>
      have := fun code => natIn_sound (P := P) h3 hv (Nat.le_refl _) code w
      exact ⟨(this _).1, (this .index).2⟩
  refine ⟨m', ?_, hl.2, hhm.2, k2, k3, k4⟩
  have hl1 := hl.1
  have hh1 := hhm.1
  clear hl hhm h1 h2 h3 k2 k3 k4
  unfold Instr.sliceBounds
  cases hmx <;> cases hhi <;> cases hlo <;> simp only [Sem.run_pure, run_stuck, Result.ok.injEq, and_true, reduceCtorEq, Option.isSome_some, Option.isSome_none, if_true, Bool.false_eq_true, if_false] at k1 hh1 hl1 <;>
    simp [k1, hh1, hl1]

theorem addr_ite (b o m l n : Nat) (h : m ≠ l) : (if m = l then (⟨b, o, none⟩ : Addr) else (⟨b, o, none⟩ : Addr).add (l * n)) = ⟨b, o + l * n, none⟩ := by rw [if_neg h, addr_add]

theorem slice_sound {st : St} {w : World} (hH : HR ρ st w) {t : TypeId} {x v : AV} {x' : Value} {lo hi mx : Option AV} {lo' hi' mx' : Option Value} (h : sliceOpA P st t x lo hi mx = some v)
    (hx : VR ρ x x') (hlo : OptR ρ lo lo') (hhi : OptR ρ hi hi') (hmx : OptR ρ mx mx') : Says P ρ w v (Instr.sliceAt t x' lo' hi' mx') := by
  unfold sliceOpA at h
  split at h
  · rename_i elem b o len cap ex e hu
    simp only [ob_some, ifb_none] at h
    obtain ⟨q, h1, n, h2, h3, h4⟩ := h
    injection h4 with h4; subst h4
    have hne : n = e := of_beq h3
    subst hne
    cases hx with
    | slice hL hlen hcap hex hA =>
      rename_i L a cap'
      obtain ⟨m', k1, k2, k3, k4, k5, k6⟩ := bounds_sound (P := P) h1 hlo hhi hmx hlen hcap true w
      refine ⟨.slice (if m' = q.l then some a else (some a).map (·.add (q.l * n))) (q.h - q.l) (m' - q.l), ?_, ?_⟩
      · simp [Instr.sliceAt, run_underlying' hu, Instr.slice, k1, run_sizeOf' h2]
      · have hs : (if m' = q.l then some a else (some a).map (·.add (q.l * n))) = some (if m' = q.l then a else a.add (q.l * n)) := by split <;> rfl
        rw [hs]
        refine .slice hL (by show q.h - q.l ≤ q.m - q.l; omega) (by show q.m - q.l ≤ m' - q.l; omega) ?_ ?_
        · intro he
          rcases k6 with ⟨rfl, hc⟩ | k6
          · simp at he; exact absurd (hex he) hc
          · show m' - q.l = q.m - q.l; rw [k6]
        · by_cases c : m' = q.l
          · left; omega
          · right
            rcases hA with hA | ⟨rfl, hB⟩
            · omega
            · rw [addr_ite _ _ _ _ _ c]
              refine ⟨by show _ = (⟨L.blk, L.off + (o + q.l * n), none⟩ : Addr); rw [Nat.add_assoc], ?_⟩
              show L.off + (o + q.l * n) + (m' - q.l) * n ≤ L.tot
              have : q.l * n + (m' - q.l) * n = m' * n := by rw [← Nat.add_mul]; congr 1; omega
              have : m' * n ≤ cap' * n := Nat.mul_le_mul_right _ k5
              omega
  · rename_i elem hu
    simp only [ob_some, om_some] at h
    obtain ⟨n, hn, q, h1, rfl⟩ := h
    cases hx
    obtain ⟨m', k1, k2, k3, k4, k5, k6⟩ := bounds_sound (P := P) h1 hlo hhi hmx (Nat.le_refl _) (Nat.le_refl _) true w
    have : q.l = 0 ∧ q.h = 0 ∧ m' = 0 := by omega
    refine ⟨.slice none 0 0, ?_, .nilSlice⟩
    simp [Instr.sliceAt, run_underlying' hu, Instr.slice, k1, run_sizeOf' hn, this.1, this.2.1, this.2.2]
  · rename_i elem l len cap ex own e hu
    simp only [ob_some, ifb_none, om_some, Bool.and_eq_true] at h
    obtain ⟨q, h1, n, h2, ⟨h3, h4⟩, l2, h5, rfl⟩ := h
    have hne : n = e := of_beq h3
    subst hne
    have hql : q.h ≤ len := of_ble h4
    cases hx with
    | vs hv hs hl hlen hcap hex hA hO =>
      rename_i l' a cap' blk off
      obtain ⟨m', k1, k2, k3, k4, k5, k6⟩ := bounds_sound (P := P) h1 hlo hhi hmx hlen hcap true w
      obtain ⟨s1, s2, s3⟩ := sub_some h5
      have hsl : allScalar l2 = true := by
        rw [allScalar_iff] at *
        intro u hu'
        rw [s2] at hu'
        exact hs u (List.mem_of_mem_drop (List.mem_of_mem_take hu'))
      have hv2 : VRs ρ l2 ((l'.drop (q.l * n)).take ((q.h - q.l) * n)) := by rw [s2]; exact (hv.drop _).take _
      have hget : ∀ (i : Nat) (v' : Value), ((l'.drop (q.l * n)).take ((q.h - q.l) * n))[i]? = some v' → l'[q.l * n + i]? = some v' := by
        intro i v' hi
        rcases Nat.lt_or_ge i ((q.h - q.l) * n) with hlt | hge
        · rw [List.getElem?_take_of_lt hlt, List.getElem?_drop] at hi; exact hi
        · rw [List.getElem?_eq_none (by rw [List.length_take]; omega)] at hi; cases hi
      refine ⟨.slice (if m' = q.l then some a else (some a).map (·.add (q.l * n))) (q.h - q.l) (m' - q.l), ?_, ?_⟩
      · simp [Instr.sliceAt, run_underlying' hu, Instr.slice, k1, run_sizeOf' h2]
      · have hs : (if m' = q.l then some a else (some a).map (·.add (q.l * n))) = some (if m' = q.l then a else a.add (q.l * n)) := by split <;> rfl
        rw [hs]
        refine .vs (blk := blk) (off := off + q.l * n) hv2 hsl s3 (by show q.h - q.l ≤ q.m - q.l; omega) (by show q.m - q.l ≤ m' - q.l; omega) ?_ ?_ (fun b hb => by cases hb)
        · intro he
          rcases k6 with ⟨rfl, hc⟩ | k6
          · simp at he; exact absurd (hex he) hc
          · show m' - q.l = q.m - q.l; rw [k6]
        · by_cases c : m' = q.l
          · left; omega
          · right
            rcases hA with hA | ⟨rfl, hm⟩
            · omega
            · rw [if_neg c, addr_add]
              exact ⟨rfl, fun i v' hi => by rw [Nat.add_assoc]; exact hm _ _ (hget _ _ hi)⟩
    | vsNil =>
      obtain ⟨m', k1, k2, k3, k4, k5, k6⟩ := bounds_sound (P := P) h1 hlo hhi hmx (Nat.le_refl _) (Nat.le_refl _) true w
      have hz : q.l = 0 ∧ q.h = 0 ∧ m' = 0 := by omega
      obtain ⟨s1, s2, s3⟩ := sub_some h5
      obtain rfl : l2 = [] := List.length_eq_zero_iff.1 (by rw [s3, hz.1, hz.2.1]; simp)
      have e1 : Nat.sub q.h q.l = 0 := by show q.h - q.l = 0; omega
      have e2 : Nat.sub q.m q.l = 0 := by show q.m - q.l = 0; omega
      refine ⟨.slice none 0 0, ?_, by rw [e1, e2]; exact .vsNil⟩
      simp [Instr.sliceAt, run_underlying' hu, Instr.slice, k1, run_sizeOf' h2, hz.1, hz.2.1, hz.2.2]
  · rename_i k elem b o hu
    simp only [ob_some, ifb_none] at h
    obtain ⟨q, h1, n, h2, r, h3, h4, h5⟩ := h
    injection h5 with h5; subst h5
    cases hx with
    | ptr hL =>
      rename_i L
      obtain ⟨m', k1, k2, k3, k4, k5, k6⟩ := bounds_sound (P := P) h1 hlo hhi hmx (Nat.le_refl _) (Nat.le_refl _) false w
      have k7 : m' = q.m := by rcases k6 with ⟨_, hc⟩ | h; exact absurd rfl hc; exact h
      subst k7
      obtain ⟨L', hL', hO⟩ := hH.obj _ _ (rowOf_some.1 h3)
      obtain rfl : L' = L := by rw [hL] at hL'; injection hL' with h; exact h.symm
      obtain ⟨arr, e, lo0, hi0, r1, r2, r3, _⟩ := hO
      have h4' := of_ble h4
      refine ⟨.slice (some (if q.m = q.l then ⟨L'.blk, L'.off + o, none⟩ else (⟨L'.blk, L'.off + o, none⟩ : Addr).add (q.l * n))) (q.h - q.l) (q.m - q.l), ?_, ?_⟩
      · simp [Instr.sliceAt, run_underlying' hu, Instr.sureAddr, k1, run_sizeOf' h2]
      · refine .slice hL (by show q.h - q.l ≤ q.m - q.l; omega) (Nat.le_refl _) (fun _ => rfl) ?_
        by_cases c : q.m = q.l
        · left; show q.m - q.l = 0; omega
        · right
          rw [addr_ite _ _ _ _ _ c]
          refine ⟨by show _ = (⟨L'.blk, L'.off + (o + q.l * n), none⟩ : Addr); rw [Nat.add_assoc], ?_⟩
          show L'.off + (o + q.l * n) + (q.m - q.l) * n ≤ L'.tot
          have e1 : q.l * n + (q.m - q.l) * n = q.m * n := by rw [← Nat.add_mul]; congr 1; omega
          have e2 : q.m * n ≤ k * n := Nat.mul_le_mul_right _ k5
          have : o + k * n ≤ r.1.length := h4'
          omega
  · rename_i s hu
    cases hx
    split at h
    · cases h
    · rw [om_some] at h
      obtain ⟨q, h1, rfl⟩ := h
      cases hmx
      obtain ⟨m', k1, k2, k3, k4, k5, k6⟩ := bounds_sound (P := P) h1 hlo hhi .none (Nat.le_refl _) (Nat.le_refl _) false w
      refine ⟨.string (s.extract q.l q.h), ?_, .str _⟩
      simp [Instr.sliceAt, run_underlying' hu, Instr.slice, k1]
  · cases h

end Go.Det

/- The rest of the operations that leave the heap alone; the law of all of them. -/
set_option linter.unusedVariables false
set_option linter.unusedSimpArgs false
namespace Go.Det
variable {P : Program} {ρ : Names}

theorem bytesOfA_cons {v : AV} {l : List AV} {r : List UInt8} (h : bytesOfA (v :: l) = some r) : ∃ n r2, v = .int .u8 (.ofNat n) ∧ bytesOfA l = some r2 ∧ r = UInt8.ofNat n :: r2 := by
  unfold bytesOfA at h
  split at h
  · rename_i e; cases e
  · rename_i n l2 e
    injection e with e1 e2
    subst e1; subst e2
    simp only [ifb_none, om_some] at h
    obtain ⟨_, r2, h2, rfl⟩ := h
    exact ⟨n, r2, rfl, h2, rfl⟩
  · cases h
theorem bytes_sound : ∀ {cs : List AV} {cs' : List Value} {l : List UInt8}, VRs ρ cs cs' → bytesOfA cs = some l → ∀ (s : ByteArray) (w : World),
    (forIn cs' s (fun c r => (match c with | .int .u8 n => pure (ForInStep.yield (r.push (UInt8.ofNat n.toNat))) | _ => (fun (_ : PUnit) => ForInStep.yield r) <$> stuck "bytesToString: byte expected") : Value → ByteArray → Sem (ForInStep ByteArray))).run P w = .ok ⟨s.data ++ l.toArray⟩ w
  | _, _, l, .nil, h, s, w => by
    simp only [bytesOfA] at h; injection h with h; subst h
    simp
  | _, _, l, .cons hv t, h, s, w => by
    obtain ⟨n, r2, rfl, h2, rfl⟩ := bytesOfA_cons h
    cases hv
    simp only [List.forIn_cons, Sem.run_bind, Sem.run_pure, Result.andThen_ok]
    rw [bytes_sound t h2]
    congr 2
    apply Array.ext'
    simp [ByteArray.push]

theorem convert_sound {st : St} {w : World} (hH : HR ρ st w) {s t : TypeId} {x v : AV} {x' : Value} (h : convertA P st s t x = some v) (hx : VR ρ x x') : Says P ρ w v (convert s t x') := by
  unfold convertA at h
  split at h
  · rename_i k1 k n m hs hd
    cases hx; injection h with h; subst h
    exact ⟨_, by simp [convert, run_underlying' hs, run_underlying' hd, Conv.intToInt]; rfl, by rw [wrapF_eq]; exact .int _ _⟩
  · rename_i s0 hs hd
    cases hx; injection h with h; subst h
    exact ⟨.string s0, by simp [convert, run_underlying' hs, run_underlying' hd], .str _⟩
  · rename_i e hs hd
    split at h
    · rename_i he
      split at h
      · cases hx; injection h with h; subst h
        exact ⟨.string ⟨#[]⟩, by simp [convert, run_underlying' hs, run_underlying' hd, run_underlying' he, Conv.bytesToString]; rfl, .str _⟩
      · rename_i b o n cap ex
        simp only [ob_some, om_some] at h
        obtain ⟨r, h1, cs, h2, l, h3, rfl⟩ := h
        cases hx with
        | slice hL hlen hcap hex hA =>
          rename_i L a cap'
          by_cases hn : n = 0
          · subst hn
            obtain ⟨_, h4, h5⟩ := sub_some h2
            obtain rfl : cs = [] := List.length_eq_zero_iff.1 h5
            simp only [bytesOfA] at h3; injection h3 with h3; subst h3
            refine ⟨.string ⟨#[]⟩, ?_, .str _⟩
            simp [convert, run_underlying' hs, run_underlying' hd, run_underlying' he, Conv.bytesToString, loadCells, loadCellsFrom]
            rfl
          · obtain ⟨L', hL', hO⟩ := hH.obj _ _ (rowOf_some.1 h1)
            obtain rfl : L' = L := by rw [hL] at hL'; injection hL' with h; exact h.symm
            rcases hA with hA | ⟨rfl, _⟩
            · omega
            · obtain ⟨l', k1, k2⟩ := loadCells_sound (P := P) hO h2
              refine ⟨.string ⟨l.toArray⟩, ?_, .str _⟩
              have := bytes_sound (P := P) k2 h3 ByteArray.empty w
              simp [convert, run_underlying' hs, run_underlying' hd, run_underlying' he, Conv.bytesToString, k1]
              erw [this]
              show Result.ok (Value.string ⟨#[] ++ l.toArray⟩) w = _
              simp
      · rename_i l0 n cap ex own
        simp only [om_some] at h
        obtain ⟨l, h3, rfl⟩ := h
        cases hx with
        | vs hv hsc hl hlen hcap hex hA hO =>
          rename_i l' a cap' blk off
          by_cases hn : n = 0
          · subst hn
            have : l0 = [] := List.length_eq_zero_iff.1 (by simpa using hl)
            subst this
            simp only [bytesOfA] at h3; injection h3 with h3; subst h3
            refine ⟨.string ⟨#[]⟩, ?_, .str _⟩
            simp [convert, run_underlying' hs, run_underlying' hd, run_underlying' he, Conv.bytesToString, loadCells, loadCellsFrom]
            rfl
          · rcases hA with hA | ⟨rfl, hm⟩
            · omega
            · have hsub : sub 0 n l0 = some l0 := by
                show takeX n l0 = some l0
                rw [takeX_some]; exact ⟨by omega, by rw [List.take_of_length_le (by omega)]⟩
              obtain ⟨l1, k1, k2⟩ := loadCells_at (P := P) (mem_at hH hv hm) hsub
              refine ⟨.string ⟨l.toArray⟩, ?_, .str _⟩
              have := bytes_sound (P := P) k2 h3 ByteArray.empty w
              have k1' := k1 w.drawn
              rw [Nat.add_zero] at k1'
              simp [convert, run_underlying' hs, run_underlying' hd, run_underlying' he, Conv.bytesToString, k1']
              erw [this]
              show Result.ok (Value.string ⟨#[] ++ l.toArray⟩) w = _
              simp
        | vsNil =>
          simp only [bytesOfA] at h3; injection h3 with h3; subst h3
          exact ⟨.string ⟨#[]⟩, by simp [convert, run_underlying' hs, run_underlying' hd, run_underlying' he, Conv.bytesToString]; rfl, .str _⟩
      · cases h
    · cases h
  · cases h

theorem indexAddr_sound {t : TypeId} {x i v : AV} {x' i' : Value} (h : indexAddrA P t x i = some v) (hx : VR ρ x x') (hi : VR ρ i i') (w : World) : Says P ρ w v (Instr.indexAt t x' i') := by
  unfold indexAddrA at h
  split at h
  · rename_i elem b o len cap ex e k n hu
    simp only [ifb_none, ob_some] at h
    obtain ⟨h1, s, h2, h3, h4⟩ := h
    injection h4 with h4; subst h4
    have hlt := of_ble h1
    have hse : s = e := of_beq h3
    subst hse
    cases hi
    cases hx with
    | slice hL hlen hcap hex hA =>
      rename_i L a cap'
      rcases hA with hA | ⟨rfl, _⟩
      · omega
      · refine ⟨.pointer (some ⟨L.blk, L.off + o + n * s, none⟩), ?_, ?_⟩
        · have : (0 : Int) ≤ (n : Int) ∧ (n : Int) < (len : Int) := by omega
          simp [Instr.indexAt, asIntOf, run_underlying' hu, run_sizeOf' h2, addr_add]
          intro hc; omega
        · rw [Nat.add_assoc]; exact .ptr hL
  · rename_i len elem b o k n hu
    simp only [ifb_none, om_some] at h
    obtain ⟨h1, s, h2, rfl⟩ := h
    have hlt := of_ble h1
    cases hi
    cases hx with
    | ptr hL =>
      rename_i L
      refine ⟨.pointer (some ⟨L.blk, L.off + o + n * s, none⟩), ?_, ?_⟩
      · simp [Instr.indexAt, asIntOf, run_underlying' hu, run_sizeOf' h2, Instr.sureAddr]
        rw [if_pos (by omega), addr_add]
      · rw [Nat.add_assoc]; exact .ptr hL
  · rename_i elem l len cap ex own e k n hu
    simp only [ifb_none, ob_some] at h
    obtain ⟨h1, s, h2, h3, h4⟩ := h
    injection h4 with h4; subst h4
    have hlt := of_ble h1
    have hse : s = e := of_beq h3
    subst hse
    cases hi
    cases hx with
    | vs hv hsc hl hlen hcap hex hA hO =>
      rename_i l' a cap' blk off
      rcases hA with hA | ⟨rfl, hm⟩
      · omega
      · refine ⟨.pointer (some ⟨blk, off + n * s, none⟩), ?_, .vptr hv hsc hm⟩
        have : (0 : Int) ≤ (n : Int) ∧ (n : Int) < (len : Int) := by omega
        simp [Instr.indexAt, asIntOf, run_underlying' hu, run_sizeOf' h2, addr_add]
        intro hc; omega
    | vsNil => omega
  · rename_i len elem l o k n hu
    simp only [ifb_none, om_some] at h
    obtain ⟨h1, s, h2, rfl⟩ := h
    have hlt := of_ble h1
    cases hi
    cases hx with
    | vptr hv hsc hm =>
      rename_i l' blk off
      refine ⟨.pointer (some ⟨blk, off + o + n * s, none⟩), ?_, ?_⟩
      · simp [Instr.indexAt, asIntOf, run_underlying' hu, run_sizeOf' h2, Instr.sureAddr]
        rw [if_pos (by omega), addr_add]
      · rw [Nat.add_assoc]; exact .vptr hv hsc hm
  · rename_i len elem g o k n hu
    simp only [ifb_none, om_some] at h
    obtain ⟨h1, s, h2, rfl⟩ := h
    have hlt := of_ble h1
    cases hi
    cases hx
    refine ⟨.pointer (some ⟨g, o + n * s, none⟩), ?_, .gptr⟩
    simp [Instr.indexAt, asIntOf, run_underlying' hu, run_sizeOf' h2, Instr.sureAddr]
    rw [if_pos (by omega), addr_add]
  · cases h

theorem index_sound {t : TypeId} {x i v : AV} {x' i' : Value} (h : indexA P t x i = some v) (hx : VR ρ x x') (hi : VR ρ i i') (w : World) : Says P ρ w v (Instr.index t x' i') := by
  unfold indexA at h
  split at h
  · rename_i len elem cs k n hu
    simp only [ifb_none, ob_some] at h
    obtain ⟨h1, s, h2, h3⟩ := h
    have hlt := of_ble h1
    cases hi
    cases hx with
    | agg hx =>
      obtain ⟨v', k1, k2⟩ := part_sound h3 hx w
      refine ⟨v', ?_, k2⟩
      simp [Instr.index, asIntOf, run_underlying' hu, run_sizeOf' h2]
      rw [if_pos (by omega)]; exact k1
  · rename_i s k n hu
    simp only [om_some, nth_eq] at h
    obtain ⟨b, h1, rfl⟩ := h
    cases hi; cases hx
    refine ⟨.int .u8 b.toNat, ?_, .int _ _⟩
    have : s[n]? = some b := by
      rw [← h1]; simp only [Array.getElem?_toList]; rfl
    simp [Instr.index, asIntOf, run_underlying' hu, this]
  · cases h

theorem fieldT_some {t f : Nat} {fd : Field} (h : fieldT P t f = some fd) : ∃ fs, P.underlying t = some (.struct fs) ∧ fs[f]? = some fd := by
  unfold fieldT at h
  split at h
  · exact ⟨_, by assumption, h⟩
  · cases h

theorem sameKey0_sound {d : TypeDesc} {t : TypeId} (hu : P.underlying t = some d) {k e : AV} {k' e' : Value} {b : Bool} (h : sameKey0 k e = some b) (hk : VR ρ k k') (he : VR ρ e e') (hkk : kindAt P t k = true) : Instr.sameNow d k' e' = some b := by
  unfold kindAt at hkk
  rw [hu] at hkk
  unfold sameKey0 at h
  split at h
  · rename_i k1 a k2 c
    rw [ifb_none, eqKind_iff] at h
    obtain ⟨rfl, h⟩ := h
    injection h with h; subst h
    cases hk; cases he
    cases d <;> simp at hkk
    simp [Instr.sameNow, eqInt_eq]
  · rename_i a c
    injection h with h; subst h
    cases hk; cases he
    cases d <;> simp at hkk
    simp [Instr.sameNow, eqBytes_eq, beq_toListBytes, ByteArray.toList_eq]
  · rename_i a c
    injection h with h; subst h
    cases hk; cases he
    cases d <;> simp at hkk
    simp [Instr.sameNow, eqBool_eq]
  · cases h
/-! Keys that are structs of plain fields. -/
theorem kindAt_agg {t : TypeId} {k : AV} (h : kindAt P t k = true) : aggT P t = some false := by
  unfold kindAt at h
  unfold aggT
  split at h <;> first | (rename_i hu; rw [hu]; done) | cases h
theorem kindAt_eqA {t : TypeId} {x y : AV} {b : Bool} (h : kindAt P t x = true) (hs : sameKey0 x y = some b) (d : Nat) : eqA P (d + 1) t x y = some b := by
  unfold kindAt at h
  unfold eqA
  split at h
  · rename_i hu
    rw [hu]
    cases y <;> first | (simp only [sameKey0] at hs; cases hs; done) | exact hs
  · rename_i hu
    rw [hu]
    cases y <;> first | (simp only [sameKey0] at hs; cases hs; done) | exact hs
  · rename_i hu
    rw [hu]
    cases y <;> first | (simp only [sameKey0] at hs; cases hs; done) | exact hs
  · cases h
theorem kindAt_part {t : TypeId} {x : AV} (h : kindAt P t x = true) {pre cs : List AV} {y : AV} : partA P t (pre ++ y :: cs) pre.length = some y := by
  simp only [partA, ob_eq, kindAt_agg h, Option.bind_some, ifb_false, nth_eq]
  simp
theorem flat_eqA {d : Nat} : ∀ {fs : List Field} {cs ds pre pre' : List AV} {b : Bool}, flatFrom P pre.length fs cs = true → pre'.length = pre.length → sameCells cs ds = some b → fieldsEqA P (eqA P (d + 1)) (pre ++ cs) (pre' ++ ds) fs = some b
  | [], [], [], _, _, b, _, _, h => h
  | [], [], _ :: _, _, _, _, _, _, h => by simp [sameCells] at h
  | [], _ :: _, _, _, _, _, h, _, _ => by simp [flatFrom] at h
  | _ :: _, [], _, _, _, _, h, _, _ => by simp [flatFrom] at h
  | _ :: _, _ :: _, [], _, _, _, _, _, h => by simp [sameCells] at h
  | f :: fs, c :: cs, x :: ds, pre, pre', b, hf, hl, h => by
    simp only [flatFrom] at hf
    cases hn : (f.name == "_") with
    | true => rw [hn, ifb_true] at hf; cases hf
    | false =>
      rw [hn, ifb_false, ifb_eq, ifb_eq] at hf
      by_cases c1 : Nat.beq f.offset pre.length = true
      · rw [if_pos c1] at hf
        by_cases c2 : kindAt P f.type c = true
        · rw [if_pos c2] at hf
          have e := of_beq c1
          simp only [fieldsEqA, hn, ifb_false]
          rw [e, kindAt_part c2]
          rw [← hl, kindAt_part c2]
          simp only [sameCells, ob_some] at h
          obtain ⟨r, h1, h2⟩ := h
          simp only [ob_eq, Option.bind_some, kindAt_eqA c2 h1]
          cases r with
          | false => rw [ifb_false] at h2 ⊢; exact h2
          | true =>
            rw [ifb_true] at h2 ⊢
            have := flat_eqA (d := d) (fs := fs) (cs := cs) (ds := ds) (pre := pre ++ [c]) (pre' := pre' ++ [x]) (b := b) (by rw [List.length_append]; exact hf) (by simp [hl]) h2
            simpa using this
        · rw [if_neg c2] at hf; cases hf
      · rw [if_neg c1] at hf; cases hf
theorem keyKind_struct {t : TypeId} {k : AV} (h : keyKind P t k = true) : kindAt P t k = true ∧ (∀ cs, k ≠ .agg cs) ∨ ∃ fs cs, P.underlying t = some (.struct fs) ∧ k = .agg cs ∧ P.stoodInHeld t = false ∧ flatFrom P 0 fs.toList cs = true := by
  unfold keyKind at h
  split at h
  · rename_i fs cs hu
    rw [ifb_eq] at h
    by_cases c : P.stoodInHeld t = true
    · rw [if_pos c] at h; cases h
    · rw [if_neg c] at h; exact .inr ⟨fs, cs, hu, rfl, by simpa using c, h⟩
  · refine .inl ⟨h, fun cs e => ?_⟩
    subst e
    unfold kindAt at h
    split at h
    · rename_i e; cases e
    · rename_i e; cases e
    · rename_i e; cases e
    · cases h
theorem equal_key {t : TypeId} {fs : Array Field} {cs : List AV} {e : AV} {k' e' : Value} {b : Bool} (hu : P.underlying t = some (.struct fs)) (hs : P.stoodInHeld t = false) (hf : flatFrom P 0 fs.toList cs = true) (h : sameKey (.agg cs) e = some b) (hk : VR ρ (.agg cs) k') (he : VR ρ e e') (w : World) : (Op.equal t k' e').run P w = .ok b w := by
  cases e with
  | agg ds =>
    have h' : sameCells cs ds = some b := h
    have e1 := flat_eqA (P := P) (d := 9998) (pre := []) (pre' := []) hf rfl h'
    have e2 : eqA P (9999 + 1) t (.agg cs) (.agg ds) = some b := by
      have e3 : ∀ d, eqA P (d + 1) t (.agg cs) (.agg ds) = fieldsEqA P (eqA P d) cs ds fs.toList := fun d => by simp only [eqA, hu, hs, ifb_false]
      rw [e3]; exact e1
    exact eq_sound w 10000 t (.agg cs) (.agg ds) k' e' b e2 hk he
  | _ => simp [sameKey, sameKey0] at h
theorem findAsking_sound {t : TypeId} {k : AV} {k' : Value} {w : World} (heq : ∀ e e' b, sameKey k e = some b → VR ρ e e' → (Op.equal t k' e').run P w = .ok b w) : ∀ {es : List AEntry} {es' : List MapEntry} (i : Nat) {r : Option (Nat × AV)}, ERs ρ es es' → findA k es i = some r →
    ∃ r', (Instr.findAsking t k' es' i).run P w = .ok r' w ∧ ((r = none ∧ r' = none) ∨ ∃ j v v', r = some (j, v) ∧ r' = some (j, v') ∧ VR ρ v v')
  | _, _, i, r, .nil, h => by simp only [findA] at h; injection h with h; subst h; exact ⟨none, rfl, .inl ⟨rfl, rfl⟩⟩
  | _, _, i, r, .cons (k := k2) (v := v2) (k' := k3) (v' := v3) hk2 hv2 t2, h => by
    simp only [findA, ob_some] at h
    obtain ⟨b, h1, h2⟩ := h
    have hs := heq _ _ _ h1 hk2
    cases b with
    | true =>
      rw [ifb_true] at h2; injection h2 with h2; subst h2
      exact ⟨some (i, v3), by simp [Instr.findAsking, hs], .inr ⟨i, _, _, rfl, rfl, hv2⟩⟩
    | false =>
      rw [ifb_false] at h2
      obtain ⟨r', k1, k2⟩ := findAsking_sound heq (i + 1) t2 h2
      exact ⟨r', by simp [Instr.findAsking, hs, k1], k2⟩
theorem find_sound {d : TypeDesc} {t : TypeId} (hu : P.underlying t = some d) {k : AV} {k' : Value} (hk : VR ρ k k') (hkk : kindAt P t k = true) (hn : ∀ cs, k ≠ .agg cs) : ∀ {es : List AEntry} {es' : List MapEntry} (i : Nat) {r : Option (Nat × AV)}, ERs ρ es es' → findA k es i = some r →
    ∃ r', Instr.findNow d k' es' i = some r' ∧ ((r = none ∧ r' = none) ∨ ∃ j v v', r = some (j, v) ∧ r' = some (j, v') ∧ VR ρ v v')
  | _, _, i, r, .nil, h => by simp only [findA] at h; injection h with h; subst h; exact ⟨none, rfl, .inl ⟨rfl, rfl⟩⟩
  | _, _, i, r, .cons (k := k2) (v := v2) (k' := k3) (v' := v3) hk2 hv2 t2, h => by
    simp only [findA, ob_some] at h
    obtain ⟨b, h1, h2⟩ := h
    have h1' : sameKey0 k k2 = some b := by
      unfold sameKey at h1
      split at h1
      · exact absurd rfl (hn _)
      · exact h1
    have hs := sameKey0_sound hu h1' hk hk2 hkk
    cases b with
    | true =>
      rw [ifb_true] at h2; injection h2 with h2; subst h2
      exact ⟨some (i, v3), by simp [Instr.findNow, hs], .inr ⟨i, _, _, rfl, rfl, hv2⟩⟩
    | false =>
      rw [ifb_false] at h2
      obtain ⟨r', k1, k2⟩ := find_sound hu hk hkk hn (i + 1) t2 h2
      exact ⟨r', by simp [Instr.findNow, hs, k1], k2⟩
theorem findNow_struct {fs : Array Field} {k' : Value} : ∀ (es' : List MapEntry) (i : Nat), es' ≠ [] → Instr.findNow (.struct fs) k' es' i = none
  | [], _, h => absurd rfl h
  | e :: es, i, _ => by
    have : Instr.sameNow (.struct fs) k' e.key = none := by simp [Instr.sameNow]
    simp [Instr.findNow, this]
theorem findKey_sound {t : TypeId} {k : AV} {k' : Value} (hk : VR ρ k k') (hkk : keyKind P t k = true) {es : List AEntry} {es' : List MapEntry} {r : Option (Nat × AV)} (he : ERs ρ es es') (h : findA k es 0 = some r) (w : World) :
    ∃ r', (Instr.findKey t k' es').run P w = .ok r' w ∧ ((r = none ∧ r' = none) ∨ ∃ j v v', r = some (j, v) ∧ r' = some (j, v') ∧ VR ρ v v') := by
  rcases keyKind_struct hkk with ⟨h0, hn⟩ | ⟨fs, cs, hu, rfl, hs, hf⟩
  · have : ∃ d, P.underlying t = some d := by
      unfold kindAt at h0
      cases hu : P.underlying t with
      | none => rw [hu] at h0; simp at h0
      | some d => exact ⟨d, rfl⟩
    obtain ⟨d, hu⟩ := this
    obtain ⟨r', k1, k2⟩ := find_sound hu hk h0 hn 0 he h
    exact ⟨r', by simp [Instr.findKey, run_underlying' hu, k1], k2⟩
  · obtain ⟨r', k1, k2⟩ := findAsking_sound (P := P) (w := w) (fun e e' b h1 h2 => equal_key hu hs hf h1 hk h2 w) 0 he h
    refine ⟨r', ?_, k2⟩
    cases es' with
    | nil =>
      cases he
      simp only [findA] at h; injection h with h; subst h
      rcases k2 with ⟨_, rfl⟩ | ⟨_, _, _, e, _⟩
      · simp [Instr.findKey, run_underlying' hu, Instr.findNow]
      · cases e
    | cons e es =>
      simp only [Instr.findKey, Sem.run_bind, run_underlying' hu, Result.andThen_ok, findNow_struct (fs := fs) (k' := k') (e :: es) 0 (by simp), k1]
theorem checkKey_flat {t : TypeId} {k : AV} {k' : Value} (hk : VR ρ k k') (hkk : kindAt P t k = true) (b : Bool) (n : Nat) (w : World) : (Instr.checkKey b (n + 1) t k').run P w = .ok () w := by
  unfold kindAt at hkk
  cases hu : P.underlying t with
  | none => rw [hu] at hkk; simp at hkk
  | some d =>
    rw [hu] at hkk
    cases hk <;> cases d <;> simp at hkk <;> simp [Instr.checkKey, run_underlying' hu]
theorem flat_check {b : Bool} {n : Nat} {w : World} : ∀ {fs : List Field} {cs pre : List AV} {cs' pre' : List Value}, flatFrom P pre.length fs cs = true → VRs ρ pre pre' → VRs ρ cs cs' →
    (forIn fs PUnit.unit fun f _ => (if f.name ≠ "_" then (do
        let v ← part f.type ⟨pre' ++ cs'⟩ f.offset
        Instr.checkKey b (n + 1) f.type v
        pure (ForInStep.yield PUnit.unit)) else pure (ForInStep.yield PUnit.unit) : Sem (ForInStep PUnit))).run P w = .ok PUnit.unit w
  | [], _, _, _, _, _, _, _ => rfl
  | _ :: _, [], _, _, _, h, _, _ => by simp [flatFrom] at h
  | f :: fs, c :: cs, pre, _, pre', hf, hp, .cons (v' := c') (l' := cs') hc hcs => by
    simp only [flatFrom] at hf
    cases hn : (f.name == "_") with
    | true => rw [hn, ifb_true] at hf; cases hf
    | false =>
      rw [hn, ifb_false, ifb_eq, ifb_eq] at hf
      by_cases c1 : Nat.beq f.offset pre.length = true
      · rw [if_pos c1] at hf
        by_cases c2 : kindAt P f.type c = true
        · rw [if_pos c2] at hf
          have e := of_beq c1
          have hn' : f.name ≠ "_" := by simpa using hn
          have hpart := part_sound (P := P) (t := f.type) (off := f.offset) (cs := pre ++ c :: cs) (cs' := pre' ++ c' :: cs') (v := c) (by rw [e]; exact kindAt_part (y := c) c2) (hp.append (.cons hc hcs)) w
          obtain ⟨v', p1, p2⟩ := hpart
          have ih := flat_check (b := b) (n := n) (w := w) (fs := fs) (cs := cs) (pre := pre ++ [c]) (cs' := cs') (pre' := pre' ++ [c']) (by rw [List.length_append]; exact hf) (hp.append (.cons hc .nil)) hcs
          simp only [List.forIn_cons, if_pos hn', Sem.run_bind, p1, Result.andThen_ok, checkKey_flat p2 c2 b n w, Sem.run_pure]
          simpa using ih
        · rw [if_neg c2] at hf; cases hf
      · rw [if_neg c1] at hf; cases hf
theorem checkKey_sound {t : TypeId} {k : AV} {k' : Value} (hk : VR ρ k k') (hkk : keyKind P t k = true) (b : Bool) (w : World) : (Instr.checkKey b 10000 t k').run P w = .ok () w := by
  rcases keyKind_struct hkk with ⟨h0, hn⟩ | ⟨fs, cs, hu, rfl, hs, hf⟩
  · exact checkKey_flat hk h0 b 9999 w
  · cases hk with
    | agg hk =>
      rw [show (10000 : Nat) = 9998 + 1 + 1 from rfl, Instr.checkKey]
      simp only [Sem.run_bind, run_underlying' hu, Result.andThen_ok]
      have := flat_check (b := b) (n := 9998) (w := w) (pre := []) (pre' := []) hf .nil hk
      rw [← Array.forIn_toList]
      simp only [List.nil_append] at this
      simp only [this, Result.andThen_ok, Sem.run_pure]

theorem mapOf_some {st : St} {b : Nat} {q : List AEntry × Nat} : mapOf st b = some q ↔ st.heap.get b = some (.map q.1 q.2) := by
  unfold mapOf
  rw [ob_some]
  constructor
  · rintro ⟨o, h, h'⟩
    cases o <;> simp at h'
    subst h'; exact h
  · intro h; exact ⟨_, h, rfl⟩

theorem lookup_sound {st : St} {w : World} (hH : HR ρ st w) {t : TypeId} {x k v : AV} {x' k' : Value} {ok : Bool} (h : lookupA P st t x k ok = some v) (hx : VR ρ x x') (hk : VR ρ k k') : Says P ρ w v (Instr.lookup t x' k' ok) := by
  unfold lookupA at h
  split at h
  · rename_i key elem hu
    simp only [ifb_none, ob_some] at h
    obtain ⟨hkk, es, h1, r, h2, h3⟩ := h
    have hes : ∃ es' : List MapEntry, ERs ρ es es' ∧ ((x' = .map none ∧ es' = []) ∨ ∃ r c, x' = .map (some r) ∧ w.heap[r]? = some (.map ⟨es'⟩ c)) := by
      unfold entriesOf at h1
      split at h1
      · cases hx; injection h1 with h1; subst h1; exact ⟨[], .nil, .inl ⟨rfl, rfl⟩⟩
      · rename_i b
        cases hx with
        | map hL =>
          rename_i L
          rw [om_some] at h1
          obtain ⟨q, h4, rfl⟩ := h1
          obtain ⟨L', hL', es', h5, h6⟩ := hH.obj _ _ (mapOf_some.1 h4)
          obtain rfl : L' = L := by rw [hL] at hL'; injection hL' with h; exact h.symm
          exact ⟨es', h6, .inr ⟨_, _, rfl, h5⟩⟩
      · cases h1
    obtain ⟨es', he, hrun⟩ := hes
    obtain ⟨r', k1, k2⟩ := findKey_sound (P := P) hk hkk he h2 w
    have hc := fun b => checkKey_sound (P := P) hk hkk b w
    have main : ∀ u : Value, ((∃ p, r' = some p ∧ u = (if ok then .tuple #[p.2, .bool true] else p.2)) ∨ (r' = none ∧ ∃ z, (zeroValue elem).run P w = .ok z w ∧ u = (if ok then .tuple #[z, .bool false] else z))) →
        (Instr.lookup t x' k' ok).run P w = .ok u w := by
      intro u hu'
      unfold Instr.lookup
      rcases hrun with ⟨rfl, rfl⟩ | ⟨rr, c, rfl, hobj⟩
      · rcases hu' with ⟨p, rfl, rfl⟩ | ⟨rfl, z, hz, rfl⟩
        · simp [run_underlying' hu, hc, k1]
        · simp [run_underlying' hu, hc, k1, hz]
      · rcases hu' with ⟨p, rfl, rfl⟩ | ⟨rfl, z, hz, rfl⟩
        · simp [run_underlying' hu, hc, k1, getObj, Sem.run, hobj]
        · simp [run_underlying' hu, hc, k1, getObj, Sem.run, hobj, hz]
    rcases k2 with ⟨rfl, rfl⟩ | ⟨j, u, u', rfl, rfl, hu'⟩
    · simp only [om_some] at h3
      obtain ⟨z, h4, rfl⟩ := h3
      obtain ⟨z', hz, hzr⟩ := run_zeroValue' (ρ := ρ) h4 w
      refine ⟨_, main _ (.inr ⟨rfl, z', hz, rfl⟩), ?_⟩
      cases ok
      · exact hzr
      · exact .tuple (.cons hzr (.cons (.bool _) .nil))
    · injection h3 with h3; subst h3
      refine ⟨_, main _ (.inl ⟨_, rfl, rfl⟩), ?_⟩
      cases ok
      · exact hu'
      · exact .tuple (.cons hu' (.cons (.bool _) .nil))
  · cases h

theorem len_sound {st : St} {w : World} (hH : HR ρ st w) {t ty : TypeId} {x v : AV} {x' : Value} (h : lenOpA P st t x = some v) (hx : VR ρ x x') {A : Array TypeId} {X : Array Value} (hA : A[0]? = some t) (hX : X[0]? = some x') : Says P ρ w v (Builtin.len_ A ty X) := by
  unfold lenOpA at h
  split at h
  · rename_i s hu; cases hx; injection h with h; subst h
    exact ⟨_, by simp [Builtin.len_, hA, hX, run_underlying' hu]; rfl, .int _ _⟩
  · rename_i n e hu; injection h with h; subst h
    exact ⟨goInt n, by simp [Builtin.len_, hA, hX, run_underlying' hu], .int _ _⟩
  · rename_i e b o n c ex es hu; cases hx; injection h with h; subst h
    exact ⟨goInt n, by simp [Builtin.len_, hA, hX, run_underlying' hu], .int _ _⟩
  · rename_i e hu; cases hx; injection h with h; subst h
    exact ⟨goInt 0, by simp [Builtin.len_, hA, hX, run_underlying' hu], .int _ _⟩
  · rename_i e l n c ex own es hu
    injection h with h; subst h
    cases hx
    · exact ⟨goInt n, by simp [Builtin.len_, hA, hX, run_underlying' hu], .int _ _⟩
    · exact ⟨goInt 0, by simp [Builtin.len_, hA, hX, run_underlying' hu], .int _ _⟩
  · rename_i k e hu; cases hx; injection h with h; subst h
    exact ⟨goInt 0, by simp [Builtin.len_, hA, hX, run_underlying' hu], .int _ _⟩
  · rename_i k e b hu
    rw [om_some] at h
    obtain ⟨q, h4, rfl⟩ := h
    cases hx with
    | map hL =>
      rename_i L
      obtain ⟨L', hL', es', h5, h6⟩ := hH.obj _ _ (mapOf_some.1 h4)
      obtain rfl : L' = L := by rw [hL] at hL'; injection hL' with h; exact h.symm
      have hlen : ∀ {a : List AEntry} {b : List MapEntry}, ERs ρ a b → b.length = a.length := by
        intro a b h; induction h <;> simp_all
      refine ⟨goInt q.1.length, ?_, .int _ _⟩
      simp [Builtin.len_, hA, hX, run_underlying' hu, getObj, Sem.run, h5, hlen h6]
  · cases h
theorem cap_sound {t ty : TypeId} {x v : AV} {x' : Value} (h : capA P t x = some v) (hx : VR ρ x x') {A : Array TypeId} {X : Array Value} (hA : A[0]? = some t) (hX : X[0]? = some x') (w : World) : Says P ρ w v (Builtin.cap_ A ty X) := by
  unfold capA at h
  split at h
  · rename_i e b o n c es hu
    injection h with h; subst h
    cases hx with
    | slice hL hlen hcap hex hA2 =>
      have := hex rfl
      exact ⟨goInt c, by simp [Builtin.cap_, hA, hX, run_underlying' hu, this], .int _ _⟩
  · rename_i e l n c own es hu
    injection h with h; subst h
    cases hx with
    | vs hv hsc hl hlen hcap hex hA2 hO =>
      have := hex rfl
      exact ⟨goInt c, by simp [Builtin.cap_, hA, hX, run_underlying' hu, this], .int _ _⟩
    | vsNil => exact ⟨goInt 0, by simp [Builtin.cap_, hA, hX, run_underlying' hu], .int _ _⟩
  · rename_i e hu; cases hx; injection h with h; subst h
    exact ⟨goInt 0, by simp [Builtin.cap_, hA, hX, run_underlying' hu], .int _ _⟩
  · cases h

theorem min_sound : ∀ {l : List AV} {l' : List Value} {a v : AV} {a' : Value}, foldMM true a l = some v → VR ρ a a' → VRs ρ l l' → ∀ w, Says P ρ w v (l'.foldlM Builtin.min2 a')
  | _, _, a, v, a', h, ha, .nil, w => by
    have : v = a := by cases a <;> simp [foldMM] at h <;> exact h.symm
    subst this; exact ⟨a', rfl, ha⟩
  | _, _, a, v, a', h, ha, .cons hx t, w => by
    cases ha <;> cases hx <;> simp only [foldMM, reduceCtorEq] at h
    rename_i k x k' y
    simp only [ifb_true] at h
    obtain ⟨v', k1, k2⟩ := min_sound h (.int _ _) t w
    refine ⟨v', ?_, k2⟩
    rw [← k1]
    simp only [List.foldlM_cons, Builtin.min2, Sem.run_bind, Sem.run_pure, Result.andThen_ok, leInt_eq, ifb_eq, decide_eq_true_eq]
    congr 3
    by_cases c : x ≤ y
    · rw [if_pos c, if_neg (by omega)]
    · rw [if_neg c, if_pos (by omega)]
theorem max_sound : ∀ {l : List AV} {l' : List Value} {a v : AV} {a' : Value}, foldMM false a l = some v → VR ρ a a' → VRs ρ l l' → ∀ w, Says P ρ w v (l'.foldlM Builtin.max2 a')
  | _, _, a, v, a', h, ha, .nil, w => by
    have : v = a := by cases a <;> simp [foldMM] at h <;> exact h.symm
    subst this; exact ⟨a', rfl, ha⟩
  | _, _, a, v, a', h, ha, .cons hx t, w => by
    cases ha <;> cases hx <;> simp only [foldMM, reduceCtorEq] at h
    rename_i k x k' y
    simp only [ifb_false] at h
    obtain ⟨v', k1, k2⟩ := max_sound h (.int _ _) t w
    refine ⟨v', ?_, k2⟩
    rw [← k1]
    simp only [List.foldlM_cons, Builtin.max2, Sem.run_bind, Sem.run_pure, Result.andThen_ok, leInt_eq, ifb_eq, decide_eq_true_eq]
    congr 3
    by_cases c : y ≤ x
    · rw [if_pos c, if_neg (by omega)]
    · rw [if_neg c, if_pos (by omega)]


theorem ifaceA_sound {t : TypeId} {x v : AV} {x' : Value} (h : ifaceA P t x = some v) (hx : VR ρ x x') (w : World) : Says P ρ w v (Instr.makeInterface t x') := by
  unfold ifaceA at h
  split at h
  · cases h
  · rename_i d hn hu
    injection h with h; subst h
    refine ⟨.iface t x', ?_, .iface hx⟩
    cases d <;> first | (exact (hn _ rfl).elim) | simp [Instr.makeInterface, run_underlying' hu]
  · cases h
theorem assertA_sound {t xt : TypeId} {ok : Bool} {x v : AV} {x' : Value} (h : assertA P t ok x = some v) (hx : VR ρ x x') (w : World) : Says P ρ w v (Instr.typeAssert x' xt t ok) := by
  unfold assertA at h
  split at h
  · cases h
  · rename_i d u y hn hu
    rw [ifb_none] at h
    obtain ⟨h1, h2⟩ := h
    injection h2 with h2; subst h2
    have e := of_beq h1
    subst e
    cases hx with
    | iface hy =>
      rename_i y'
      refine ⟨if ok then .tuple #[y', .bool true] else y', ?_, ?_⟩
      · cases d <;> first | (exact (hn _ rfl).elim) | simp [Instr.typeAssert, run_underlying' hu]
      · cases ok
        · exact hy
        · exact .tuple (.cons hy (.cons (.bool _) .nil))
  · cases h

/-! All of them. -/
def stillK : Kd → Bool
  | .pure | .read => true
  | _ => false

theorem jst_some {st : St} {r : Option AV} {x : OpR} : jst st r = some x ↔ ∃ v, r = some v ∧ x = .val v st := by
  cases r <;> simp [jst, eq_comm]
theorem ptrR_some {v : AV} {f : Nat → Nat → Option OpR} {x : OpR} : ptrR v f = some x ↔ ∃ b o, v = .ptr b o ∧ f b o = some x := by
  cases v <;> simp only [ptrR, reduceCtorEq, false_and, exists_false, AV.ptr.injEq]
  constructor
  · intro h; exact ⟨_, _, ⟨rfl, rfl⟩, h⟩
  · rintro ⟨_, _, ⟨rfl, rfl⟩, h⟩; exact h
theorem ptrV_some {v : AV} {f : Nat → Nat → Option OpR} {g : List AV → Nat → Option OpR} {k : Nat → Nat → Option OpR} {x : OpR} : ptrV v f g k = some x ↔ (∃ b o, v = .ptr b o ∧ f b o = some x) ∨ (∃ l o, v = .vptr l o ∧ g l o = some x) ∨ ∃ b o, v = .gptr b o ∧ k b o = some x := by
  cases v <;> simp only [ptrV, reduceCtorEq, false_and, exists_false, or_self, false_or, or_false, AV.ptr.injEq, AV.vptr.injEq, AV.gptr.injEq]
  · constructor
    · intro h; exact ⟨_, _, ⟨rfl, rfl⟩, h⟩
    · rintro ⟨_, _, ⟨rfl, rfl⟩, h⟩; exact h
  · constructor
    · intro h; exact ⟨_, _, ⟨rfl, rfl⟩, h⟩
    · rintro ⟨_, _, ⟨rfl, rfl⟩, h⟩; exact h
  · constructor
    · intro h; exact ⟨_, _, ⟨rfl, rfl⟩, h⟩
    · rintro ⟨_, _, ⟨rfl, rfl⟩, h⟩; exact h
theorem arg1_some {as : List AV} {tys : List TypeId} {f : TypeId → AV → Option OpR} {x : OpR} (h : arg1 as tys f = some x) : ∃ a t l, as = [a] ∧ tys = t :: l ∧ f t a = some x := by
  unfold arg1 at h
  split at h
  · exact ⟨_, _, _, rfl, rfl, h⟩
  · cases h
theorem arg2_some {as : List AV} {tys : List TypeId} {f : TypeId → Option TypeId → AV → AV → Option OpR} {x : OpR} (h : arg2 as tys f = some x) : ∃ a b t l, as = [a, b] ∧ tys = t :: l ∧ f t l.head? a b = some x := by
  unfold arg2 at h
  split at h
  · exact ⟨_, _, _, _, rfl, rfl, h⟩
  · cases h
theorem argN_some {as : List AV} {f : AV → List AV → Option OpR} {x : OpR} (h : argN as f = some x) : ∃ a l, as = a :: l ∧ f a l = some x := by
  unfold argN at h
  split at h
  · exact ⟨_, _, rfl, h⟩
  · cases h
theorem says_val {w : World} {v : AV} {s : Sem Value} (h : Says P ρ w v s) : ∃ v', (do pure (Next.value (← s)) : Sem Next).run P w = .ok (.value v') w ∧ VR ρ v v' := by
  obtain ⟨v', h1, h2⟩ := h
  exact ⟨v', by simp [h1], h2⟩

theorem head_at {α : Type} {A : Array α} {t : α} {l : List α} (h : A.toList = t :: l) : A[0]? = some t := by
  rw [← Array.getElem?_toList, h]; rfl
theorem VRs.args {ev : Operand → Value} {args : Array Operand} {a : AV} {l : List AV} (h : VRs ρ (a :: l) (args.toList.map ev)) :
    ∃ (a' : Value) (l' : List Value), (args.map ev).toList = a' :: l' ∧ VR ρ a a' ∧ VRs ρ l l' := by
  rw [← Array.toList_map] at h
  generalize (args.map ev).toList = X at h
  cases h with
  | cons hv t => exact ⟨_, _, rfl, hv, t⟩

theorem builtin_still {T : Tr AV} {ev : Operand → Value} (hT : ∀ x a, opd T x = some a → VR ρ a (ev x)) {st : St} {w : World} (hH : HR ρ st w) {b : Builtin} (hb : b = .len ∨ b = .cap ∨ b = .min ∨ b = .max) {argTypes : Array TypeId} {args : Array Operand} {r : OpR}
    (h : builtinA P T st b argTypes.toList args.toList = some r) (ty : TypeId) (cs : Array Bool) : ∃ v, r = .val v st ∧ ∃ v', (builtin b argTypes ty cs (args.map ev)).run P w = .ok (.value v') w ∧ VR ρ v v' := by
  simp only [builtinA, ob_some] at h
  obtain ⟨as, h1, h⟩ := h
  have hs := opds_sound hT h1
  rcases hb with rfl | rfl | rfl | rfl
  · obtain ⟨a, t, l, rfl, ht, h⟩ := arg1_some h
    obtain ⟨v, h3, rfl⟩ := jst_some.1 h
    obtain ⟨a', l', e, ha, _⟩ := hs.args
    exact ⟨v, rfl, says_val (len_sound hH h3 ha (head_at ht) (head_at e))⟩
  · obtain ⟨a, t, l, rfl, ht, h⟩ := arg1_some h
    obtain ⟨v, h3, rfl⟩ := jst_some.1 h
    obtain ⟨a', l', e, ha, _⟩ := hs.args
    exact ⟨v, rfl, says_val (cap_sound h3 ha (head_at ht) (head_at e) w)⟩
  · obtain ⟨a, l, rfl, h⟩ := argN_some h
    obtain ⟨v, h3, rfl⟩ := jst_some.1 h
    obtain ⟨a', l', e, ha, hl⟩ := hs.args
    refine ⟨v, rfl, says_val ?_⟩
    unfold Builtin.min_
    rw [e]
    exact min_sound h3 ha hl w
  · obtain ⟨a, l, rfl, h⟩ := argN_some h
    obtain ⟨v, h3, rfl⟩ := jst_some.1 h
    obtain ⟨a', l', e, ha, hl⟩ := hs.args
    refine ⟨v, rfl, says_val ?_⟩
    unfold Builtin.max_
    rw [e]
    exact max_sound h3 ha hl w

theorem opdO_sound {T : Tr AV} {ev : Operand → Value} (hT : ∀ x a, opd T x = some a → VR ρ a (ev x)) {x : Option Operand} {r : Option AV} (h : opdO T x = some r) : OptR ρ r (x.map ev) := by
  cases x with
  | none => simp only [opdO] at h; injection h with h; subst h; exact .none
  | some x =>
    simp only [opdO, om_some] at h
    obtain ⟨a, h1, rfl⟩ := h
    exact .some (hT _ _ h1)

/-- What an operation that leaves the heap alone answers. -/
theorem still_sound {T : Tr AV} {ev : Operand → Value} (hT : ∀ x a, opd T x = some a → VR ρ a (ev x)) {st : St} {w : World} (hH : HR ρ st w) {o : Oper} {r : OpR}
    (h : aop P T st o.op = some r) (hk : stillK (kd o.op) = true) : ∃ v, r = .val v st ∧ ∃ v', (execOp ev o).run P w = .ok (.value v') w ∧ VR ρ v v' := by
  obtain ⟨dst, op, type, pos, after, guard⟩ := o
  dsimp only at h hk
  cases op <;> simp only [kd, stillK, Bool.false_eq_true] at hk <;> dsimp only [execOp] <;> simp only [aop, ob_some, jst_some, ifb_none, ptrR_some, ptrV_some, reduceCtorEq] at h
  case move x => obtain ⟨v, h1, rfl⟩ := h; exact ⟨v, rfl, _, rfl, hT _ _ h1⟩
  case assign x => obtain ⟨v, h1, rfl⟩ := h; exact ⟨v, rfl, _, rfl, hT _ _ h1⟩
  case pick c a b =>
    obtain ⟨cv, h1, h⟩ := h
    have hc := hT _ _ h1
    split at h
    · obtain ⟨v, h2, rfl⟩ := jst_some.1 h
      refine ⟨v, rfl, ev a, ?_, hT _ _ h2⟩
      generalize ev c = z at hc ⊢; cases hc; simp [asBool]
    · obtain ⟨v, h2, rfl⟩ := jst_some.1 h
      refine ⟨v, rfl, ev b, ?_, hT _ _ h2⟩
      generalize ev c = z at hc ⊢; cases hc; simp [asBool]
    · cases h
  case build t parts =>
    obtain ⟨ps, h1, v, h2, rfl⟩ := h
    refine ⟨v, rfl, says_val (build_sound ?_ h2 w)⟩
    have := opdPairs_sound hT h1
    simpa using this
  case load t a =>
    obtain ⟨av, h1, ⟨b, o, rfl, v, h2, rfl⟩ | ⟨l, o, rfl, v, h2, rfl⟩ | ⟨g, o, rfl, v, h2, rfl⟩⟩ := h
    · have ha := hT _ _ h1
      refine ⟨v, rfl, says_val ?_⟩
      generalize ev a = z at ha ⊢
      cases ha with
      | ptr hL =>
        obtain ⟨v', k1, k2⟩ := load_sound (P := P) hH h2 hL
        exact ⟨v', by simp [Instr.loadAt, Instr.sureAddr, k1], k2⟩
    · have ha := hT _ _ h1
      refine ⟨v, rfl, says_val ?_⟩
      generalize ev a = z at ha ⊢
      cases ha with
      | vptr hv hsc hm =>
        obtain ⟨v', k1, k2⟩ := loadPart_sound (P := P) hH h2 hv hm
        exact ⟨v', by simp [Instr.loadAt, Instr.sureAddr, k1], k2⟩
    · have ha := hT _ _ h1
      refine ⟨v, rfl, says_val ?_⟩
      generalize ev a = z at ha ⊢
      cases ha
      obtain ⟨v', k1, k2⟩ := loadGlob_sound (P := P) hH (ob_some.2 h2)
      exact ⟨v', by simp [Instr.loadAt, Instr.sureAddr, k1], k2⟩
  case nilCheck x =>
    obtain ⟨v, h1, h⟩ := h
    have ha := hT _ _ h1
    split at h <;> first | (cases h; done) | skip
    all_goals
      injection h with h
      refine ⟨_, h.symm, ev x, ?_, ha⟩
      generalize ev x = z at ha ⊢
      cases ha
      rfl
  case binOp op t x y yt =>
    obtain ⟨a, h1, b, h2, h3, v, h4, rfl⟩ := h
    refine ⟨v, rfl, says_val ?_⟩
    obtain ⟨v', k1, k2⟩ := bin_sound (P := P) h4 (hT _ _ h1) (hT _ _ h2) w
    exact ⟨v', by simp [guard_sound h3 (hT _ _ h1) (hT _ _ h2) w, k1], k2⟩
  case unOp op t x =>
    obtain ⟨a, h1, v, h2, rfl⟩ := h
    exact ⟨v, rfl, says_val (un_sound h2 (hT _ _ h1) w)⟩
  case convert s d x =>
    obtain ⟨a, h1, v, h2, rfl⟩ := h
    exact ⟨v, rfl, says_val (convert_sound hH h2 (hT _ _ h1))⟩
  case makeFunc fn first captured =>
    cases fn <;> simp only [aop, reduceCtorEq, ob_some] at h
    obtain ⟨a, h1, c, h2, h3⟩ := h
    injection h3 with h3
    refine ⟨_, h3.symm, _, rfl, ?_⟩
    have e1 := opds_sound hT h1
    have e2 := opds_sound hT h2
    rw [← Array.toList_map] at e1 e2
    exact .func e1 e2
  case slice t x lo hi mx =>
    obtain ⟨a, h1, l, h2, hh, h3, m, h4, v, h5, rfl⟩ := h
    exact ⟨v, rfl, says_val (slice_sound hH h5 (hT _ _ h1) (opdO_sound hT h2) (opdO_sound hT h3) (opdO_sound hT h4))⟩
  case fieldAddr s x f =>
    obtain ⟨a, h1, fd, h2, n, h3, h4⟩ := h
    rw [ifb_none', ptrV_some] at h4
    obtain ⟨h5, h4⟩ := h4
    obtain ⟨fs, hu, hf⟩ := fieldT_some h2
    have hn : n ≠ 0 := fun e => by subst e; cases h5
    have ha := hT _ _ h1
    rcases h4 with ⟨b, o, rfl, h6⟩ | ⟨l, o, rfl, h6⟩ | ⟨g, o, rfl, h6⟩
    · injection h6 with h6
      refine ⟨_, h6.symm, says_val ?_⟩
      generalize ev x = z at ha ⊢
      cases ha with
      | ptr hL =>
        rename_i L
        refine ⟨.pointer (some ⟨L.blk, L.off + (o + fd.offset), none⟩), ?_, .ptr hL⟩
        simp [Instr.fieldAt, run_underlying' hu, hf, Instr.sureAddr, fieldPlace, run_sizeOf' h3, hn, addr_add, Nat.add_assoc]
    · injection h6 with h6
      refine ⟨_, h6.symm, says_val ?_⟩
      generalize ev x = z at ha ⊢
      cases ha with
      | vptr hv hsc hm =>
        rename_i l' blk off
        refine ⟨.pointer (some ⟨blk, off + (o + fd.offset), none⟩), ?_, .vptr hv hsc hm⟩
        simp [Instr.fieldAt, run_underlying' hu, hf, Instr.sureAddr, fieldPlace, run_sizeOf' h3, hn, addr_add, Nat.add_assoc]
    · injection h6 with h6
      refine ⟨_, h6.symm, says_val ?_⟩
      generalize ev x = z at ha ⊢
      cases ha
      refine ⟨.pointer (some ⟨g, o + fd.offset, none⟩), ?_, .gptr⟩
      simp [Instr.fieldAt, run_underlying' hu, hf, Instr.sureAddr, fieldPlace, run_sizeOf' h3, hn, addr_add, Nat.add_assoc]
  case field s x f =>
    obtain ⟨a, h1, fd, h2, h⟩ := h
    split at h
    · obtain ⟨v, h3, rfl⟩ := jst_some.1 h
      obtain ⟨fs, hu, hf⟩ := fieldT_some h2
      have ha := hT _ _ h1
      refine ⟨v, rfl, says_val ?_⟩
      generalize ev x = z at ha ⊢
      cases ha with
      | agg hx =>
        obtain ⟨v', k1, k2⟩ := part_sound (P := P) h3 hx w
        exact ⟨v', by simp [Instr.field, run_underlying' hu, hf, asAgg, k1], k2⟩
    · cases h
  case indexAddr t x i =>
    obtain ⟨a, h1, b, h2, v, h3, rfl⟩ := h
    exact ⟨v, rfl, says_val (indexAddr_sound h3 (hT _ _ h1) (hT _ _ h2) w)⟩
  case index t x i =>
    obtain ⟨a, h1, b, h2, v, h3, rfl⟩ := h
    exact ⟨v, rfl, says_val (index_sound h3 (hT _ _ h1) (hT _ _ h2) w)⟩
  case lookup t x i ok =>
    obtain ⟨a, h1, b, h2, v, h3, rfl⟩ := h
    exact ⟨v, rfl, says_val (lookup_sound hH h3 (hT _ _ h1) (hT _ _ h2))⟩
  case makeInterface t x =>
    obtain ⟨a, h1, v, h2, rfl⟩ := h
    exact ⟨v, rfl, says_val (ifaceA_sound h2 (hT _ _ h1) w)⟩
  case typeAssert x xt t ok =>
    obtain ⟨a, h1, v, h2, rfl⟩ := h
    exact ⟨v, rfl, says_val (assertA_sound h2 (hT _ _ h1) w)⟩
  case extract t i =>
    obtain ⟨a, h1, h⟩ := h
    split at h
    · obtain ⟨v, h3, rfl⟩ := jst_some.1 h
      have ha := hT _ _ h1
      rw [nth_eq] at h3
      refine ⟨v, rfl, says_val ?_⟩
      generalize ev t = z at ha ⊢
      cases ha with
      | tuple hx =>
        obtain ⟨v', k1, k2⟩ := hx.get h3
        refine ⟨v', ?_, k2⟩
        simp [Instr.extract, k1]
    · cases h
  case call c =>
    obtain ⟨callee, args, argTypes⟩ := c
    cases callee <;> simp only [stillK, Bool.false_eq_true] at hk h
    rename_i b
    have hb : b = .len ∨ b = .cap ∨ b = .min ∨ b = .max := by cases b <;> simp_all [kd, stillK]
    obtain ⟨v, h1, v', h2, h3⟩ := builtin_still hT hH hb h type (args.map fun | .const _ => true | _ => false)
    exact ⟨v, h1, v', by simp [resolve, invoke]; exact h2, h3⟩

end Go.Det
