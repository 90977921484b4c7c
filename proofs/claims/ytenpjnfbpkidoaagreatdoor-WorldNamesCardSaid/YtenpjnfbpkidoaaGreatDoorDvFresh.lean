/- Operations that make one block. -/
import Derived.Test.YtenpjnfbpkidoaaGreatDoorDvStill3
set_option linter.unusedVariables false
set_option linter.unusedSimpArgs false
namespace Go.Det
variable {P : Program} {ρ : Names}

theorem repl_length {α : Type} : ∀ (n : Nat) (z : List α), (repl n z).length = n * z.length
  | 0, z => by simp [repl]
  | n + 1, z => by simp [repl, repl_length n z, Nat.add_mul]; omega
theorem repl_get {α : Type} : ∀ (n : Nat) (z : List α) (i : Nat), i < n * z.length → (repl n z)[i]? = z[i % z.length]?
  | 0, z, i, h => by omega
  | n + 1, z, i, h => by
    simp only [repl]
    have hz : 0 < z.length := by
      rcases Nat.eq_zero_or_pos z.length with e | e
      · rw [e] at h; simp at h
      · exact e
    by_cases c : i < z.length
    · rw [List.getElem?_append_left c, Nat.mod_eq_of_lt c]
    · rw [List.getElem?_append_right (by omega), repl_get n z _ (by rw [Nat.add_mul] at h; omega)]
      rw [Nat.mod_eq_sub_mod (a := i) (by omega)]
theorem VRs.repl {z : List AV} {z' : List Value} (h : VRs ρ z z') : ∀ n, VRs ρ (repl n z) (Det.repl n z')
  | 0 => .nil
  | n + 1 => h.append (VRs.repl h n)
theorem allScalar_append {a b : List AV} (ha : allScalar a = true) (hb : allScalar b = true) : allScalar (a ++ b) = true := by
  rw [allScalar_iff] at *
  intro v hv
  rcases List.mem_append.1 hv with h | h
  · exact ha v h
  · exact hb v h
theorem allScalar_repl {z : List AV} (h : allScalar z = true) : ∀ n, allScalar (repl n z) = true
  | 0 => rfl
  | n + 1 => allScalar_append h (allScalar_repl h n)
/-- The model's way of writing the zeros of a row. -/
theorem range_repl (z : Array Value) (n k : Nat) (h : k = n * z.size) : ((Array.range k).map fun i => z[i % z.size]!).toList = repl n z.toList := by
  subst h
  apply List.ext_getElem?
  intro i
  by_cases c : i < n * z.size
  · rw [repl_get _ _ _ (by simpa using c)]
    have hz : 0 < z.size := by
      rcases Nat.eq_zero_or_pos z.size with e | e
      · rw [e] at c; simp at c
      · exact e
    have hm : i % z.size < z.size := Nat.mod_lt _ hz
    simp [c, hm]
  · rw [List.getElem?_eq_none (by simp; omega), List.getElem?_eq_none (by rw [repl_length]; simp; omega)]

/-- The new block, and what leads to it. -/
def Made (P : Program) (ρ : Names) (w : World) (name : Nat) (v : AV) (ob : Ob) (s : Sem Value) : Prop :=
  ∃ v' x tot, s.run P w = .ok v' (worldNew w x) ∧ ∀ ρ' : Names, ρ.le ρ' → ρ' name = some ⟨w.heap.size, 0, tot⟩ → VR ρ' v v' ∧ OR ρ' ⟨w.heap.size, 0, tot⟩ ob (some x)

theorem made_row {w : World} {name : Nat} {cs : List AV} {arr : Array Value} (e e' : TypeId) (h : VRs ρ cs arr.toList) (hs : allScalar cs = true) {v : AV} {v' : Value} {s : Sem Value}
    (hr : s.run P w = .ok v' (worldNew w (.cells arr e))) (hv : ∀ ρ' : Names, ρ' name = some ⟨w.heap.size, 0, arr.size⟩ → VR ρ' v v') : Made P ρ w name v (.row cs e') s :=
  ⟨v', _, _, hr, fun ρ' hle hn => ⟨hv ρ' hn, rowAt_new ρ' (h.mono hle) hs _⟩⟩

theorem made_spare {w : World} {name e : Nat} {arr : Array Value} {m k : Nat} {s : Sem Value} (hr : s.run P w = .ok (.slice (some ⟨w.heap.size, 0, none⟩) 0 m) (worldNew w (.cells arr e))) (hm : m * k ≤ arr.size) :
    Made P ρ w name (.vs [] 0 m true (some name) k) .spare s :=
  ⟨_, _, arr.size, hr, fun ρ' hle hn => ⟨.vs (blk := w.heap.size) (off := 0) .nil rfl (by simp) (Nat.zero_le _) (Nat.le_refl _) (fun _ => rfl) (.inr ⟨rfl, fun i v' h => by simp at h⟩)
    (fun b hb => by injection hb with hb; subst hb; exact ⟨rfl, fun i v' h => by simp at h, _, hn, rfl, by simp, by show 0 + m * k ≤ arr.size; omega⟩), ⟨arr, e, 0, 0, rfl, rfl, Nat.zero_le _, fun i _ hh => by omega⟩⟩⟩

theorem roomy_some {need bytes : Nat} (h : roomy need bytes = true) : (2 * need + 1024) * (bytes + 1) ≤ 70368744177664 := of_ble h

theorem buildSlice_made {vm : Bool} {w : World} {name : Nat} {t : TypeId} {len : Nat} {parts : List (Nat × AV)} {parts' : Array (Nat × Value)} (hp : PRs ρ parts parts'.toList) {q : AV × Ob} (h : buildSliceA P vm name t len parts = some q) :
    Made P ρ w name q.1 q.2 (Instr.buildSlice t len parts') := by
  unfold buildSliceA at h
  split at h
  · rename_i elem hu
    simp only [ob_some, ifb_none, Bool.and_eq_true] at h
    obtain ⟨s, h1, z, h2, ⟨h3, h4⟩, cs, h5, h6, h7⟩ := h
    have h3' : len * s ≤ 16777216 := of_ble h3
    have h4' : z.cells.length = s := of_beq h4
    obtain ⟨z', hz, hzr⟩ := run_zeroValue' (ρ := ρ) h2 w
    have hzc := hzr.cells
    have hzl : z'.cells.size = s := by rw [← h4', ← hzc.length]; simp
    -- the zeros
    have hzero : ∃ zs : Array Value, (do let zero ← (if len * s = 0 then pure #[] else do pure (← zeroValue elem).cells : Sem (Array Value)); pure ((Array.range (len * s)).map (zero[· % zero.size]!)) : Sem (Array Value)).run P w = .ok zs w ∧ VRs ρ (repl len z.cells) zs.toList := by
      by_cases c : len * s = 0
      · refine ⟨#[], by simp [c], ?_⟩
        have : (repl len z.cells) = [] := List.length_eq_zero_iff.1 (by rw [repl_length, h4']; exact c)
        rw [this]; exact .nil
      · refine ⟨(Array.range (len * s)).map (fun i => z'.cells[i % z'.cells.size]!), by simp [c, hz], ?_⟩
        rw [range_repl _ len _ (by rw [hzl])]
        exact hzc.repl len
    obtain ⟨zs, k1, k2⟩ := hzero
    obtain ⟨r', k3, k4⟩ := fill_sound (place' := fun i => some (i * s, s)) (fun i q hq => hq) hp k2 h5
    have hrun : (Instr.buildSlice t len parts').run P w = .ok (.slice (some ⟨w.heap.size, 0, none⟩) len len) (worldNew w (.cells ⟨r'⟩ elem)) := by
      unfold Instr.buildSlice
      simp only [Sem.run_bind, run_underlying' hu, Result.andThen_ok, run_sizeOf' h1]
      rw [if_neg (by omega)]
      by_cases c : len * s = 0
      · simp only [c, if_true, Sem.run_bind, Sem.run_pure, Result.andThen_ok] at k1 ⊢
        injection k1 with k1 _; subst k1
        have k3' : Instr.fill (fun i => some (i * s, s)) ((Array.range 0).map fun x => (#[] : Array Value)[x % (#[] : Array Value).size]!) parts'.toList = some ⟨r'⟩ := k3
        rw [k3']
        rfl
      · simp only [c, if_false, Sem.run_bind, Sem.run_pure, Result.andThen_ok, hz] at k1 ⊢
        injection k1 with k1 _; subst k1
        have k3' : Instr.fill (fun i => some (i * s, s)) ((Array.range (len * s)).map fun x => z'.cells[x % z'.cells.size]!) parts'.toList = some ⟨r'⟩ := k3
        rw [k3']
        rfl
    have hlen : r'.length = len * s := by
        have := k4.length
        rw [this]
        have hfl : ∀ {place : Nat → Option (Nat × Nat)} {parts : List (Nat × AV)} {a b : List AV}, fillA place a parts = some b → b.length = a.length := by
          intro place parts
          induction parts with
          | nil => intro a b h; simp only [fillA] at h; injection h with h; rw [h]
          | cons p l ih =>
            intro a b h
            simp only [fillA, ob_some, ifb_none] at h
            obtain ⟨q, _, _, cs, h2, h3⟩ := h
            rw [ih h3, overAt_length h2]
        rw [hfl h5, repl_length, h4']
    cases hb : (vm && Nat.beq len 0) with
    | true =>
      have hb' : (and vm (Nat.beq len 0)) = true := hb
      rw [hb', ifb_true] at h7
      injection h7 with h7; subst h7
      rw [Bool.and_eq_true] at hb
      obtain rfl : len = 0 := of_beq hb.2
      exact made_spare hrun (by simp)
    | false =>
      have hb' : (and vm (Nat.beq len 0)) = false := hb
      rw [hb', ifb_false] at h7
      injection h7 with h7; subst h7
      refine made_row elem elem (arr := ⟨r'⟩) k4 h6 (v' := .slice (some ⟨w.heap.size, 0, none⟩) len len) hrun fun ρ' hn => ?_
      refine .slice hn (Nat.le_refl _) (Nat.le_refl _) (fun _ => rfl) (.inr ⟨rfl, ?_⟩)
      show 0 + 0 + len * s ≤ r'.length
      omega
  · cases h

theorem wrap_small (x : Nat) (h : x < 9223372036854775808) : IntKind.i64.wrap (x : Int) = x := by
  rw [← wrapF_eq]
  show (Bool.rec (Int.ofNat (x % 18446744073709551616)) (Int.negSucc (18446744073709551616 - 1 - x % 18446744073709551616)) (Nat.ble 9223372036854775808 (x % 18446744073709551616)) : Int) = _
  rw [Nat.mod_eq_of_lt (by omega), ble_f h]
  rfl
set_option maxRecDepth 100000 in
theorem makeSlice_made {vm : Bool} {w : World} {name : Nat} {t : TypeId} {l c : AV} {l' c' : Value} (hl : VR ρ l l') (hc : VR ρ c c') {q : AV × Ob} (h : makeSliceA P vm name t l c = some q) : Made P ρ w name q.1 q.2 (Instr.makeSlice t l' c') := by
  unfold makeSliceA at h
  split at h
  · rename_i elem ka n kb m hu
    cases hl; cases hc
    simp only [ob_some, ifb_none, Bool.and_eq_true] at h
    obtain ⟨i, h1, ⟨h2, h3, h4⟩, z, h5, ⟨h6, h7⟩, h8⟩ := h
    have e2 := of_ble h2
    have e3 := of_ble h3
    have e4 := roomy_some h4
    have e6 : z.cells.length = i.size := of_beq h6
    obtain ⟨z', hz, hzr⟩ := run_zeroValue' (ρ := ρ) h5 w
    have hzc := hzr.cells
    have hzl : z'.cells.size = i.size := by rw [← e6, ← hzc.length]; simp
    have hsz : szT P elem = some i.size := szT_some.2 ⟨i, h1, rfl⟩
    have hroom : i.bytes * m ≤ 281474976710656 := by
      have h9 : m * i.bytes ≤ (2 * m + 1024) * (i.bytes + 1) := Nat.mul_le_mul (by omega) (by omega)
      have h8 := Nat.mul_comm i.bytes m
      omega
    have wn := wrap_small n (by omega)
    have wm := wrap_small m (by omega)
    have hbig : ¬ ((i.bytes : Int) * (m : Int) > 2 ^ 48) := by
      have : ((i.bytes * m : Nat) : Int) ≤ 281474976710656 := by omega
      rw [Int.natCast_mul] at this
      omega
    -- the zeros
    have hzero : ∃ zs : Array Value, (do let zero ← (if m * i.size = 0 then pure #[] else do pure (← zeroValue elem).cells : Sem (Array Value)); pure ((Array.range (m * i.size)).map (zero[· % zero.size]!)) : Sem (Array Value)).run P w = .ok zs w ∧ VRs ρ (repl m z.cells) zs.toList := by
      by_cases c : m * i.size = 0
      · refine ⟨#[], by simp [c], ?_⟩
        have : (repl m z.cells) = [] := List.length_eq_zero_iff.1 (by rw [repl_length, e6]; exact c)
        rw [this]; exact .nil
      · refine ⟨(Array.range (m * i.size)).map (fun j => z'.cells[j % z'.cells.size]!), by simp [c, hz], ?_⟩
        rw [range_repl _ m _ (by rw [hzl])]
        exact hzc.repl m
    obtain ⟨zs, k1, k2⟩ := hzero
    have hrun : (Instr.makeSlice t (.int ka (.ofNat n)) (.int kb (.ofNat m))).run P w = .ok (.slice (some ⟨w.heap.size, 0, none⟩) n m) (worldNew w (.cells zs elem)) := by
      unfold Instr.makeSlice
      simp only [Sem.run_bind, run_underlying' hu, Result.andThen_ok, asInt, asIntOf, Sem.run_pure, run_typeInfo' h1, Int.ofNat_eq_natCast, wn, wm]
      have cond : ((decide ((m : Int) < 0) || decide ((i.bytes : Int) * (m : Int) > 2 ^ 48)) || decide ((n : Int) < 0) || decide ((n : Int) > (m : Int))) = false := by
        simp only [Bool.or_eq_false_iff, decide_eq_false_iff_not]
        exact ⟨⟨⟨by omega, hbig⟩, by omega⟩, by omega⟩
      rw [if_neg (by rw [cond]; simp)]
      simp only [Sem.run_bind, run_askRoom, Result.andThen_ok, run_sizeOf' hsz, Int.toNat_natCast, Sem.run_pure]
      by_cases c : m * i.size = 0
      · simp only [c, if_true, Sem.run_bind, Sem.run_pure, Result.andThen_ok] at k1 ⊢
        injection k1 with k1 _; subst k1
        simp [newRow, worldNew]
      · simp only [c, if_false, Sem.run_bind, Sem.run_pure, Result.andThen_ok, hz] at k1 ⊢
        injection k1 with k1 _; subst k1
        simp [newRow, worldNew]
    have hlen : zs.size = m * i.size := by
      have := k2.length
      rw [repl_length, e6] at this
      simpa using this
    cases vm with
    | true =>
      rw [ifb_true, ifb_none] at h8
      obtain ⟨hb, h8⟩ := h8
      injection h8 with h8; subst h8
      obtain rfl : n = 0 := of_beq hb
      exact made_spare hrun (by omega)
    | false =>
      rw [ifb_false] at h8
      injection h8 with h8; subst h8
      refine made_row elem elem (arr := zs) k2 (allScalar_repl h7 m) (v' := .slice (some ⟨w.heap.size, 0, none⟩) n m) hrun fun ρ' hn => ?_
      refine .slice hn e2 (Nat.le_refl _) (fun _ => rfl) (.inr ⟨rfl, ?_⟩)
      show 0 + 0 + m * i.size ≤ zs.size
      omega
  · cases h

def freshK : Kd → Bool
  | .fresh => true
  | _ => false

/-- What an operation that makes one block answers. -/
theorem fresh_sound {vm : Bool} {T : Tr AV} {ev : Operand → Value} (hT : ∀ x a, opd T x = some a → VR ρ a (ev x)) {w : World} {name : Nat} {o : Oper} {q : AV × Ob} (h : freshA P vm T name o.op = some q) :
    ∃ v' x tot, (execOp ev o).run P w = .ok (.value v') (worldNew w x) ∧ ∀ ρ' : Names, ρ.le ρ' → ρ' name = some ⟨w.heap.size, 0, tot⟩ → VR ρ' q.1 v' ∧ OR ρ' ⟨w.heap.size, 0, tot⟩ q.2 (some x) := by
  have key : ∀ s : Sem Value, Made P ρ w name q.1 q.2 s → ∃ v' x tot, (do pure (Next.value (← s)) : Sem Next).run P w = .ok (.value v') (worldNew w x) ∧
      ∀ ρ' : Names, ρ.le ρ' → ρ' name = some ⟨w.heap.size, 0, tot⟩ → VR ρ' q.1 v' ∧ OR ρ' ⟨w.heap.size, 0, tot⟩ q.2 (some x) := by
    rintro s ⟨v', x, tot, h1, h2⟩
    exact ⟨v', x, tot, by simp [h1], h2⟩
  obtain ⟨dst, op, type, pos, after, guard⟩ := o
  dsimp only at h
  unfold freshA at h
  split at h
  · rename_i e
    simp only [ob_some, ifb_none] at h
    obtain ⟨z, h1, h2, h3⟩ := h
    injection h3 with h3; subst h3
    obtain ⟨z', hz, hzr⟩ := run_zeroValue' (ρ := ρ) h1 w
    refine key _ (made_row e e hzr.cells h2 (v' := .pointer (some ⟨w.heap.size, 0, none⟩)) ?_ fun ρ' hn => by simpa using VR.ptr (o := 0) hn)
    simp [Instr.alloc, hz, newVar, newRow, worldNew]
  · rename_i e x
    simp only [ob_some, ifb_none] at h
    obtain ⟨v, h1, h2, h3⟩ := h
    injection h3 with h3; subst h3
    refine key _ (made_row e e (hT _ _ h1).cells h2 (v' := .pointer (some ⟨w.heap.size, 0, none⟩)) ?_ fun ρ' hn => by simpa using VR.ptr (o := 0) hn)
    simp [Instr.box, newVar, newRow, worldNew]
  · rename_i t n parts
    simp only [ob_some] at h
    obtain ⟨ps, h1, h2⟩ := h
    refine key _ (buildSlice_made ?_ h2)
    have := opdPairs_sound hT h1
    simpa using this
  · injection h with h; subst h
    refine key _ ⟨.map (some w.heap.size), .map #[] 0, 0, by simp [Instr.makeMap, worldNew], fun ρ' hle hn => ⟨.map hn, [], rfl, .nil⟩⟩
  · rename_i t l c
    simp only [ob_some] at h
    obtain ⟨lv, h1, cv, h2, h3⟩ := h
    exact key _ (makeSlice_made (hT _ _ h1) (hT _ _ h2) h3)
  · cases h

end Go.Det
