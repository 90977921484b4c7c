/- How the abstract heap stands to the model's memory: blocks by name; what a step may touch. -/
import Derived.Test.YtenpjnfbpkidoaaGreatDoorDvRel
set_option linter.unusedVariables false
set_option linter.unusedSimpArgs false
namespace Go.Det

/-- Where a name lies: a block, the first cell, how many cells the block has. -/
structure Loc where
  blk : Nat
  off : Nat
  tot : Nat
/-- Where names lie, and what memory is known never to turn. -/
structure Names where
  loc : Nat → Option Loc
  mem : Nat → Nat → Option Value
instance : CoeFun Names (fun _ => Nat → Option Loc) := ⟨Names.loc⟩

mutual
inductive VR (ρ : Names) : AV → Value → Prop where
  | bool (b : Bool) : VR ρ (.bool b) (.bool b)
  | int (k : IntKind) (n : Int) : VR ρ (.int k n) (.int k n)
  | str (s : ByteArray) : VR ρ (.str s) (.string s)
  | ptr {b o : Nat} {L : Loc} (h : ρ b = some L) : VR ρ (.ptr b o) (.pointer (some ⟨L.blk, L.off + o, none⟩))
  | nilPtr : VR ρ .nilPtr (.pointer none)
  | slice {b o len cap e : Nat} {ex : Bool} {L : Loc} {a : Addr} {cap' : Nat} (h : ρ b = some L) (h1 : len ≤ cap) (h2 : cap ≤ cap') (h3 : ex = true → cap' = cap)
      (h4 : cap' = 0 ∨ (a = ⟨L.blk, L.off + o, none⟩ ∧ L.off + o + cap' * e ≤ L.tot)) : VR ρ (.slice b o len cap ex e) (.slice (some a) len cap')
  | nilSlice : VR ρ .nilSlice (.slice none 0 0)
  | map {b : Nat} {L : Loc} (h : ρ b = some L) : VR ρ (.map b) (.map (some L.blk))
  | nilMap : VR ρ .nilMap (.map none)
  | func {f : FuncId} {a c : List AV} {a' c' : List Value} (h : VRs ρ a a') (h' : VRs ρ c c') : VR ρ (.func f a c) (.func (.func f) ⟨a'⟩ ⟨c'⟩)
  | yield {l : Nat} {L : Loc} (h : ρ l = some L) : VR ρ (.yield l) (.func (.yield L.blk) #[] #[])
  | nilFunc : VR ρ .nilFunc .nilFunc
  | nilIface : VR ρ .nilIface .nilIface
  | agg {a : List AV} {a' : List Value} (h : VRs ρ a a') : VR ρ (.agg a) (.agg ⟨a'⟩)
  | tuple {a : List AV} {a' : List Value} (h : VRs ρ a a') : VR ρ (.tuple a) (.tuple ⟨a'⟩)
  | vs {l : List AV} {l' : List Value} {n cap e : Nat} {ex : Bool} {own : Option Nat} {a : Addr} {cap' blk off : Nat} (h : VRs ρ l l') (hs : allScalar l = true) (hl : l.length = n * e) (h1 : n ≤ cap) (h2 : cap ≤ cap')
      (h3 : ex = true → cap' = cap) (h4 : cap' = 0 ∨ (a = ⟨blk, off, none⟩ ∧ ∀ i v', l'[i]? = some v' → ρ.mem blk (off + i) = some v'))
      (h5 : ∀ b, own = some b → a = ⟨blk, off, none⟩ ∧ (∀ i v', l'[i]? = some v' → ρ.mem blk (off + i) = some v') ∧ ∃ L, ρ b = some L ∧ L.blk = blk ∧ L.off = off + n * e ∧ off + cap' * e ≤ L.tot) :
      VR ρ (.vs l n cap ex own e) (.slice (some a) n cap')
  | vsNil {e : Nat} {ex : Bool} : VR ρ (.vs [] 0 0 ex none e) (.slice none 0 0)
  | vptr {l : List AV} {l' : List Value} {blk off o : Nat} (h : VRs ρ l l') (hs : allScalar l = true) (hm : ∀ i v', l'[i]? = some v' → ρ.mem blk (off + i) = some v') : VR ρ (.vptr l o) (.pointer (some ⟨blk, off + o, none⟩))
  | gptr {g o : Nat} : VR ρ (.gptr g o) (.pointer (some ⟨g, o, none⟩))
  | iface {t : TypeId} {v : AV} {v' : Value} (h : VR ρ v v') : VR ρ (.iface t v) (.iface t v')
inductive VRs (ρ : Names) : List AV → List Value → Prop where
  | nil : VRs ρ [] []
  | cons {v : AV} {v' : Value} {l : List AV} {l' : List Value} (h : VR ρ v v') (t : VRs ρ l l') : VRs ρ (v :: l) (v' :: l')
end

structure Names.le (ρ ρ' : Names) : Prop where
  loc : ∀ b L, ρ b = some L → ρ' b = some L
  mem : ∀ a i v, ρ.mem a i = some v → ρ'.mem a i = some v
instance {ρ ρ' : Names} : CoeFun (ρ.le ρ') (fun _ => ∀ b L, ρ b = some L → ρ' b = some L) := ⟨Names.le.loc⟩
theorem Names.le_refl (ρ : Names) : ρ.le ρ := ⟨fun _ _ h => h, fun _ _ _ h => h⟩
theorem Names.le_trans {a b c : Names} (h : a.le b) (h' : b.le c) : a.le c := ⟨fun x L hx => h' x L (h x L hx), fun x i v hx => h'.mem x i v (h.mem x i v hx)⟩

mutual
theorem VR.mono {ρ ρ' : Names} (hl : ρ.le ρ') : ∀ {v : AV} {v' : Value}, VR ρ v v' → VR ρ' v v'
  | _, _, .bool b => .bool b
  | _, _, .int k n => .int k n
  | _, _, .str s => .str s
  | _, _, .ptr h => .ptr (hl _ _ h)
  | _, _, .nilPtr => .nilPtr
  | _, _, .slice h h1 h2 h3 h4 => .slice (hl _ _ h) h1 h2 h3 h4
  | _, _, .nilSlice => .nilSlice
  | _, _, .map h => .map (hl _ _ h)
  | _, _, .nilMap => .nilMap
  | _, _, .func h h' => .func (VRs.mono hl h) (VRs.mono hl h')
  | _, _, .yield h => .yield (hl _ _ h)
  | _, _, .nilFunc => .nilFunc
  | _, _, .nilIface => .nilIface
  | _, _, .agg h => .agg (VRs.mono hl h)
  | _, _, .tuple h => .tuple (VRs.mono hl h)
  | _, _, .vs h hs hn h1 h2 h3 h4 h5 => .vs (VRs.mono hl h) hs hn h1 h2 h3 (h4.imp id fun h => ⟨h.1, fun i v hv => hl.mem _ _ _ (h.2 i v hv)⟩)
      (fun b hb => let ⟨a, m, L, p, q⟩ := h5 b hb; ⟨a, fun i v hv => hl.mem _ _ _ (m i v hv), L, hl _ _ p, q⟩)
  | _, _, .vsNil => .vsNil
  | _, _, .vptr h hs hm => .vptr (VRs.mono hl h) hs (fun i v hv => hl.mem _ _ _ (hm i v hv))
  | _, _, .gptr => .gptr
  | _, _, .iface h => .iface (VR.mono hl h)
theorem VRs.mono {ρ ρ' : Names} (hl : ρ.le ρ') : ∀ {l : List AV} {l' : List Value}, VRs ρ l l' → VRs ρ' l l'
  | _, _, .nil => .nil
  | _, _, .cons h t => .cons (h.mono hl) (t.mono hl)
end

theorem VRs.length {ρ : Names} : ∀ {l : List AV} {l' : List Value}, VRs ρ l l' → l'.length = l.length
  | _, _, .nil => rfl
  | _, _, .cons _ t => by simp [VRs.length t]
theorem VRs.append {ρ : Names} : ∀ {a : List AV} {a' : List Value} {b : List AV} {b' : List Value}, VRs ρ a a' → VRs ρ b b' → VRs ρ (a ++ b) (a' ++ b')
  | _, _, _, _, .nil, h => h
  | _, _, _, _, .cons h t, h' => .cons h (t.append h')
theorem VRs.get {ρ : Names} : ∀ {l : List AV} {l' : List Value}, VRs ρ l l' → ∀ {i : Nat} {v : AV}, l[i]? = some v → ∃ v', l'[i]? = some v' ∧ VR ρ v v'
  | _, _, .nil, i, v, h => by simp at h
  | _, _, .cons (v' := v') hv t, 0, v, h => by simp at h; subst h; exact ⟨v', by simp, hv⟩
  | _, _, .cons hv t, i + 1, v, h => by simpa using t.get (i := i) (by simpa using h)
theorem VRs.of_get {ρ : Names} : ∀ {l : List AV} {l' : List Value}, l'.length = l.length → (∀ (i : Nat) (v : AV), l[i]? = some v → ∃ v', l'[i]? = some v' ∧ VR ρ v v') → VRs ρ l l'
  | [], [], _, _ => .nil
  | [], _ :: _, h, _ => by simp at h
  | _ :: _, [], h, _ => by simp at h
  | v :: l, v' :: l', h, H => by
    obtain ⟨x, hx, hv⟩ := H 0 v (by simp)
    simp at hx; subst hx
    exact .cons hv (VRs.of_get (by simpa using h) fun i u hu => by simpa using H (i + 1) u (by simpa using hu))
theorem nth_eq {α : Type} : ∀ (i : Nat) (l : List α), nth i l = l[i]?
  | i, [] => by cases i <;> simp [nth]
  | 0, _ :: _ => by simp [nth]
  | i + 1, _ :: l => by simp [nth, nth_eq i l]
theorem takeX_some {α : Type} : ∀ {n : Nat} {l r : List α}, takeX n l = some r ↔ n ≤ l.length ∧ r = l.take n
  | 0, l, r => by simp [takeX, eq_comm]
  | n + 1, [], r => by simp [takeX]
  | n + 1, x :: l, r => by
    simp only [takeX, om_some, takeX_some]
    constructor
    · rintro ⟨a, ⟨h, rfl⟩, rfl⟩; simp; omega
    · rintro ⟨h, rfl⟩; exact ⟨l.take n, ⟨by simpa using h, rfl⟩, by simp⟩
theorem sub_some {α : Type} : ∀ {o n : Nat} {l r : List α}, sub o n l = some r → (n = 0 ∨ o + n ≤ l.length) ∧ r = (l.drop o).take n ∧ r.length = n
  | 0, n, l, r, h => by
    simp only [sub, takeX_some] at h
    obtain ⟨h, rfl⟩ := h
    exact ⟨.inr (by omega), by simp, by simp; omega⟩
  | o + 1, n, [], r, h => by simp [sub] at h
  | o + 1, n, x :: l, r, h => by
    simp only [sub] at h
    obtain ⟨h1, h2, h3⟩ := sub_some h
    exact ⟨by rcases h1 with h1 | h1 <;> simp <;> omega, by simpa using h2, h3⟩
theorem over_some {α : Type} : ∀ {xs l r : List α}, over xs l = some r → xs.length ≤ l.length ∧ r = xs ++ l.drop xs.length
  | [], l, r, h => by simp [over] at h; simp [h]
  | x :: xs, [], r, h => by simp [over] at h
  | x :: xs, y :: l, r, h => by
    simp only [over, om_some] at h
    obtain ⟨a, ha, rfl⟩ := h
    obtain ⟨h1, rfl⟩ := over_some ha
    simp; omega
theorem overAt_some {α : Type} : ∀ {o : Nat} {xs l r : List α}, overAt o xs l = some r → o + xs.length ≤ l.length ∧ r = l.take o ++ xs ++ l.drop (o + xs.length)
  | 0, xs, l, r, h => by
    simp only [overAt] at h
    obtain ⟨h1, rfl⟩ := over_some h
    simp; omega
  | o + 1, xs, [], r, h => by simp [overAt] at h
  | o + 1, xs, y :: l, r, h => by
    simp only [overAt, om_some] at h
    obtain ⟨a, ha, rfl⟩ := h
    obtain ⟨h1, rfl⟩ := overAt_some ha
    refine ⟨by simp; omega, ?_⟩
    rw [show o + 1 + xs.length = (o + xs.length) + 1 by omega]
    simp
theorem overAt_get {α : Type} {o : Nat} {xs l r : List α} (h : overAt o xs l = some r) (i : Nat) :
    r[i]? = if o ≤ i ∧ i < o + xs.length then xs[i - o]? else l[i]? := by
  obtain ⟨h1, rfl⟩ := overAt_some h
  rw [List.append_assoc, List.getElem?_append]
  simp only [List.length_take, Nat.min_eq_left (show o ≤ l.length by omega)]
  by_cases h2 : i < o
  · rw [if_pos h2, if_neg (by omega), List.getElem?_take_of_lt h2]
  · rw [if_neg h2, List.getElem?_append]
    by_cases h3 : i - o < xs.length
    · rw [if_pos h3, if_pos (by omega)]
    · rw [if_neg h3, if_neg (by omega), List.getElem?_drop]
      congr 1; omega
theorem overAt_length {α : Type} {o : Nat} {xs l r : List α} (h : overAt o xs l = some r) : r.length = l.length := by
  obtain ⟨h1, rfl⟩ := overAt_some h
  simp; omega
theorem VRs.take {ρ : Names} {l : List AV} {l' : List Value} (h : VRs ρ l l') (n : Nat) : VRs ρ (l.take n) (l'.take n) := by
  induction n generalizing l l' with
  | zero => simpa using VRs.nil
  | succ n ih => cases h with
    | nil => simpa using VRs.nil
    | cons hv t => simpa using .cons hv (ih t)
theorem VRs.drop {ρ : Names} {l : List AV} {l' : List Value} (h : VRs ρ l l') (n : Nat) : VRs ρ (l.drop n) (l'.drop n) := by
  induction n generalizing l l' with
  | zero => simpa using h
  | succ n ih => cases h with
    | nil => simpa using VRs.nil
    | cons hv t => simpa using ih t
theorem allScalar_iff {l : List AV} : allScalar l = true ↔ ∀ v ∈ l, v.scalar = true := by
  induction l with
  | nil => simp [allScalar]
  | cons v l ih => simp only [allScalar, ifb_eq]; by_cases h : v.scalar = true <;> simp [h, ih]
theorem VR.oneCell {ρ : Names} {v : AV} {v' : Value} (h : VR ρ v v') (hs : v.scalar = true) : v'.oneCell' = true := by
  cases h <;> simp_all [AV.scalar, Value.oneCell']
theorem VR.cells {ρ : Names} {v : AV} {v' : Value} (h : VR ρ v v') : VRs ρ v.cells v'.cells.toList := by
  cases h
  case agg h => exact h
  all_goals (refine .cons ?_ .nil)
  case bool b => exact .bool b
  case int k n => exact .int k n
  case str s => exact .str s
  case ptr h => exact .ptr h
  case nilPtr => exact .nilPtr
  case slice h h1 h2 h3 h4 => exact .slice h h1 h2 h3 h4
  case nilSlice => exact .nilSlice
  case map h => exact .map h
  case nilMap => exact .nilMap
  case func h h' => exact .func h h'
  case yield h => exact .yield h
  case nilFunc => exact .nilFunc
  case nilIface => exact .nilIface
  case tuple h => exact .tuple h
  case vs h hs hn h1 h2 h3 h4 h5 => exact .vs h hs hn h1 h2 h3 h4 h5
  case vsNil => exact .vsNil
  case vptr h hs hm => exact .vptr h hs hm
  case gptr => exact .gptr
  case iface h => exact .iface h

/-! Blocks. -/
/-- What a row's block holds. -/
def RowAt (ρ : Names) (L : Loc) (cs : List AV) (x : Option Obj) : Prop :=
  ∃ (arr : Array Value) (e : TypeId) (lo hi : Nat), x = some (.cells arr e (lo, hi)) ∧ arr.size = L.tot ∧ (L.off = 0 ∧ L.off + cs.length ≤ L.tot) ∧ (∀ i, i < L.tot → ¬ (lo ≤ i ∧ i < hi)) ∧
    ∀ i v, cs[i]? = some v → v.scalar = true ∧ ∃ v', arr[L.off + i]? = some v' ∧ VR ρ v v'

inductive ERs (ρ : Names) : List AEntry → List MapEntry → Prop where
  | nil : ERs ρ [] []
  | cons {k v : AV} {k' v' : Value} {n : Nat} {l : List AEntry} {l' : List MapEntry} (hk : VR ρ k k') (hv : VR ρ v v') (t : ERs ρ l l') : ERs ρ (⟨k, v, n⟩ :: l) (⟨k', v', n⟩ :: l')
theorem ERs.mono {ρ ρ' : Names} (hl : ρ.le ρ') : ∀ {l : List AEntry} {l' : List MapEntry}, ERs ρ l l' → ERs ρ' l l'
  | _, _, .nil => .nil
  | _, _, .cons hk hv t => .cons (hk.mono hl) (hv.mono hl) (t.mono hl)

/-- What a frame's slots hold: of the slots that are known. -/
def TR (ρ : Names) (nt : Nat) (T : Tr AV) (tm : Array Value) : Prop := nt ≤ tm.size ∧ ∀ t v, T.get t = some v → ∃ v', tm[t]? = some v' ∧ VR ρ v v'
theorem TR.mono {ρ ρ' : Names} {nt : Nat} {T : Tr AV} {tm : Array Value} (h : TR ρ nt T tm) (hl : ρ.le ρ') : TR ρ' nt T tm :=
  ⟨h.1, fun t v ht => let ⟨v', a, b⟩ := h.2 t v ht; ⟨v', a, b.mono hl⟩⟩

def seenArr : Option Nat → Array Nat
  | none => #[]
  | some n => #[n]
def OR (ρ : Names) (L : Loc) : Ob → Option Obj → Prop
  | .row cs _, x => RowAt ρ L cs x
  | .map es c, x => ∃ es' : List MapEntry, x = some (.map ⟨es'⟩ c) ∧ ERs ρ es es'
  | .loop l, x => ∃ (tm : Array Value) (d : Loc), x = some (.loop { state := l.state, pending := l.pending, fn := l.fn, tmps := tm, params := ⟨l.params⟩, assign := l.assign, body := l.body, defers := d.blk }) ∧
      TR ρ l.nt l.tmps tm ∧ ρ l.defers = some d
  | .deferred b, x => x = some (.deferred (if b then some [] else none))
  | .spare, x => ∃ (arr : Array Value) (e : TypeId) (lo hi : Nat), x = some (.cells arr e (lo, hi)) ∧ arr.size = L.tot ∧ L.off ≤ L.tot ∧ ∀ i, i < L.tot → ¬ (lo ≤ i ∧ i < hi)
  | .mit m, x => ∃ (mm : Option Nat) (s : Nat) (seen : Array Nat) (c : Nat), L.off = 0 ∧ x = some (.mapIter mm s seen c) ∧ ((m = none ∧ mm = none) ∨ ∃ b K, m = some b ∧ ρ b = some K ∧ mm = some K.blk)
  | .mitN b s sn c, x => ∃ K : Loc, L.off = 0 ∧ ρ b = some K ∧ x = some (.mapIter (some K.blk) s (seenArr sn) c)
theorem RowAt.mono {ρ ρ' : Names} {L : Loc} {cs : List AV} {x : Option Obj} (h : RowAt ρ L cs x) (hl : ρ.le ρ') : RowAt ρ' L cs x := by
  obtain ⟨arr, e, lo, hi, h1, h2, h3, h4, h5⟩ := h
  exact ⟨arr, e, lo, hi, h1, h2, h3, h4, fun i v hv => let ⟨a, v', b, c⟩ := h5 i v hv; ⟨a, v', b, c.mono hl⟩⟩
theorem OR.mono {ρ ρ' : Names} {L : Loc} {o : Ob} {x : Option Obj} (h : OR ρ L o x) (hl : ρ.le ρ') : OR ρ' L o x := by
  cases o with
  | row cs e => exact RowAt.mono h hl
  | map es c => obtain ⟨es', h1, h2⟩ := h; exact ⟨es', h1, h2.mono hl⟩
  | loop l => obtain ⟨tm, d, h1, h2, h3⟩ := h; exact ⟨tm, d, h1, h2.mono hl, hl _ _ h3⟩
  | deferred b => exact h
  | spare => exact h
  | mit m =>
    obtain ⟨mm, s, seen, c, h0, h1, h2⟩ := h
    exact ⟨mm, s, seen, c, h0, h1, h2.imp id fun ⟨b, K, h3, h4, h5⟩ => ⟨b, K, h3, hl _ _ h4, h5⟩⟩
  | mitN b s sn c => obtain ⟨K, h0, h1, h2⟩ := h; exact ⟨K, h0, hl _ _ h1, h2⟩
theorem OR.some {ρ : Names} {L : Loc} {o : Ob} {x : Option Obj} (h : OR ρ L o x) : ∃ y, x = Option.some y := by
  cases o with
  | row cs e => obtain ⟨arr, e, lo, hi, h1, _⟩ := h; exact ⟨_, h1⟩
  | map es c => obtain ⟨es', h1, _⟩ := h; exact ⟨_, h1⟩
  | loop l => obtain ⟨tm, d, h1, _⟩ := h; exact ⟨_, h1⟩
  | deferred b => exact ⟨_, h⟩
  | spare => obtain ⟨arr, e, lo, hi, h1, _⟩ := h; exact ⟨_, h1⟩
  | mit m => obtain ⟨mm, s, seen, c, _, h1, _⟩ := h; exact ⟨_, h1⟩
  | mitN b s sn c => obtain ⟨K, _, _, h2⟩ := h; exact ⟨_, h2⟩

structure HR (ρ : Names) (st : St) (w : World) : Prop where
  lt : ∀ b L, ρ b = some L → b < st.next ∧ L.blk < w.heap.size
  obj : ∀ b o, st.heap.get b = some o → ∃ L, ρ b = some L ∧ OR ρ L o w.heap[L.blk]?
  inj : ∀ b b' o o' L L', st.heap.get b = some o → st.heap.get b' = some o' → ρ b = some L → ρ b' = some L' → L.blk = L'.blk → b = b'
  mem : ∀ a i v, ρ.mem a i = some v → w.cell? ⟨a, i, none⟩ = some v
  sep : ∀ a i v, ρ.mem a i = some v → ∀ b o L, st.heap.get b = some o → ρ b = some L → L.blk = a → o = .spare ∧ i < L.off
  glob : ∀ g l, st.gl.get g = some l → ∃ l' : List Value, VRs ρ l l' ∧ ∀ (i : Nat) (v : Value), l'[i]? = some v → ρ.mem g i = some v

theorem HR.fresh {ρ : Names} {st : St} {w : World} (h : HR ρ st w) : ρ st.next = none := by
  cases hx : ρ st.next with
  | none => rfl
  | some L => exact absurd (h.lt _ _ hx).1 (Nat.lt_irrefl _)
theorem HR.fresh_heap {ρ : Names} {st : St} {w : World} (h : HR ρ st w) : st.heap.get st.next = none := by
  cases hx : st.heap.get st.next with
  | none => rfl
  | some o => obtain ⟨L, hL, _⟩ := h.obj _ _ hx; rw [h.fresh] at hL; cases hL

theorem cell_lt {w : World} {a i : Nat} {v : Value} (h : w.cell? ⟨a, i, none⟩ = some v) : a < w.heap.size := by
  rcases Nat.lt_or_ge a w.heap.size with h1 | h1
  · exact h1
  · simp [World.cell?, Array.getElem?_eq_none h1] at h
theorem cell_of {w w' : World} {a i : Nat} (h : w'.heap[a]? = w.heap[a]?) : w'.cell? ⟨a, i, none⟩ = w.cell? ⟨a, i, none⟩ := by simp only [World.cell?, h]
theorem HR.mem_lt {ρ : Names} {st : St} {w : World} (h : HR ρ st w) {a i : Nat} {v : Value} (hm : ρ.mem a i = some v) : a < w.heap.size := cell_lt (h.mem _ _ _ hm)

/-- What a step may have touched. -/
structure Goes (ρ : Names) (st : St) (w : World) (ρ' : Names) (st' : St) (w' : World) : Prop where
  le : ρ.le ρ'
  next : st.next ≤ st'.next
  fresh : ∀ b L, ρ' b = some L → ρ b = some L ∨ (st.next ≤ b ∧ ∀ k, ρ b ≠ some k)
  size : w.heap.size ≤ w'.heap.size
  img : ∀ b o L, st'.heap.get b = some o → ρ' b = some L → L.blk < w.heap.size → ∃ b0 o0 L0, st.heap.get b0 = some o0 ∧ ρ b0 = some L0 ∧ L0.blk = L.blk
  same : ∀ x, x < w.heap.size → (∀ b o L, st.heap.get b = some o → ρ b = some L → L.blk ≠ x) → w'.heap[x]? = w.heap[x]?
  os : w'.os = w.os
  tape : w'.tape = w.tape
  output : w'.output = w.output
  grew : ∀ a i v, ρ'.mem a i = some v → ρ.mem a i = some v ∨ w.heap.size ≤ a ∨ ∃ b o L, st.heap.get b = some o ∧ ρ b = some L ∧ L.blk = a

theorem Goes.refl {ρ : Names} {st : St} {w : World} : Goes ρ st w ρ st w :=
  ⟨Names.le_refl _, Nat.le_refl _, fun _ _ h => .inl h, Nat.le_refl _, fun b o L h1 h2 _ => ⟨b, o, L, h1, h2, rfl⟩, fun _ _ _ => rfl, rfl, rfl, rfl, fun _ _ _ h => .inl h⟩
theorem Goes.trans {ρ ρ1 ρ2 : Names} {st st1 st2 : St} {w w1 w2 : World} (h : Goes ρ st w ρ1 st1 w1) (h' : Goes ρ1 st1 w1 ρ2 st2 w2) : Goes ρ st w ρ2 st2 w2 := by
  refine ⟨Names.le_trans h.le h'.le, Nat.le_trans h.next h'.next, ?_, Nat.le_trans h.size h'.size, ?_, ?_, h'.os.trans h.os, h'.tape.trans h.tape, h'.output.trans h.output, ?_⟩
  · intro b L hb
    rcases h'.fresh b L hb with hb | ⟨hb, hn⟩
    · exact h.fresh b L hb
    · refine .inr ⟨Nat.le_trans h.next hb, fun k hk => hn k (h.le _ _ hk)⟩
  · intro b o L hb hL hlt
    obtain ⟨b1, o1, L1, h1, h2, h3⟩ := h'.img b o L hb hL (Nat.lt_of_lt_of_le hlt h.size)
    obtain ⟨b0, o0, L0, k1, k2, k3⟩ := h.img b1 o1 L1 h1 h2 (h3 ▸ hlt)
    exact ⟨b0, o0, L0, k1, k2, k3.trans h3⟩
  · intro x hx hn
    rw [h'.same x (Nat.lt_of_lt_of_le hx h.size) ?_, h.same x hx hn]
    intro b o L hb hL he
    obtain ⟨b0, o0, L0, k1, k2, k3⟩ := h.img b o L hb hL (he ▸ hx)
    exact hn b0 o0 L0 k1 k2 (k3.trans he)
  · intro a i v hv
    rcases h'.grew a i v hv with h1 | h1 | ⟨b, o, L, h1, h2, h3⟩
    · exact h.grew a i v h1
    · exact .inr (.inl (Nat.le_trans h.size h1))
    · rcases Nat.lt_or_ge a w.heap.size with hlt | hge
      · obtain ⟨b0, o0, L0, k1, k2, k3⟩ := h.img b o L h1 h2 (h3 ▸ hlt)
        exact .inr (.inr ⟨b0, o0, L0, k1, k2, k3.trans h3⟩)
      · exact .inr (.inl hge)

/-- A draw turns nothing. -/
theorem HR.drew {ρ : Names} {st : St} {w : World} (h : HR ρ st w) (n : Nat) : HR ρ st { w with drawn := n } := ⟨h.lt, h.obj, h.inj, h.mem, h.sep, h.glob⟩
theorem Goes.drew {ρ ρ' : Names} {st st' : St} {w w' : World} (h : Goes ρ st w ρ' st' w') (n : Nat) : Goes ρ st w ρ' st' { w' with drawn := n } :=
  ⟨h.le, h.next, h.fresh, h.size, h.img, h.same, h.os, h.tape, h.output, h.grew⟩

/-! A new block. -/
def Names.set (ρ : Names) (b : Nat) (L : Loc) : Names := ⟨fun x => if x = b then some L else ρ x, ρ.mem⟩
theorem Names.set_same (ρ : Names) (b : Nat) (L : Loc) : ρ.set b L b = some L := by simp [Names.set]
theorem Names.set_le {ρ : Names} {b : Nat} (L : Loc) (h : ρ b = none) : ρ.le (ρ.set b L) := by
  refine ⟨?_, fun _ _ _ h => h⟩
  intro x K hx
  simp only [Names.set]
  by_cases e : x = b
  · subst e; rw [h] at hx; cases hx
  · rw [if_neg e]; exact hx
theorem Names.set_inv {ρ : Names} {b x : Nat} {L K : Loc} (h : ρ.set b L x = some K) : (x = b ∧ K = L) ∨ (x ≠ b ∧ ρ x = some K) := by
  simp only [Names.set] at h
  by_cases e : x = b
  · rw [if_pos e] at h; injection h with h; exact .inl ⟨e, h.symm⟩
  · rw [if_neg e] at h; exact .inr ⟨e, h⟩

def worldNew (w : World) (o : Obj) : World := { w with heap := w.heap.push o }

/-- A block that the model has just made, under the next name; what the names' blocks held they hold. -/
theorem HR.new {ρ : Names} {st : St} {w : World} (h : HR ρ st w) (o : Ob) (L : Loc) (x : Obj) (hb : L.blk = w.heap.size)
    (ho : OR (ρ.set st.next L) L o (some x)) : HR (ρ.set st.next L) (st.new o) (worldNew w x) ∧ Goes ρ st w (ρ.set st.next L) (st.new o) (worldNew w x) := by
  have hle := Names.set_le L h.fresh
  have old : ∀ k, k < w.heap.size → (worldNew w x).heap[k]? = w.heap[k]? := fun k hk => by
    show (w.heap.push x)[k]? = _
    rw [Array.getElem?_push, if_neg (by omega)]
  have hsz : (worldNew w x).heap.size = w.heap.size + 1 := by simp [worldNew]
  have hmem : ∀ a i v, (ρ.set st.next L).mem a i = some v → (worldNew w x).cell? ⟨a, i, none⟩ = some v := fun a i v hv => by
    rw [cell_of (old a (h.mem_lt hv))]; exact h.mem _ _ _ hv
  have hsep : ∀ a i v, (ρ.set st.next L).mem a i = some v → ∀ b o' K, (st.new o).heap.get b = some o' → (ρ.set st.next L) b = some K → K.blk = a → o' = .spare ∧ i < K.off := by
    intro a i v hv b o' K hg hK he
    change (st.heap.set st.next o).get b = some o' at hg
    rw [Tr.get_set] at hg
    rcases Names.set_inv hK with ⟨e1, e2⟩ | ⟨n1, k1⟩
    · have := h.mem_lt (show ρ.mem a i = some v from hv); rw [e2, hb] at he; omega
    · rw [if_neg n1] at hg
      exact h.sep _ _ _ hv _ _ _ hg k1 he
  refine ⟨⟨?_, ?_, ?_, hmem, hsep, fun g l hg => let ⟨l', a, c⟩ := h.glob g l hg; ⟨l', a.mono hle, fun i v hv => hle.mem _ _ _ (c i v hv)⟩⟩, ⟨hle, Nat.le_succ _, ?_, by omega, ?_, fun k hk _ => old k hk, rfl, rfl, rfl, fun _ _ _ h => .inl h⟩⟩
  · intro b K hK
    rw [hsz]
    rcases Names.set_inv hK with ⟨rfl, rfl⟩ | ⟨_, hK⟩
    · exact ⟨Nat.lt_succ_self _, by omega⟩
    · have := h.lt _ _ hK; exact ⟨Nat.lt_succ_of_lt this.1, by omega⟩
  · intro b o' hb'
    change (st.heap.set st.next o).get b = some o' at hb'
    rw [Tr.get_set] at hb'
    by_cases e : b = st.next
    · rw [if_pos e] at hb'
      injection hb' with hb'; subst hb'; subst e
      refine ⟨L, Names.set_same _ _ _, ?_⟩
      rw [hb, show (worldNew w x).heap[w.heap.size]? = some x by show (w.heap.push x)[w.heap.size]? = _; simp]
      exact ho
    · rw [if_neg e] at hb'
      obtain ⟨K, hK, hO⟩ := h.obj _ _ hb'
      refine ⟨K, hle _ _ hK, ?_⟩
      rw [old _ (h.lt _ _ hK).2]
      exact hO.mono hle
  · intro b b' o1 o2 K K' h1 h2 hK hK' he
    change (st.heap.set st.next o).get b = some o1 at h1
    change (st.heap.set st.next o).get b' = some o2 at h2
    rw [Tr.get_set] at h1 h2
    rcases Names.set_inv hK with ⟨e1, e2⟩ | ⟨n1, k1⟩
    · rcases Names.set_inv hK' with ⟨e3, e4⟩ | ⟨n2, k2⟩
      · rw [e1, e3]
      · have := (h.lt _ _ k2).2; rw [e2, hb] at he; omega
    · rcases Names.set_inv hK' with ⟨e3, e4⟩ | ⟨n2, k2⟩
      · have := (h.lt _ _ k1).2; rw [e4, hb] at he; omega
      · rw [if_neg n1] at h1; rw [if_neg n2] at h2
        exact h.inj _ _ _ _ _ _ h1 h2 k1 k2 he
  · intro b K hK
    rcases Names.set_inv hK with ⟨rfl, rfl⟩ | ⟨_, hK⟩
    · exact .inr ⟨Nat.le_refl _, fun k hk => by rw [h.fresh] at hk; cases hk⟩
    · exact .inl hK
  · intro b o' K hb' hK hlt
    rcases Names.set_inv hK with ⟨rfl, rfl⟩ | ⟨n1, hK⟩
    · omega
    · change (st.heap.set st.next o).get b = some o' at hb'
      rw [Tr.get_set, if_neg n1] at hb'
      exact ⟨b, o', K, hb', hK, rfl⟩

/-- What a name's block holds is changed, in place. -/
theorem HR.put {ρ : Names} {st : St} {w : World} (h : HR ρ st w) {b : Nat} {o0 : Ob} {L : Loc} (h0 : st.heap.get b = some o0) (hL : ρ b = some L) (o : Ob) (x : Obj)
    (ho : OR ρ L o (some x)) (w' : World) (hw : w' = { w with heap := w.heap.setIfInBounds L.blk x }) (hns : o0 ≠ .spare := by nofun) : HR ρ (st.put b o) w' ∧ Goes ρ st w ρ (st.put b o) w' := by
  subst hw
  have hlt := (h.lt _ _ hL).2
  have at_ : ∀ k, ({ w with heap := w.heap.setIfInBounds L.blk x } : World).heap[k]? = if L.blk = k then some x else w.heap[k]? := fun k => by
    show (w.heap.setIfInBounds L.blk x)[k]? = _
    rw [Array.getElem?_setIfInBounds]
    by_cases e : L.blk = k
    · simp [e]; omega
    · simp [e]
  have hsz : ({ w with heap := w.heap.setIfInBounds L.blk x } : World).heap.size = w.heap.size := by simp
  have back : ∀ b' o', (st.put b o).heap.get b' = some o' → ∃ o'', st.heap.get b' = some o'' := fun b' o' hb' => by
    change (st.heap.set b o).get b' = some o' at hb'
    rw [Tr.get_set] at hb'
    by_cases e : b' = b
    · subst e; exact ⟨o0, h0⟩
    · rw [if_neg e] at hb'; exact ⟨_, hb'⟩
  have hne : ∀ a i v, ρ.mem a i = some v → ¬ L.blk = a := fun a i v hv he => hns (h.sep _ _ _ hv _ _ _ h0 hL he).1
  have hmem : ∀ a i v, ρ.mem a i = some v → ({ w with heap := w.heap.setIfInBounds L.blk x } : World).cell? ⟨a, i, none⟩ = some v := fun a i v hv => by
    rw [cell_of (w := w) (by rw [at_, if_neg (hne _ _ _ hv)])]; exact h.mem _ _ _ hv
  have hsep : ∀ a i v, ρ.mem a i = some v → ∀ b' o' K, (st.put b o).heap.get b' = some o' → ρ b' = some K → K.blk = a → o' = .spare ∧ i < K.off := by
    intro a i v hv b' o' K hg hK he
    change (st.heap.set b o).get b' = some o' at hg
    rw [Tr.get_set] at hg
    by_cases e : b' = b
    · subst e; rw [hL] at hK; injection hK with hK; subst hK; exact absurd he (hne _ _ _ hv)
    · rw [if_neg e] at hg; exact h.sep _ _ _ hv _ _ _ hg hK he
  refine ⟨⟨?_, ?_, ?_, hmem, hsep, h.glob⟩, ⟨Names.le_refl _, Nat.le_refl _, fun _ _ h => .inl h, by omega, ?_, ?_, rfl, rfl, rfl, fun _ _ _ h => .inl h⟩⟩
  · intro b' K hK; rw [hsz]; exact h.lt _ _ hK
  · intro b' o' hb'
    change (st.heap.set b o).get b' = some o' at hb'
    rw [Tr.get_set] at hb'
    by_cases e : b' = b
    · subst e
      rw [if_pos rfl] at hb'
      injection hb' with hb'; subst hb'
      exact ⟨L, hL, by rw [at_, if_pos rfl]; exact ho⟩
    · rw [if_neg e] at hb'
      obtain ⟨K, hK, hO⟩ := h.obj _ _ hb'
      refine ⟨K, hK, ?_⟩
      rw [at_, if_neg (fun he => e (h.inj _ _ _ _ _ _ hb' h0 hK hL he.symm))]
      exact hO
  · intro b1 b2 o1 o2 K1 K2 h1 h2 k1 k2 he
    obtain ⟨o1', h1'⟩ := back _ _ h1
    obtain ⟨o2', h2'⟩ := back _ _ h2
    exact h.inj _ _ _ _ _ _ h1' h2' k1 k2 he
  · intro b' o' K hb' hK _
    obtain ⟨o'', h''⟩ := back _ _ hb'
    exact ⟨b', o'', K, h'', hK, rfl⟩
  · intro k hk hn
    rw [at_, if_neg (hn b o0 L h0 hL)]

/-! Memory that is known never to turn. -/
def Names.add (ρ : Names) (blk off : Nat) (l : List Value) : Names := ⟨ρ.loc, fun a i => if a = blk ∧ off ≤ i ∧ i < off + l.length then l[i - off]? else ρ.mem a i⟩
theorem Names.add_at (ρ : Names) (blk off : Nat) (l : List Value) {i : Nat} {v : Value} (h : l[i]? = some v) : (ρ.add blk off l).mem blk (off + i) = some v := by
  have hi : i < l.length := by
    rcases Nat.lt_or_ge i l.length with h1 | h1
    · exact h1
    · rw [List.getElem?_eq_none h1] at h; cases h
  show (if blk = blk ∧ off ≤ off + i ∧ off + i < off + l.length then l[off + i - off]? else ρ.mem blk (off + i)) = some v
  rw [if_pos ⟨rfl, Nat.le_add_right _ _, by omega⟩, Nat.add_sub_cancel_left]; exact h
theorem Names.add_inv {ρ : Names} {blk off : Nat} {l : List Value} {a i : Nat} {v : Value} (h : (ρ.add blk off l).mem a i = some v) :
    (a = blk ∧ off ≤ i ∧ i < off + l.length ∧ l[i - off]? = some v) ∨ (¬ (a = blk ∧ off ≤ i ∧ i < off + l.length) ∧ ρ.mem a i = some v) := by
  simp only [Names.add] at h
  by_cases c : a = blk ∧ off ≤ i ∧ i < off + l.length
  · rw [if_pos c] at h; exact .inl ⟨c.1, c.2.1, c.2.2, h⟩
  · rw [if_neg c] at h; exact .inr ⟨c, h⟩
theorem Names.add_le {ρ : Names} {blk off : Nat} {l : List Value} (h : ∀ i v, ρ.mem blk i = some v → i < off ∨ off + l.length ≤ i) : ρ.le (ρ.add blk off l) := by
  refine ⟨fun _ _ h => h, fun a i v hv => ?_⟩
  simp only [Names.add]
  rw [if_neg]; · exact hv
  rintro ⟨rfl, h1, h2⟩
  rcases h i v hv with h3 | h3 <;> omega

/-- The cells behind those that are known are written, and known from now on; the place behind them has a new name. -/
theorem HR.grow {ρ : Names} {st : St} {w : World} (h : HR ρ st w) {b : Nat} {L : Loc} (h0 : st.heap.get b = some .spare) (hL : ρ b = some L) (l : List Value) (x : Obj)
    (ho : ∃ (arr : Array Value) (e : TypeId) (lo hi : Nat), x = .cells arr e (lo, hi) ∧ arr.size = L.tot ∧ L.off + l.length ≤ L.tot ∧ (∀ i, i < L.tot → ¬ (lo ≤ i ∧ i < hi)) ∧ (∀ i v, l[i]? = some v → arr[L.off + i]? = some v) ∧
      ∀ i v, i < L.off → w.cell? ⟨L.blk, i, none⟩ = some v → arr[i]? = some v) :
    HR ((ρ.set st.next ⟨L.blk, L.off + l.length, L.tot⟩).add L.blk L.off l) ((st.del b).new .spare) { w with heap := w.heap.setIfInBounds L.blk x } ∧
      Goes ρ st w ((ρ.set st.next ⟨L.blk, L.off + l.length, L.tot⟩).add L.blk L.off l) ((st.del b).new .spare) { w with heap := w.heap.setIfInBounds L.blk x } := by
  obtain ⟨arr, e, lo, hi, rfl, x1, x2, x3, x4, x5⟩ := ho
  have hlt := (h.lt _ _ hL).2
  have hsepL : ∀ i v, ρ.mem L.blk i = some v → i < L.off := fun i v hv => (h.sep _ _ _ hv _ _ _ h0 hL rfl).2
  have hle : ρ.le ((ρ.set st.next ⟨L.blk, L.off + l.length, L.tot⟩).add L.blk L.off l) :=
    Names.le_trans (Names.set_le _ h.fresh) (Names.add_le fun i v hv => .inl (hsepL i v hv))
  have at_ : ∀ k, ({ w with heap := w.heap.setIfInBounds L.blk (.cells arr e (lo, hi)) } : World).heap[k]? = if L.blk = k then some (.cells arr e (lo, hi)) else w.heap[k]? := fun k => by
    show (w.heap.setIfInBounds L.blk _)[k]? = _
    rw [Array.getElem?_setIfInBounds]
    by_cases e : L.blk = k
    · simp [e]; omega
    · simp [e]
  have hsz : ({ w with heap := w.heap.setIfInBounds L.blk (.cells arr e (lo, hi)) } : World).heap.size = w.heap.size := by simp
  have gets : ∀ b' o', ((st.del b).new .spare).heap.get b' = some o' → (b' = st.next ∧ o' = .spare) ∨ (b' ≠ st.next ∧ b' ≠ b ∧ st.heap.get b' = some o') := fun b' o' hb => by
    change ((st.heap.del b).set st.next .spare).get b' = some o' at hb
    rw [Tr.get_set, Tr.get_del] at hb
    by_cases e : b' = st.next
    · rw [if_pos e] at hb; injection hb with hb; exact .inl ⟨e, hb.symm⟩
    · rw [if_neg e] at hb
      by_cases e2 : b' = b
      · rw [if_pos e2] at hb; cases hb
      · rw [if_neg e2] at hb; exact .inr ⟨e, e2, hb⟩
  have locs : ∀ b' K, ((ρ.set st.next ⟨L.blk, L.off + l.length, L.tot⟩).add L.blk L.off l) b' = some K → (b' = st.next ∧ K = ⟨L.blk, L.off + l.length, L.tot⟩) ∨ (b' ≠ st.next ∧ ρ b' = some K) := fun b' K hK => Names.set_inv hK
  have new_at : ((ρ.set st.next ⟨L.blk, L.off + l.length, L.tot⟩).add L.blk L.off l) st.next = some ⟨L.blk, L.off + l.length, L.tot⟩ := Names.set_same _ _ _
  have newc : ∀ i, ({ w with heap := w.heap.setIfInBounds L.blk (.cells arr e (lo, hi)) } : World).cell? ⟨L.blk, i, none⟩ = arr[i]? := fun i => by
    have := at_ L.blk
    rw [if_pos rfl] at this
    simp [World.cell?, this]
  refine ⟨⟨?_, ?_, ?_, ?_, ?_, fun g l hg => let ⟨l', a, c⟩ := h.glob g l hg; ⟨l', a.mono hle, fun i v hv => hle.mem _ _ _ (c i v hv)⟩⟩, ⟨hle, Nat.le_succ _, ?_, by omega, ?_, ?_, rfl, rfl, rfl, fun a i v hv => ?_⟩⟩
  · intro b' K hK
    rw [hsz]
    rcases locs _ _ hK with ⟨e1, e2⟩ | ⟨_, hK'⟩
    · rw [e1, e2]; exact ⟨Nat.lt_succ_self _, hlt⟩
    · have := h.lt _ _ hK'; exact ⟨Nat.lt_succ_of_lt this.1, this.2⟩
  · intro b' o' hb
    rcases gets _ _ hb with ⟨rfl, rfl⟩ | ⟨n1, n2, hb'⟩
    · exact ⟨_, new_at, by rw [at_, if_pos rfl]; exact ⟨arr, e, lo, hi, rfl, x1, x2, x3⟩⟩
    · obtain ⟨K, hK, hO⟩ := h.obj _ _ hb'
      refine ⟨K, hle _ _ hK, ?_⟩
      rw [at_, if_neg (fun he => n2 (h.inj _ _ _ _ _ _ hb' h0 hK hL he.symm))]
      exact hO.mono hle
  · intro b1 b2 o1 o2 K1 K2 h1 h2 k1 k2 he
    rcases gets _ _ h1 with ⟨e1, _⟩ | ⟨n1, m1, g1⟩
    · rcases gets _ _ h2 with ⟨e2, _⟩ | ⟨n2, m2, g2⟩
      · rw [e1, e2]
      · subst e1
        rw [new_at] at k1; injection k1 with k1; subst k1
        rcases locs _ _ k2 with ⟨e3, _⟩ | ⟨_, k2'⟩
        · exact absurd e3 n2
        · exact absurd (h.inj _ _ _ _ _ _ g2 h0 k2' hL he.symm) m2
    · rcases gets _ _ h2 with ⟨e2, _⟩ | ⟨n2, m2, g2⟩
      · subst e2
        rw [new_at] at k2; injection k2 with k2; subst k2
        rcases locs _ _ k1 with ⟨e3, _⟩ | ⟨_, k1'⟩
        · exact absurd e3 n1
        · exact absurd (h.inj _ _ _ _ _ _ g1 h0 k1' hL he) m1
      · rcases locs _ _ k1 with ⟨e3, _⟩ | ⟨_, k1'⟩
        · exact absurd e3 n1
        · rcases locs _ _ k2 with ⟨e3, _⟩ | ⟨_, k2'⟩
          · exact absurd e3 n2
          · exact h.inj _ _ _ _ _ _ g1 g2 k1' k2' he
  · intro a i v hv
    rcases Names.add_inv hv with ⟨rfl, h1, h2, h3⟩ | ⟨_, hv'⟩
    · rw [newc]
      have := x4 _ _ h3
      rwa [show L.off + (i - L.off) = i by omega] at this
    · by_cases c : L.blk = a
      · subst c
        rw [newc]
        exact x5 _ _ (hsepL _ _ hv') (h.mem _ _ _ hv')
      · rw [cell_of (w := w) (by rw [at_, if_neg c])]; exact h.mem _ _ _ hv'
  · intro a i v hv b' o' K hg hK he
    rcases gets _ _ hg with ⟨rfl, rfl⟩ | ⟨n1, n2, g'⟩
    · refine ⟨rfl, ?_⟩
      rw [new_at] at hK; injection hK with hK; subst hK
      have he' : L.blk = a := he
      rcases Names.add_inv hv with ⟨_, h1, h2, h3⟩ | ⟨_, hv'⟩
      · exact h2
      · subst he'
        have := hsepL _ _ hv'
        show i < L.off + l.length
        omega
    · rcases locs _ _ hK with ⟨e3, _⟩ | ⟨_, hK'⟩
      · exact absurd e3 n1
      · rcases Names.add_inv hv with ⟨ha, h1, h2, h3⟩ | ⟨_, hv'⟩
        · exact absurd (h.inj _ _ _ _ _ _ g' h0 hK' hL (he.trans ha)) n2
        · exact h.sep _ _ _ hv' _ _ _ g' hK' he
  · intro b' K hK
    rcases locs _ _ hK with ⟨e1, e2⟩ | ⟨_, hK'⟩
    · rw [e1]; exact .inr ⟨Nat.le_refl _, fun k hk => by rw [h.fresh] at hk; cases hk⟩
    · exact .inl hK'
  · intro b' o' K hb hK hlt'
    rcases gets _ _ hb with ⟨rfl, rfl⟩ | ⟨n1, n2, hb'⟩
    · rw [new_at] at hK; injection hK with hK; subst hK
      exact ⟨b, .spare, L, h0, hL, rfl⟩
    · rcases locs _ _ hK with ⟨e3, _⟩ | ⟨_, hK'⟩
      · exact absurd e3 n1
      · exact ⟨b', o', K, hb', hK', rfl⟩
  · intro k hk hn
    rw [at_, if_neg (hn b .spare L h0 hL)]
  · rcases Names.add_inv hv with ⟨ha, _, _, _⟩ | ⟨_, hv'⟩
    · exact .inr (.inr ⟨b, .spare, L, h0, hL, ha.symm⟩)
    · exact .inl hv'

/-- A new block, of which the first cells are known from now on; the place behind them has a name. -/
theorem HR.newVsF {ρ : Names} {st : St} {w : World} (h : HR ρ st w) (l : List Value) (arr : Array Value) (e : TypeId) (z1 z2 : Nat) (hz : ∀ i, i < arr.size → ¬ (z1 ≤ i ∧ i < z2)) (hl : l.length ≤ arr.size) (ha : ∀ (i : Nat) (v : Value), l[i]? = some v → arr[i]? = some v) :
    HR ((ρ.set st.next ⟨w.heap.size, l.length, arr.size⟩).add w.heap.size 0 l) (st.new .spare) (worldNew w (.cells arr e (z1, z2))) ∧
      Goes ρ st w ((ρ.set st.next ⟨w.heap.size, l.length, arr.size⟩).add w.heap.size 0 l) (st.new .spare) (worldNew w (.cells arr e (z1, z2))) := by
  obtain ⟨H, G⟩ := h.new .spare ⟨w.heap.size, l.length, arr.size⟩ (.cells arr e (z1, z2)) rfl ⟨arr, e, z1, z2, rfl, rfl, hl, hz⟩
  have hno : ∀ i v, ρ.mem w.heap.size i = some v → False := fun i v hv => Nat.lt_irrefl _ (h.mem_lt hv)
  have hle : (ρ.set st.next ⟨w.heap.size, l.length, arr.size⟩).le ((ρ.set st.next ⟨w.heap.size, l.length, arr.size⟩).add w.heap.size 0 l) := Names.add_le fun i v hv => (hno i v hv).elim
  have newc : ∀ i, (worldNew w (.cells arr e (z1, z2))).cell? ⟨w.heap.size, i, none⟩ = arr[i]? := fun i => by
    have : (worldNew w (.cells arr e (z1, z2))).heap[w.heap.size]? = some (.cells arr e (z1, z2)) := by show (w.heap.push _)[w.heap.size]? = _; simp
    simp [World.cell?, this]
  refine ⟨⟨H.lt, fun b o hb => let ⟨K, k1, k2⟩ := H.obj b o hb; ⟨K, k1, k2.mono hle⟩, H.inj, ?_, ?_, fun g l hg => let ⟨l', a, c⟩ := H.glob g l hg; ⟨l', a.mono hle, fun i v hv => hle.mem _ _ _ (c i v hv)⟩⟩, ⟨Names.le_trans G.le hle, G.next, G.fresh, G.size, G.img, G.same, G.os, G.tape, G.output, fun a i v hv => by
    rcases Names.add_inv hv with ⟨ha, _, _, _⟩ | ⟨_, hv'⟩
    · exact .inr (.inl (by rw [ha]; exact Nat.le_refl _))
    · exact .inl hv'⟩⟩
  · intro a i v hv
    rcases Names.add_inv hv with ⟨rfl, h1, h2, h3⟩ | ⟨_, hv'⟩
    · rw [newc]; exact ha _ _ h3
    · exact H.mem _ _ _ hv'
  · intro a i v hv b o K hg hK he
    rcases Names.add_inv hv with ⟨ha', h1, h2, h3⟩ | ⟨_, hv'⟩
    · have hg' : (st.heap.set st.next .spare).get b = some o := hg
      rw [Tr.get_set] at hg'
      rcases Names.set_inv (show (ρ.set st.next ⟨w.heap.size, l.length, arr.size⟩) b = some K from hK) with ⟨e1, e2⟩ | ⟨n1, k1⟩
      · rw [if_pos e1] at hg'; injection hg' with hg'
        subst e2
        exact ⟨hg'.symm, by show i < l.length; omega⟩
      · have := (h.lt _ _ k1).2; rw [he, ha'] at this; omega
    · exact H.sep _ _ _ hv' _ _ _ hg hK he
theorem HR.newVs {ρ : Names} {st : St} {w : World} (h : HR ρ st w) (l : List Value) (arr : Array Value) (e : TypeId) (hl : l.length ≤ arr.size) (ha : ∀ (i : Nat) (v : Value), l[i]? = some v → arr[i]? = some v) :
    HR ((ρ.set st.next ⟨w.heap.size, l.length, arr.size⟩).add w.heap.size 0 l) (st.new .spare) (worldNew w (.cells arr e)) ∧
      Goes ρ st w ((ρ.set st.next ⟨w.heap.size, l.length, arr.size⟩).add w.heap.size 0 l) (st.new .spare) (worldNew w (.cells arr e)) :=
  h.newVsF l arr e 0 0 (fun i _ hh => by omega) hl ha

end Go.Det
