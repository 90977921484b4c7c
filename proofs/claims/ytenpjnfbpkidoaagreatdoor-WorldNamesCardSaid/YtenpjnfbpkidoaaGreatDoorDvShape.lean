/- Shapes of a law's arguments: the values that the machine has for them. -/
import Derived.Test.YtenpjnfbpkidoaaGreatDoorDvLaw
import Derived.Test.YtenpjnfbpkidoaaGreatDoorDvLift
import Derived.Test.YtenpjnfbpkidoaaGreatDoorDvW3
set_option linter.unusedVariables false
namespace Go.Det
open Go.RowKit Go.ChangeShapes Go.WideShapes
variable {P : Program}

inductive Sh where
  | int (k : IntKind) | bool | str
  | slice (s : Sh)
  | fnil
  | fcons (s r : Sh)
def Sh.V : Sh → Type
  | .int _ => Int
  | .bool => Bool
  | .str => ByteArray
  | .slice s => SliceV s.V
  | .fnil => Unit
  | .fcons s r => s.V × r.V
def Sh.size : Sh → Nat
  | .int _ | .bool | .str | .slice _ => 1
  | .fnil => 0
  | .fcons s r => s.size + r.size
def Sh.cells : (s : Sh) → s.V → List AV
  | .int k, x => [.int k x]
  | .bool, x => [.bool x]
  | .str, x => [.str x]
  | .slice s, x => [SliceV.av s.cells s.size x]
  | .fnil, _ => []
  | .fcons s r, x => s.cells x.1 ++ r.cells x.2
def Sh.ok : (s : Sh) → s.V → Prop
  | .int k, x => (Lit.int k x).wf = true
  | .bool, _ => True
  | .str, x => x.size ≤ maxLen
  | .slice s, x => SliceV.ok s.ok x
  | .fnil, _ => True
  | .fcons s r, x => s.ok x.1 ∧ r.ok x.2
/-- The argument itself. -/
def Sh.av : (s : Sh) → s.V → AV
  | .int k, x => .int k x
  | .bool, x => .bool x
  | .str, x => .str x
  | .slice s, x => SliceV.av s.cells s.size x
  | .fnil, _ => .agg []
  | .fcons s r, x => .agg (s.cells x.1 ++ r.cells x.2)

mutual
def fits (P : Program) : Sh → TypeId → Bool
  | .int k, t => and (match P.underlying t with | some (.int k') => eqKind k k' | _ => false) (Nat.beq (P.cellsOf t) 1)
  | .bool, t => and (match P.underlying t with | some .bool => true | _ => false) (Nat.beq (P.cellsOf t) 1)
  | .str, t => and (match P.underlying t with | some .string => true | _ => false) (Nat.beq (P.cellsOf t) 1)
  | .slice s, t => match P.underlying t with
    | some (.slice e) => and (Nat.beq (P.cellsOf t) 1) (and (Nat.beq (P.cellsOf e) s.size) (and (Nat.ble 1 s.size) (fits P s e)))
    | _ => false
  | .fnil, _ => false
  | .fcons s r, t => match P.underlying t with
    | some (.struct fs) => (match fs.toList with
      | [] => false
      | f :: l => and (Nat.beq f.offset 0) (and (Nat.beq (P.cellsOf f.type) s.size) (and (Nat.beq (P.cellsOf t) (Nat.add s.size r.size)) (and (fits P s f.type) (fitsF P r s.size l)))))
    | _ => false
def fitsF (P : Program) : Sh → Nat → List Field → Bool
  | .fnil, _, [] => true
  | .fcons s r, o, f :: l => and (Nat.beq f.offset o) (and (Nat.beq (P.cellsOf f.type) s.size) (and (fits P s f.type) (fitsF P r (Nat.add o s.size) l)))
  | _, _, _ => false
end

mutual
theorem fits_arg : ∀ {s : Sh} {t : TypeId}, fits P s t = true → ArgOf P t s.cells s.ok
  | .int k, t, h => by
    simp only [fits, Bool.and_eq_true] at h
    obtain ⟨h, hc⟩ := h
    split at h
    · rename_i hu
      obtain rfl := eqKind_iff.1 h
      exact abs_int hu (of_beq hc)
    · cases h
  | .bool, t, h => by
    simp only [fits, Bool.and_eq_true] at h
    obtain ⟨h, hc⟩ := h
    split at h
    · rename_i hu; exact abs_bool hu (of_beq hc)
    · cases h
  | .str, t, h => by
    simp only [fits, Bool.and_eq_true] at h
    obtain ⟨h, hc⟩ := h
    split at h
    · rename_i hu; exact abs_string hu (of_beq hc)
    · cases h
  | .slice s, t, h => by
    simp only [fits] at h
    split at h
    · rename_i hu
      simp only [Bool.and_eq_true] at h
      obtain ⟨h1, h2, h3, h4⟩ := h
      exact abs_slice hu (of_beq h1) (of_beq h2) (of_ble h3) (fits_arg h4)
    · cases h
  | .fnil, t, h => by simp [fits] at h
  | .fcons s r, t, h => by
    simp only [fits] at h
    split at h
    · rename_i fs hu
      split at h
      · cases h
      · rename_i f l hl
        simp only [Bool.and_eq_true] at h
        obtain ⟨h1, h2, h3, h4, h5⟩ := h
        refine abs_struct hu ?_
        rw [hl]
        exact argFs_on (of_beq h3) (of_beq h1) (of_beq h2) (fits_arg h4) (fitsF_arg (o := 0 + s.size) (by rwa [Nat.zero_add]))
    · cases h
theorem fitsF_arg : ∀ {r : Sh} {o : Nat} {l : List Field}, fitsF P r o l = true → ArgFs P l o r.size r.cells r.ok
  | .fnil, o, [], _ => argFs_nil o
  | .fcons s r, o, f :: l, h => by
    simp only [fitsF, Bool.and_eq_true] at h
    obtain ⟨h1, h2, h4, h5⟩ := h
    exact argFs_on rfl (of_beq h1) (of_beq h2) (fits_arg h4) (fitsF_arg h5)
  | .int _, _, _, h => by simp [fitsF] at h
  | .bool, _, _, h => by simp [fitsF] at h
  | .str, _, _, h => by simp [fitsF] at h
  | .slice _, _, _, h => by simp [fitsF] at h
  | .fnil, _, _ :: _, h => by simp [fitsF] at h
  | .fcons _ _, _, [], h => by simp [fitsF] at h
end

theorem fits_av {s : Sh} {t : TypeId} (h : fits P s t = true) {r : Reach} {w : World} {base : Nat} {v : Value} (hv : Value.okWide P w r base t v) {H : Type} {enc : TypeId × Value → H} {W : World} {d : DataW H} {ps : List MemPlace}
    (ht : DataW.Trod enc P W 0 (fun _ => true) true t v d ps) : ∃ a : s.V, s.ok a ∧ VR (frozenAll W) (s.av a) v := by
  have ha := fits_arg h
  obtain ⟨n, hn⟩ := ht
  obtain ⟨a, h1, h2⟩ := ha.abs enc W n _ _ hn
  refine ⟨a, h1, ?_⟩
  cases s with
  | int k =>
    simp only [fits, Bool.and_eq_true] at h
    obtain ⟨h, hc⟩ := h
    split at h
    · rename_i hu; obtain ⟨z, rfl⟩ := okWide_int hu hv; exact arg_one h2 (fun cs => by simp)
    · cases h
  | bool =>
    simp only [fits, Bool.and_eq_true] at h
    obtain ⟨h, hc⟩ := h
    split at h
    · rename_i hu; obtain ⟨z, rfl⟩ := okWide_bool hu hv; exact arg_one h2 (fun cs => by simp)
    · cases h
  | str =>
    simp only [fits, Bool.and_eq_true] at h
    obtain ⟨h, hc⟩ := h
    split at h
    · rename_i hu; obtain ⟨z, rfl⟩ := okWide_string hu hv; exact arg_one h2 (fun cs => by simp)
    · cases h
  | slice s =>
    simp only [fits] at h
    split at h
    · rename_i hu; obtain ⟨x, y, z, rfl⟩ := okWide_slice hu hv; exact arg_one h2 (fun cs => by simp)
    · cases h
  | fnil => simp [fits] at h
  | fcons s r =>
    simp only [fits] at h
    split at h
    · rename_i hu; obtain ⟨cs, rfl, _⟩ := okWide_struct hu hv; exact .agg h2
    · cases h

/-! A law that is walked. -/
def yesQ (v : AV) : Prop := match v with | .bool true => True | _ => False
theorem yesQ_eq {v : AV} (h : yesQ v) : v = .bool true := by
  unfold yesQ at h
  split at h
  · rfl
  · exact h.elim
noncomputable def knowOne (f : Nat) : FuncId → Option CallC := fun g => Bool.rec none (some fun args st Q => List.rec (Q (.bool true) st) (fun _ _ _ => False) args) (Nat.beq g f)
theorem knowOne_ok {f : Nat} {lp : FuncId → Nat → Option LoopC} (h : ∀ st, CallS P f [] st (.bool true) st) : KnownOk P { tab := knowOne f, lp := lp } := by
  intro g C args st Q hC hr
  change knowOne f g = some C at hC
  unfold knowOne at hC
  cases hb : Nat.beq g f with
  | false => rw [hb] at hC; cases hC
  | true =>
    rw [hb] at hC
    injection hC with hC; subst hC
    obtain rfl : g = f := of_beq hb
    cases args with
    | nil => exact ⟨_, _, h st, hr⟩
    | cons a l => exact False.elim hr
/-- All calls are run by the machine. -/
noncomputable def knowRun (tab : Tab) (P : Program) (n : Nat) : FuncId → Option CallC := fun f => some fun args st Q => obW ((runTab tab P n).call f args st) fun p => Prod.rec (fun v st => Q v st) p
theorem knowRun_ok {tab : Tab} (hm : P.follows .mixedOrders = true) (ht : TabOk P tab) {n : Nat} {lp : FuncId → Nat → Option LoopC} : KnownOk P { tab := knowRun tab P n, lp := lp } := by
  intro g C args st Q hC hr
  injection hC with hC; subst hC
  rw [obW_iff] at hr
  obtain ⟨p, h1, h2⟩ := hr
  exact ⟨p.1, p.2, (runTab_sound ht hm n).2.1 g args st _ _ h1, h2⟩
def stB (b : Bool) : St := { heap := .leaf, next := 0, vm := b }
theorem law_W (hm : P.follows .mixedOrders = true) {K : Known} (hK : KnownOk P K) {n f : Nat} {args : List AV} {b : Bool} (h : callW P (runW P K n) f args (stB b) fun v _ => yesQ v) {w : World} {args' : List Value} (hA : VRs (frozenAll w) args args') :
    Calls P f ⟨args'⟩ w fun e w' => e = .returned (.bool true) ∧ Below w.heap.size w w' := by
  obtain ⟨v, st', h1, h2⟩ := CallS.of_W hm hK n h
  obtain rfl := yesQ_eq h2
  exact law_calls h1 hA

theorem law_Weq (hm : P.follows .mixedOrders = true) {K : Known} (hK : KnownOk P K) {n f : Nat} {args : List AV} {b : Bool} {X : Prop} (e : (callW P (runW P K n) f args (stB b) fun v _ => yesQ v) = X) (hX : X) {w : World} {args' : List Value} (hA : VRs (frozenAll w) args args') :
    Calls P f ⟨args'⟩ w fun e w' => e = .returned (.bool true) ∧ Below w.heap.size w w' :=
  law_W hm hK (e ▸ hX) hA

/-- All arguments of a law. -/
def ShVs : List Sh → Type
  | [] => Unit
  | s :: l => s.V × ShVs l
def ShAvs : (l : List Sh) → ShVs l → List AV
  | [], _ => []
  | s :: l, x => s.av x.1 :: ShAvs l x.2
def ShOks : (l : List Sh) → ShVs l → Prop
  | [], _ => True
  | s :: l, x => s.ok x.1 ∧ ShOks l x.2
def fitsAll (P : Program) : List Sh → List TypeId → Bool
  | [], [] => true
  | s :: l, t :: ts => and (fits P s t) (and (P.readableRec t) (and (Nat.blt t P.types.size) (fitsAll P l ts)))
  | _, _ => false
theorem fitsAll_av : ∀ {l : List Sh} {ts : List TypeId}, fitsAll P l ts = true → ∀ {vs : List Value} {H : Type} {enc : TypeId × Value → H} {W : World} {ds : List (DataW H)} {p : List MemPlace} {r : Reach} {w : World} {base : Nat},
    (∀ (i : Nat) (t : TypeId) (v : Value), ts[i]? = some t → vs[i]? = some v → Value.okWide P w r base t v) → DataW.TrodAll enc P W 0 (fun _ => true) true ts vs ds p →
    (∃ a : ShVs l, ShOks l a ∧ VRs (frozenAll W) (ShAvs l a) vs) ∧ ∀ t ∈ ts, P.readableRec t = true ∧ t < P.types.size
  | [], [], _, vs, H, enc, W, ds, p, r, w, base, hv, h => by
    obtain ⟨rfl, rfl, rfl⟩ := trodAll_nil h
    exact ⟨⟨(), trivial, .nil⟩, by simp⟩
  | s :: l, t :: ts, hf, vs, H, enc, W, ds, p, r, w, base, hv, h => by
    simp only [fitsAll, Bool.and_eq_true] at hf
    obtain ⟨f1, f2, f3, f4⟩ := hf
    obtain ⟨v, vs1, d, ds1, a, b, rfl, rfl, rfl, h1, h2⟩ := trodAll_cons h
    obtain ⟨x, hx, hx'⟩ := fits_av f1 (hv 0 t v rfl rfl) h1
    obtain ⟨⟨y, hy, hy'⟩, ht⟩ := fitsAll_av f4 (fun i t v h h' => hv (i + 1) t v (by simpa using h) (by simpa using h')) h2
    refine ⟨⟨(x, y), ⟨hx, hy⟩, .cons hx' hy'⟩, fun t' ht' => ?_⟩
    rcases List.mem_cons.1 ht' with rfl | ht'
    · exact ⟨f2, of_ble f3⟩
    · exact ht t' ht'
  | [], _ :: _, h, _, _, _, _, _, _, _, _, _, _, _ => by simp [fitsAll] at h
  | _ :: _, [], h, _, _, _, _, _, _, _, _, _, _, _ => by simp [fitsAll] at h

end Go.Det
