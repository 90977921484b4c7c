/- A law's arguments, told plainly. -/
import Derived.Test.YteehkdejkemnmabDoorDvShape
import Derived.Test.YteehkdejkemnmabDoorDvGen3
set_option linter.unusedVariables false
namespace Go.Det
open Go.RowKit
variable {P : Program}

def Enc.unit : Enc Unit := ⟨fun _ => [], 0, fun _ => rfl, fun _ => rfl, fun _ => rfl, fun _ => rfl⟩
def Enc.bool : Enc Bool := ⟨fun b => [.bool b], 1, fun _ => rfl, fun _ => rfl, fun _ => rfl, fun _ => rfl⟩
def Enc.str : Enc ByteArray := ⟨fun b => [.str b], 1, fun _ => rfl, fun _ => rfl, fun _ => rfl, fun _ => rfl⟩
def Enc.pair {α β : Type} (E : Enc α) (F : Enc β) : Enc (α × β) :=
  ⟨fun x => E.f x.1 ++ F.f x.2, Nat.add E.e F.e, fun x => by rw [List.length_append, E.len, F.len]; rfl, fun x => allScalar_append (E.scal _) (F.scal _), fun x => frees_append (E.free _) (F.free _), fun x => by rw [drops_append, E.drop, F.drop]⟩

def Sh.Pl : Sh → Type
  | .int _ => Int
  | .bool => Bool
  | .str => ByteArray
  | .slice s => List s.Pl
  | .fnil => Unit
  | .fcons s r => s.Pl × r.Pl
def Sh.enc : (s : Sh) → Enc s.Pl
  | .int k => Enc.int k
  | .bool => Enc.bool
  | .str => Enc.str
  | .slice s => Enc.list s.enc
  | .fnil => Enc.unit
  | .fcons s r => Enc.pair s.enc r.enc
def Sh.pl : (s : Sh) → s.V → s.Pl
  | .int _, x => x
  | .bool, x => x
  | .str, x => x
  | .slice s, x => (SliceV.list x).map s.pl
  | .fnil, _ => ()
  | .fcons s r, x => (s.pl x.1, r.pl x.2)
/-- What is known of it. -/
def Sh.plOk : (s : Sh) → s.Pl → Prop
  | .int k, x => (Lit.int k x).wf = true
  | .bool, _ => True
  | .str, x => x.size ≤ maxLen
  | .slice s, (x : List s.Pl) => (∀ b ∈ x, s.plOk b) ∧ x.length ≤ maxLen
  | .fnil, _ => True
  | .fcons s r, x => s.plOk x.1 ∧ r.plOk x.2
theorem Sh.enc_e : ∀ s : Sh, s.enc.e = s.size
  | .int _ => rfl
  | .bool => rfl
  | .str => rfl
  | .slice s => rfl
  | .fnil => rfl
  | .fcons s r => by show Nat.add _ _ = _; rw [Sh.enc_e s, Sh.enc_e r]; rfl
theorem WkL.append : ∀ {a a' b b' : List AV}, WkL a a' → WkL b b' → WkL (a ++ b) (a' ++ b')
  | [], [], _, _, _, h => h
  | _ :: _, _ :: _, _, _, ⟨h, t⟩, h' => ⟨h, WkL.append t h'⟩
  | [], _ :: _, _, _, h, _ => h.elim
  | _ :: _, [], _, _, h, _ => h.elim
theorem wk_vsL {α : Type} {E : Enc α} {l : List α} {cs : List AV} {n c e : Nat} {x : Bool} {w : Option Nat} (h : WkL cs (l.flatMap E.f)) (hn : n = l.length) (he : e = E.e) : Wk (.vs cs n c x w e) (lst E l) := by
  subst he
  intro ρ v hv
  unfold lst
  cases hv with
  | vs g hs hl h1 h2 h3 h4 h5 =>
    rw [← hn]
    exact VR.vs (h.vrs g) (E.fscal l) (by rw [E.flen, hn]) (Nat.le_refl _) (by omega) (fun h => by cases h) h4 (fun b hb => by cases hb)
  | vsNil =>
    have hl : l = [] := List.length_eq_zero_iff.1 hn.symm
    subst hl
    exact .vsNil
theorem Sh.wk : ∀ (s : Sh) (x : s.V), WkL (s.cells x) (s.enc.f (s.pl x))
  | .int k, x => ⟨Wk.refl _, trivial⟩
  | .bool, x => ⟨Wk.refl _, trivial⟩
  | .str, x => ⟨Wk.refl _, trivial⟩
  | .slice s, x => by
    refine ⟨?_, trivial⟩
    show Wk (SliceV.av s.cells s.size x) (lst s.enc ((SliceV.list x).map s.pl))
    have key : ∀ l : List s.V, WkL (l.flatMap s.cells) ((l.map s.pl).flatMap s.enc.f) := by
      intro l
      induction l with
      | nil => exact trivial
      | cons a l ih => simp only [List.flatMap_cons, List.map_cons]; exact WkL.append (Sh.wk s a) ih
    cases x with
    | nil => exact wk_vsL (l := []) trivial rfl (Sh.enc_e s).symm
    | mk l cap => exact wk_vsL (key l) (by simp [SliceV.list]) (Sh.enc_e s).symm
  | .fnil, x => trivial
  | .fcons s r, x => WkL.append (Sh.wk s x.1) (Sh.wk r x.2)
theorem Sh.pl_ok : ∀ (s : Sh) (x : s.V), s.ok x → s.plOk (s.pl x)
  | .int k, x, h => h
  | .bool, x, h => trivial
  | .str, x, h => h
  | .slice s, x, h => by
    cases x with
    | nil => exact ⟨fun b hb => by simp [Sh.pl, SliceV.list] at hb, by simp [Sh.pl, SliceV.list]⟩
    | mk l cap =>
      obtain ⟨h1, h2, h3⟩ := h
      refine ⟨fun b hb => ?_, by show (List.map s.pl l).length ≤ _; rw [List.length_map]; omega⟩
      obtain ⟨a, ha, rfl⟩ := List.mem_map.1 (show b ∈ l.map s.pl from hb)
      exact Sh.pl_ok s a (h1 a ha)
  | .fnil, x, h => trivial
  | .fcons s r, x, h => ⟨Sh.pl_ok s x.1 h.1, Sh.pl_ok r x.2 h.2⟩
/-- The argument itself. -/
def Sh.plAv : (s : Sh) → s.Pl → AV
  | .int k, x => .int k x
  | .bool, x => .bool x
  | .str, x => .str x
  | .slice s, x => lst s.enc x
  | .fnil, _ => .agg []
  | .fcons s r, x => .agg ((Sh.fcons s r).enc.f x)
theorem Sh.wkAv (s : Sh) (x : s.V) : Wk (s.av x) (s.plAv (s.pl x)) := by
  cases s with
  | int k => exact Wk.refl _
  | bool => exact Wk.refl _
  | str => exact Wk.refl _
  | slice s => exact (Sh.wk (.slice s) x).1
  | fnil => exact Wk.refl _
  | fcons s r => exact wk_agg (Sh.wk (.fcons s r) x)
def ShPls : List Sh → Type
  | [] => Unit
  | s :: l => s.Pl × ShPls l
def ShPl : (l : List Sh) → ShVs l → ShPls l
  | [], _ => ()
  | s :: l, x => (s.pl x.1, ShPl l x.2)
def ShPlAvs : (l : List Sh) → ShPls l → List AV
  | [], _ => []
  | s :: l, x => s.plAv x.1 :: ShPlAvs l x.2
def ShPlOks : (l : List Sh) → ShPls l → Prop
  | [], _ => True
  | s :: l, x => s.plOk x.1 ∧ ShPlOks l x.2
theorem ShPl_wk : ∀ (l : List Sh) (x : ShVs l), WkL (ShAvs l x) (ShPlAvs l (ShPl l x))
  | [], _ => trivial
  | s :: l, x => ⟨s.wkAv x.1, ShPl_wk l x.2⟩
theorem ShPl_ok : ∀ (l : List Sh) (x : ShVs l), ShOks l x → ShPlOks l (ShPl l x)
  | [], _, _ => trivial
  | s :: l, x, h => ⟨s.pl_ok x.1 h.1, ShPl_ok l x.2 h.2⟩
/-- A law whose call, its arguments told plainly, answers true. -/
theorem law_plain (hm : P.follows .mixedOrders = true) {K : Known} (hK : KnownOk P K) {n f : Nat} {shapes : List Sh} {b : Bool} (h : ∀ y : ShPls shapes, ShPlOks shapes y → callW P (runW P K n) f (ShPlAvs shapes y) (stB b) fun v _ => yesQ v)
    {x : ShVs shapes} (hx : ShOks shapes x) {w : World} {args' : List Value} (hA : VRs (frozenAll w) (ShAvs shapes x) args') :
    Calls P f ⟨args'⟩ w fun e w' => e = .returned (.bool true) ∧ Below w.heap.size w w' :=
  law_W hm hK (h _ (ShPl_ok shapes x hx)) ((ShPl_wk shapes x).vrs hA)
theorem wf_i64 {x : Int} (h : (Lit.int .i64 x).wf = true) : -9223372036854775808 ≤ x ∧ x < 9223372036854775808 := by
  simp [Lit.wf] at h
  have h1 : (-9223372036854775808 : Int) ≤ x := h.1
  omega
end Go.Det
