/- What the functions of the cost table, and of its reference, answer. -/
import Derived.Test.YthlkmjgpmjnngaaRows
import Derived.Test.YthlkmjgpmjnngaaDvVal
set_option linter.unusedVariables false
set_option linter.unusedSimpArgs false
namespace Go.Proofs.Ythlkmjgpmjnngaa
open Go.Det Go.RowKit

/-! What the numbers are. -/
structure C where
  d : Int
  p : Int
  w : Int
  l : Int
  r : Int
  i : Int
  q : Int
  s : Int
structure L where
  b : Int
  g : Int
  s : Int
def cA (c : C) : AV := .agg [.int .i64 c.d, .int .i64 c.p, .int .i64 c.w, .int .i64 c.l, .int .i64 c.r, .int .i64 c.i, .int .i64 c.q, .int .i64 c.s]
def lA (l : L) : AV := .agg [.int .i64 l.b, .int .i64 l.g, .int .i64 l.s]
def iA (n : Int) : AV := .int .i64 n
def bA (b : Bool) : AV := .bool b
def onC (v : AV) (k : C → Option AV) : Option AV :=
  match v with
  | .agg [.int .i64 d, .int .i64 p, .int .i64 w, .int .i64 l, .int .i64 r, .int .i64 i, .int .i64 q, .int .i64 s] => k ⟨d, p, w, l, r, i, q, s⟩
  | _ => none
def onL (v : AV) (k : L → Option AV) : Option AV :=
  match v with
  | .agg [.int .i64 b, .int .i64 g, .int .i64 s] => k ⟨b, g, s⟩
  | _ => none
def onI (v : AV) (k : Int → Option AV) : Option AV :=
  match v with
  | .int .i64 n => k n
  | _ => none

def bnd (c : C) : Bool := decide (1 ≤ c.d ∧ c.d ≤ 1024 ∧ 1 ≤ c.l ∧ c.l ≤ 4096 ∧ 1 ≤ c.w ∧ c.w ≤ 256 ∧ 1 ≤ c.r ∧ c.r ≤ 16777216)
def isz (c : C) : Int := if bnd c = true then 4 * c.d * (c.l + c.w) else 0
def fsz (n : Int) : Int := if n < 0 ∨ n > 33554432 then 0 else 8 + n
def bsz (c : C) (pts idx : Int) : Int := if bnd c = true ∧ 0 ≤ pts ∧ pts ≤ c.r ∧ (idx = 0 ∨ idx = isz c) then 58 + pts * (16 + 2 * c.d) + (if idx > 0 then 9 + idx else 0) else 0
def rsv (c : C) : Int := bsz c c.r (isz c)
def good (c : C) : Bool := decide (bnd c = true ∧ 1 ≤ c.p ∧ Int.tmod c.d c.p = 0 ∧ 1 ≤ c.i ∧ c.i ≤ 64 ∧ 2 ≤ c.q ∧ c.q ≤ 4096 ∧ bsz c 0 0 + rsv c ≤ c.s ∧ c.s ≤ 1099511627776)
def chk (c : C) : Int := if good c = true then 0 else 2
def wcost (n : Int) : Int := if n < 0 ∨ n > 33554424 then 0 else 16 + n

def F1 (k : C → AV) : List AV → Option AV
  | [v] => onC v fun c => some (k c)
  | _ => none
def FI (k : Int → AV) : List AV → Option AV
  | [v] => onI v fun c => some (k c)
  | _ => none
def FS : List AV → Option AV
  | [v, a, b] => onC v fun c => onI a fun a => onI b fun b => some (iA (bsz c a b))
  | _ => none

noncomputable def ft0 : FT := []
noncomputable def ft1 : FT := [(41, F1 fun c => bA (bnd c)), (61, F1 fun c => bA (bnd c)), (63, FI fun n => iA (fsz n)), (44, FI fun n => iA (fsz n))]
noncomputable def ft2 : FT := [(14, F1 fun c => iA (isz c)), (54, F1 fun c => iA (isz c)), (58, FI fun n => iA (wcost n)), (15, FI fun n => iA (wcost n))] ++ ft1
noncomputable def ft3 : FT := [(13, FS), (52, FS)] ++ ft2
noncomputable def ft4 : FT := [(22, F1 fun c => iA (rsv c)), (60, F1 fun c => iA (rsv c))] ++ ft3
noncomputable def ft5 : FT := [(9, F1 fun c => iA (chk c)), (50, F1 fun c => iA (chk c))] ++ ft4

def ins (c : C) : Int := if good c = true then 25 + 2 * c.d else 0
def del (c : C) : Int := if good c = true then 25 else 0
def swp (c : C) : Int := if good c = true then 17 + isz c else 0
def lok (l : L) : Bool := decide (0 ≤ l.b ∧ l.b ≤ 1099511627776 ∧ 0 ≤ l.g ∧ l.g ≤ 1099511627776 ∧ 0 ≤ l.s ∧ l.s ≤ 1099511627776)
def lchk (l : L) : Int := if lok l = true then 0 else 2
def used (l : L) : Int := if lok l = true then l.b + l.g + l.s else 0
def left (c : C) (l : L) : Int := c.s - rsv c - (l.b + l.g + l.s)
def both (c : C) (l : L) : Int := if good c = true ∧ lok l = true then 0 else 2
def may (c : C) (l : L) (n : Int) : Int := if good c = true ∧ lok l = true ∧ 0 ≤ n ∧ n ≤ 1099511627776 then (if n > left c l then 7 else 0) else 2
def rst (c : C) (l : L) : Int := if good c = true ∧ lok l = true then (if left c l < -1 then -1 else left c l) else -1
def l0 : L := ⟨0, 0, 0⟩
def pA (l : L) (e : Int) : AV := .tuple [lA l, iA e]
def lgdL (c : C) (l : L) (n : Int) : L := if may c l n = 0 then ⟨l.b, l.g + n, l.s⟩ else l0
def lgd (c : C) (l : L) (n : Int) : AV := pA (lgdL c l n) (may c l n)
def hldE (c : C) (l : L) : Int := if l.s = 0 then may c l (swp c) else 2
def hldL (c : C) (l : L) : L := if hldE c l = 0 then ⟨l.b, l.g, swp c⟩ else l0
def hld (c : C) (l : L) : AV := pA (hldL c l) (hldE c l)
def swdE (l : L) : Int := if lok l = true ∧ l.s ≠ 0 then 0 else 2
def swdL (l : L) : L := if swdE l = 0 then ⟨l.b, l.g + l.s, 0⟩ else l0
def swd (l : L) : AV := pA (swdL l) (swdE l)
def drp (l : L) : AV := lA ⟨l.b, l.g, 0⟩
def bsdE (c : C) (l : L) (n : Int) : Int := if good c = true ∧ lok l = true ∧ 0 ≤ n ∧ n ≤ c.r then 0 else 2
def bsdL (c : C) (l : L) (n : Int) (t : Bool) : L := if bsdE c l n = 0 then ⟨bsz c n (if t = true then isz c else 0), 0, l.s⟩ else l0
def bsd (c : C) (l : L) (n : Int) (t : Bool) : AV := pA (bsdL c l n t) (bsdE c l n)
def bgnL (c : C) : L := if chk c = 0 then ⟨bsz c 0 0, 0, 0⟩ else l0
def bgn (c : C) : AV := pA (bgnL c) (chk c)

def onB (v : AV) (k : Bool → Option AV) : Option AV :=
  match v with
  | .bool n => k n
  | _ => none
def FL (k : L → AV) : List AV → Option AV
  | [v] => onL v fun l => some (k l)
  | _ => none
def FCL (k : C → L → AV) : List AV → Option AV
  | [v, u] => onC v fun c => onL u fun l => some (k c l)
  | _ => none
def FCLI (k : C → L → Int → AV) : List AV → Option AV
  | [v, u, a] => onC v fun c => onL u fun l => onI a fun n => some (k c l n)
  | _ => none
def FCLIB (k : C → L → Int → Bool → AV) : List AV → Option AV
  | [v, u, a, t] => onC v fun c => onL u fun l => onI a fun n => onB t fun t => some (k c l n t)
  | _ => none
noncomputable def ft6 : FT := [(10, F1 fun c => iA (ins c)), (11, F1 fun c => iA (del c)), (12, F1 fun c => iA (swp c)), (33, F1 fun c => iA (ins c)), (34, F1 fun c => iA (del c)), (35, F1 fun c => iA (swp c)),
  (16, FL fun l => iA (lchk l)), (36, FL fun l => iA (lchk l))] ++ ft5
noncomputable def ft7 : FT := [(19, FL fun l => iA (used l)), (37, FL fun l => iA (used l)), (47, FCL fun c l => iA (both c l)), (55, FCL fun c l => iA (both c l))] ++ ft6
noncomputable def ft8 : FT := [(20, FCLI fun c l n => iA (may c l n)), (38, FCLI fun c l n => iA (may c l n)), (18, FCL fun c l => iA (rst c l)), (39, FCL fun c l => iA (rst c l))] ++ ft7
noncomputable def ft9 : FT := [(17, FCLI lgd), (29, FCLI lgd), (24, FCL hld), (30, FCL hld), (23, FL swd), (31, FL swd), (27, FL drp), (40, FL drp), (25, FCLIB bsd), (32, FCLIB bsd), (21, F1 bgn), (28, F1 bgn)] ++ ft8

theorem fm41 (c : C) (Q : AV → Prop) : (callW Try.prog (runW Try.prog (KV ft0) 200) 41 [cA c] (stE false) fun x _ => Q x) =
  (ifp (leInt 1 c.d)
    (ifp (leInt c.d 1024)
      (ifp (leInt 1 c.l)
        (ifp (leInt c.l 4096)
          (ifp (leInt 1 c.w)
            (ifp (leInt c.w 256)
              (ifp (leInt 1 c.r) (ifp (leInt c.r 16777216) (Q (AV.bool true)) (Q (AV.bool false))) (Q (AV.bool false)))
              (Q (AV.bool false)))
            (Q (AV.bool false)))
          (Q (AV.bool false)))
        (Q (AV.bool false)))
      (Q (AV.bool false)))
    (Q (AV.bool false))) := by kernel_rfl

theorem fm61 (c : C) (Q : AV → Prop) : (callW Try.prog (runW Try.prog (KV ft0) 200) 61 [cA c] (stE false) fun x _ => Q x) =
  (ifp (leInt 1 c.d)
    (ifp (leInt c.d 1024)
      (ifp (leInt 1 c.l)
        (ifp (leInt c.l 4096)
          (ifp (leInt 1 c.w)
            (ifp (leInt c.w 256)
              (ifp (leInt 1 c.r) (ifp (leInt c.r 16777216) (Q (AV.bool true)) (Q (AV.bool false))) (Q (AV.bool false)))
              (Q (AV.bool false)))
            (Q (AV.bool false)))
          (Q (AV.bool false)))
        (Q (AV.bool false)))
      (Q (AV.bool false)))
    (Q (AV.bool false))) := by kernel_rfl

theorem fm63 (n : Int) (Q : AV → Prop) : (callW Try.prog (runW Try.prog (KV ft0) 200) 63 [iA n] (stE false) fun x _ => Q x) =
  (ifp (!leInt 0 n) (Q (AV.int IntKind.i64 0))
    (ifp (!leInt n 33554432) (Q (AV.int IntKind.i64 0)) (Q (AV.int IntKind.i64 (wrapF IntKind.i64 (Int.add 8 n)))))) := by kernel_rfl

theorem fm44 (n : Int) (Q : AV → Prop) : (callW Try.prog (runW Try.prog (KV ft0) 200) 44 [iA n] (stE false) fun x _ => Q x) =
  (ifp (!leInt 0 n) (Q (AV.int IntKind.i64 0))
    (ifp (!leInt n 33554432) (Q (AV.int IntKind.i64 0)) (Q (AV.int IntKind.i64 (wrapF IntKind.i64 (n.add 8)))))) := by kernel_rfl

theorem fm14 (c : C) (Q : AV → Prop) : (callW Try.prog (runW Try.prog (KV ft1) 200) 14 [cA c] (stE false) fun x _ => Q x) =
  (ifp (bnd c)
    (Q
      (AV.int IntKind.i64
        (wrapF IntKind.i64 ((wrapF IntKind.i64 (Int.mul 4 c.d)).mul (wrapF IntKind.i64 (c.l.add c.w))))))
    (Q (AV.int IntKind.i64 0))) := by kernel_rfl

theorem fm54 (c : C) (Q : AV → Prop) : (callW Try.prog (runW Try.prog (KV ft1) 200) 54 [cA c] (stE false) fun x _ => Q x) =
  (ifp (bnd c)
    (Q
      (AV.int IntKind.i64
        (wrapF IntKind.i64 ((wrapF IntKind.i64 (Int.mul 4 c.d)).mul (wrapF IntKind.i64 (c.l.add c.w))))))
    (Q (AV.int IntKind.i64 0))) := by kernel_rfl

theorem fm58 (n : Int) (Q : AV → Prop) : (callW Try.prog (runW Try.prog (KV ft1) 200) 58 [iA n] (stE false) fun x _ => Q x) =
  (ifp (!leInt 0 n) (Q (AV.int IntKind.i64 0))
    (ifp (!leInt n 33554424) (Q (AV.int IntKind.i64 0)) (Q (AV.int IntKind.i64 (fsz (wrapF IntKind.i64 (n.add 8))))))) := by kernel_rfl

theorem fm15 (n : Int) (Q : AV → Prop) : (callW Try.prog (runW Try.prog (KV ft1) 200) 15 [iA n] (stE false) fun x _ => Q x) =
  (ifp (!leInt 0 n) (Q (AV.int IntKind.i64 0))
    (ifp (!leInt n 33554424) (Q (AV.int IntKind.i64 0)) (Q (AV.int IntKind.i64 (fsz (wrapF IntKind.i64 (n.add 8))))))) := by kernel_rfl

theorem fm13 (c : C) (a b : Int) (Q : AV → Prop) : (callW Try.prog (runW Try.prog (KV ft2) 200) 13 [cA c, iA a, iA b] (stE false) fun x _ => Q x) =
  (ifp (bnd c)
    (ifp (leInt 0 a)
      (ifp (leInt a c.r)
        (ifp (!eqInt b 0)
          (ifp (!eqInt b (isz c))
            (Q (AV.int IntKind.i64 0))
            (ifp (!leInt b 0)
              (Q
                (AV.int IntKind.i64
                  (wrapF IntKind.i64
                    ((wrapF IntKind.i64 ((wrapF IntKind.i64 (Int.add 58 9)).add b)).add
                      (wrapF IntKind.i64
                        (a.mul (wrapF IntKind.i64 (Int.add 16 (wrapF IntKind.i64 (Int.mul 2 c.d))))))))))
              (Q
                (AV.int IntKind.i64
                  (wrapF IntKind.i64
                    (Int.add 58
                      (wrapF IntKind.i64
                        (a.mul (wrapF IntKind.i64 (Int.add 16 (wrapF IntKind.i64 (Int.mul 2 c.d))))))))))))
          (ifp (!leInt b 0)
            (Q
              (AV.int IntKind.i64
                (wrapF IntKind.i64
                  ((wrapF IntKind.i64 ((wrapF IntKind.i64 (Int.add 58 9)).add b)).add
                    (wrapF IntKind.i64 (a.mul (wrapF IntKind.i64 (Int.add 16 (wrapF IntKind.i64 (Int.mul 2 c.d))))))))))
            (Q
              (AV.int IntKind.i64
                (wrapF IntKind.i64
                  (Int.add 58
                    (wrapF IntKind.i64
                      (a.mul (wrapF IntKind.i64 (Int.add 16 (wrapF IntKind.i64 (Int.mul 2 c.d))))))))))))
        (Q (AV.int IntKind.i64 0)))
      (Q (AV.int IntKind.i64 0)))
    (Q (AV.int IntKind.i64 0))) := by kernel_rfl

theorem fm52 (c : C) (a b : Int) (Q : AV → Prop) : (callW Try.prog (runW Try.prog (KV ft2) 200) 52 [cA c, iA a, iA b] (stE false) fun x _ => Q x) =
  (ifp (bnd c)
    (ifp (leInt 0 a)
      (ifp (leInt a c.r)
        (ifp (!eqInt b 0)
          (ifp (!eqInt b (isz c))
            (Q (AV.int IntKind.i64 0))
            ((AV.int IntKind.i64 c.d = AV.int IntKind.i64 c.d ∧ True) ∧
              ifp (!leInt b 0)
                (Q
                  (AV.int IntKind.i64
                    (wrapF IntKind.i64
                      ((wrapF IntKind.i64
                            ((fsz 50).add
                              (wrapF IntKind.i64
                                (a.mul (fsz (wrapF IntKind.i64 (Int.add 8 (wrapF IntKind.i64 (Int.mul 2 c.d))))))))).add
                        (fsz (wrapF IntKind.i64 (Int.add 1 b)))))))
                (Q
                  (AV.int IntKind.i64
                    (wrapF IntKind.i64
                      ((fsz 50).add
                        (wrapF IntKind.i64
                          (a.mul (fsz (wrapF IntKind.i64 (Int.add 8 (wrapF IntKind.i64 (Int.mul 2 c.d)))))))))))))
          ((AV.int IntKind.i64 c.d = AV.int IntKind.i64 c.d ∧ True) ∧
            ifp (!leInt b 0)
              (Q
                (AV.int IntKind.i64
                  (wrapF IntKind.i64
                    ((wrapF IntKind.i64
                          ((fsz 50).add
                            (wrapF IntKind.i64
                              (a.mul (fsz (wrapF IntKind.i64 (Int.add 8 (wrapF IntKind.i64 (Int.mul 2 c.d))))))))).add
                      (fsz (wrapF IntKind.i64 (Int.add 1 b)))))))
              (Q
                (AV.int IntKind.i64
                  (wrapF IntKind.i64
                    ((fsz 50).add
                      (wrapF IntKind.i64
                        (a.mul (fsz (wrapF IntKind.i64 (Int.add 8 (wrapF IntKind.i64 (Int.mul 2 c.d)))))))))))))
        (Q (AV.int IntKind.i64 0)))
      (Q (AV.int IntKind.i64 0)))
    (Q (AV.int IntKind.i64 0))) := by kernel_rfl

theorem fm22 (c : C) (Q : AV → Prop) : (callW Try.prog (runW Try.prog (KV ft3) 200) 22 [cA c] (stE false) fun x _ => Q x) =
  ((AV.agg
          [AV.int IntKind.i64 c.d, AV.int IntKind.i64 c.p, AV.int IntKind.i64 c.w, AV.int IntKind.i64 c.l,
            AV.int IntKind.i64 c.r, AV.int IntKind.i64 c.i, AV.int IntKind.i64 c.q, AV.int IntKind.i64 c.s] =
        AV.agg
          [AV.int IntKind.i64 c.d, AV.int IntKind.i64 c.p, AV.int IntKind.i64 c.w, AV.int IntKind.i64 c.l,
            AV.int IntKind.i64 c.r, AV.int IntKind.i64 c.i, AV.int IntKind.i64 c.q, AV.int IntKind.i64 c.s] ∧
      True) ∧
    (AV.int IntKind.i64 c.r = AV.int IntKind.i64 c.r ∧ True) ∧
      True ∧
        Q
          (AV.int IntKind.i64
            (bsz c c.r
              (isz c)))) := by kernel_rfl

theorem fm60 (c : C) (Q : AV → Prop) : (callW Try.prog (runW Try.prog (KV ft3) 200) 60 [cA c] (stE false) fun x _ => Q x) =
  ((AV.agg
          [AV.int IntKind.i64 c.d, AV.int IntKind.i64 c.p, AV.int IntKind.i64 c.w, AV.int IntKind.i64 c.l,
            AV.int IntKind.i64 c.r, AV.int IntKind.i64 c.i, AV.int IntKind.i64 c.q, AV.int IntKind.i64 c.s] =
        AV.agg
          [AV.int IntKind.i64 c.d, AV.int IntKind.i64 c.p, AV.int IntKind.i64 c.w, AV.int IntKind.i64 c.l,
            AV.int IntKind.i64 c.r, AV.int IntKind.i64 c.i, AV.int IntKind.i64 c.q, AV.int IntKind.i64 c.s] ∧
      True) ∧
    (AV.int IntKind.i64 c.r = AV.int IntKind.i64 c.r ∧ True) ∧
      True ∧
        Q
          (AV.int IntKind.i64
            (bsz c c.r
              (isz c)))) := by kernel_rfl

theorem fm9 (c : C) (Q : AV → Prop) : (callW Try.prog (runW Try.prog (KV ft4) 200) 9 [cA c] (stE false) fun x _ => Q x) =
  (ifp (bnd c)
    (ifp (!leInt 1 c.p) (Q (AV.int IntKind.i64 2))
      (c.p ≠ 0 ∧
        ifp (!eqInt (c.d.tmod c.p) 0) (Q (AV.int IntKind.i64 2))
          (ifp (leInt 1 c.i)
            (ifp (leInt c.i 64)
              (ifp (leInt 2 c.q)
                (ifp (leInt c.q 4096)
                  (ifp
                    (!leInt
                        (wrapF IntKind.i64
                          ((bsz c 0
                                0).add
                            (rsv c)))
                        c.s)
                    ((AV.int IntKind.i64 c.s = AV.int IntKind.i64 c.s ∧
                        AV.int IntKind.i64 c.s = AV.int IntKind.i64 c.s ∧ True) ∧
                      True ∧
                        (AV.agg
                                [AV.int IntKind.i64 c.d, AV.int IntKind.i64 c.p, AV.int IntKind.i64 c.w,
                                  AV.int IntKind.i64 c.l, AV.int IntKind.i64 c.r, AV.int IntKind.i64 c.i,
                                  AV.int IntKind.i64 c.q, AV.int IntKind.i64 c.s] =
                              AV.agg
                                [AV.int IntKind.i64 c.d, AV.int IntKind.i64 c.p, AV.int IntKind.i64 c.w,
                                  AV.int IntKind.i64 c.l, AV.int IntKind.i64 c.r, AV.int IntKind.i64 c.i,
                                  AV.int IntKind.i64 c.q, AV.int IntKind.i64 c.s] ∧
                            True) ∧
                          Q (AV.int IntKind.i64 2))
                    (ifp (!leInt c.s 1099511627776)
                      ((AV.int IntKind.i64 c.s = AV.int IntKind.i64 c.s ∧
                          AV.int IntKind.i64 c.s = AV.int IntKind.i64 c.s ∧ True) ∧
                        True ∧
                          (AV.agg
                                  [AV.int IntKind.i64 c.d, AV.int IntKind.i64 c.p, AV.int IntKind.i64 c.w,
                                    AV.int IntKind.i64 c.l, AV.int IntKind.i64 c.r, AV.int IntKind.i64 c.i,
                                    AV.int IntKind.i64 c.q, AV.int IntKind.i64 c.s] =
                                AV.agg
                                  [AV.int IntKind.i64 c.d, AV.int IntKind.i64 c.p, AV.int IntKind.i64 c.w,
                                    AV.int IntKind.i64 c.l, AV.int IntKind.i64 c.r, AV.int IntKind.i64 c.i,
                                    AV.int IntKind.i64 c.q, AV.int IntKind.i64 c.s] ∧
                              True) ∧
                            True ∧ Q (AV.int IntKind.i64 2))
                      ((AV.int IntKind.i64 c.s = AV.int IntKind.i64 c.s ∧
                          AV.int IntKind.i64 c.s = AV.int IntKind.i64 c.s ∧ True) ∧
                        True ∧
                          (AV.agg
                                  [AV.int IntKind.i64 c.d, AV.int IntKind.i64 c.p, AV.int IntKind.i64 c.w,
                                    AV.int IntKind.i64 c.l, AV.int IntKind.i64 c.r, AV.int IntKind.i64 c.i,
                                    AV.int IntKind.i64 c.q, AV.int IntKind.i64 c.s] =
                                AV.agg
                                  [AV.int IntKind.i64 c.d, AV.int IntKind.i64 c.p, AV.int IntKind.i64 c.w,
                                    AV.int IntKind.i64 c.l, AV.int IntKind.i64 c.r, AV.int IntKind.i64 c.i,
                                    AV.int IntKind.i64 c.q, AV.int IntKind.i64 c.s] ∧
                              True) ∧
                            True ∧ Q (AV.int IntKind.i64 0))))
                  (Q (AV.int IntKind.i64 2)))
                (Q (AV.int IntKind.i64 2)))
              (Q (AV.int IntKind.i64 2)))
            (Q (AV.int IntKind.i64 2)))))
    (Q (AV.int IntKind.i64 2))) := by kernel_rfl

theorem fm50 (c : C) (Q : AV → Prop) : (callW Try.prog (runW Try.prog (KV ft4) 200) 50 [cA c] (stE false) fun x _ => Q x) =
  (ifp (bnd c)
    (ifp (leInt 1 c.p)
      (ifb false (ifb (leInt 1 c.p) 1 c.p) (ifb (leInt c.p 1) 1 c.p) ≠ 0 ∧
        ifp (eqInt (c.d.tmod (ifb false (ifb (leInt 1 c.p) 1 c.p) (ifb (leInt c.p 1) 1 c.p))) 0)
          (ifp (leInt 1 c.i)
            (ifp (leInt c.i 64)
              (ifp (leInt 2 c.q)
                (ifp (leInt c.q 4096)
                  (ifp
                    (!leInt
                        (wrapF IntKind.i64
                          ((bsz c 0
                                0).add
                            (rsv c)))
                        c.s)
                    ((AV.int IntKind.i64 c.s = AV.int IntKind.i64 c.s ∧
                        AV.int IntKind.i64 c.s = AV.int IntKind.i64 c.s ∧ True) ∧
                      True ∧
                        (AV.agg
                                [AV.int IntKind.i64 c.d, AV.int IntKind.i64 c.p, AV.int IntKind.i64 c.w,
                                  AV.int IntKind.i64 c.l, AV.int IntKind.i64 c.r, AV.int IntKind.i64 c.i,
                                  AV.int IntKind.i64 c.q, AV.int IntKind.i64 c.s] =
                              AV.agg
                                [AV.int IntKind.i64 c.d, AV.int IntKind.i64 c.p, AV.int IntKind.i64 c.w,
                                  AV.int IntKind.i64 c.l, AV.int IntKind.i64 c.r, AV.int IntKind.i64 c.i,
                                  AV.int IntKind.i64 c.q, AV.int IntKind.i64 c.s] ∧
                            True) ∧
                          Q (AV.int IntKind.i64 2))
                    (ifp (!leInt c.s 1099511627776)
                      ((AV.int IntKind.i64 c.s = AV.int IntKind.i64 c.s ∧
                          AV.int IntKind.i64 c.s = AV.int IntKind.i64 c.s ∧ True) ∧
                        True ∧
                          (AV.agg
                                  [AV.int IntKind.i64 c.d, AV.int IntKind.i64 c.p, AV.int IntKind.i64 c.w,
                                    AV.int IntKind.i64 c.l, AV.int IntKind.i64 c.r, AV.int IntKind.i64 c.i,
                                    AV.int IntKind.i64 c.q, AV.int IntKind.i64 c.s] =
                                AV.agg
                                  [AV.int IntKind.i64 c.d, AV.int IntKind.i64 c.p, AV.int IntKind.i64 c.w,
                                    AV.int IntKind.i64 c.l, AV.int IntKind.i64 c.r, AV.int IntKind.i64 c.i,
                                    AV.int IntKind.i64 c.q, AV.int IntKind.i64 c.s] ∧
                              True) ∧
                            True ∧ Q (AV.int IntKind.i64 2))
                      ((AV.int IntKind.i64 c.s = AV.int IntKind.i64 c.s ∧
                          AV.int IntKind.i64 c.s = AV.int IntKind.i64 c.s ∧ True) ∧
                        True ∧
                          (AV.agg
                                  [AV.int IntKind.i64 c.d, AV.int IntKind.i64 c.p, AV.int IntKind.i64 c.w,
                                    AV.int IntKind.i64 c.l, AV.int IntKind.i64 c.r, AV.int IntKind.i64 c.i,
                                    AV.int IntKind.i64 c.q, AV.int IntKind.i64 c.s] =
                                AV.agg
                                  [AV.int IntKind.i64 c.d, AV.int IntKind.i64 c.p, AV.int IntKind.i64 c.w,
                                    AV.int IntKind.i64 c.l, AV.int IntKind.i64 c.r, AV.int IntKind.i64 c.i,
                                    AV.int IntKind.i64 c.q, AV.int IntKind.i64 c.s] ∧
                              True) ∧
                            True ∧ Q (AV.int IntKind.i64 0))))
                  (Q (AV.int IntKind.i64 2)))
                (Q (AV.int IntKind.i64 2)))
              (Q (AV.int IntKind.i64 2)))
            (Q (AV.int IntKind.i64 2)))
          (Q (AV.int IntKind.i64 2)))
      (Q (AV.int IntKind.i64 2)))
    (Q (AV.int IntKind.i64 2))) := by kernel_rfl

theorem fm10 (c : C) (Q : AV → Prop) : (callW Try.prog (runW Try.prog (KV ft5) 200) 10 [cA c] (stE false) fun x _ => Q x) =
  (ifp (!eqInt (chk c) 0)
    (Q (AV.int IntKind.i64 0))
    ((AV.agg
            [AV.int IntKind.i64 c.d, AV.int IntKind.i64 c.p, AV.int IntKind.i64 c.w, AV.int IntKind.i64 c.l,
              AV.int IntKind.i64 c.r, AV.int IntKind.i64 c.i, AV.int IntKind.i64 c.q, AV.int IntKind.i64 c.s] =
          AV.agg
            [AV.int IntKind.i64 c.d, AV.int IntKind.i64 c.p, AV.int IntKind.i64 c.w, AV.int IntKind.i64 c.l,
              AV.int IntKind.i64 c.r, AV.int IntKind.i64 c.i, AV.int IntKind.i64 c.q, AV.int IntKind.i64 c.s] ∧
        True) ∧
      Q (AV.int IntKind.i64 (wcost (wrapF IntKind.i64 (Int.add 9 (wrapF IntKind.i64 (Int.mul 2 c.d)))))))) := by kernel_rfl

theorem fm11 (c : C) (Q : AV → Prop) : (callW Try.prog (runW Try.prog (KV ft5) 200) 11 [cA c] (stE false) fun x _ => Q x) =
  (ifp (!eqInt (chk c) 0)
    (Q (AV.int IntKind.i64 0))
    ((AV.agg
            [AV.int IntKind.i64 c.d, AV.int IntKind.i64 c.p, AV.int IntKind.i64 c.w, AV.int IntKind.i64 c.l,
              AV.int IntKind.i64 c.r, AV.int IntKind.i64 c.i, AV.int IntKind.i64 c.q, AV.int IntKind.i64 c.s] =
          AV.agg
            [AV.int IntKind.i64 c.d, AV.int IntKind.i64 c.p, AV.int IntKind.i64 c.w, AV.int IntKind.i64 c.l,
              AV.int IntKind.i64 c.r, AV.int IntKind.i64 c.i, AV.int IntKind.i64 c.q, AV.int IntKind.i64 c.s] ∧
        True) ∧
      Q (AV.int IntKind.i64 (wcost 9)))) := by kernel_rfl

theorem fm12 (c : C) (Q : AV → Prop) : (callW Try.prog (runW Try.prog (KV ft5) 200) 12 [cA c] (stE false) fun x _ => Q x) =
  (ifp (!eqInt (chk c) 0)
    (Q (AV.int IntKind.i64 0))
    ((AV.agg
            [AV.int IntKind.i64 c.d, AV.int IntKind.i64 c.p, AV.int IntKind.i64 c.w, AV.int IntKind.i64 c.l,
              AV.int IntKind.i64 c.r, AV.int IntKind.i64 c.i, AV.int IntKind.i64 c.q, AV.int IntKind.i64 c.s] =
          AV.agg
            [AV.int IntKind.i64 c.d, AV.int IntKind.i64 c.p, AV.int IntKind.i64 c.w, AV.int IntKind.i64 c.l,
              AV.int IntKind.i64 c.r, AV.int IntKind.i64 c.i, AV.int IntKind.i64 c.q, AV.int IntKind.i64 c.s] ∧
        True) ∧
      Q
        (AV.int IntKind.i64
          (wcost
            (wrapF IntKind.i64
              (Int.add 1 (isz c))))))) := by kernel_rfl

theorem fm33 (c : C) (Q : AV → Prop) : (callW Try.prog (runW Try.prog (KV ft5) 200) 33 [cA c] (stE false) fun x _ => Q x) =
  (ifp (!eqInt (chk c) 0)
    (Q (AV.int IntKind.i64 0))
    (Q (AV.int IntKind.i64 (wcost (wrapF IntKind.i64 (Int.add 9 (wrapF IntKind.i64 (Int.mul 2 c.d)))))))) := by kernel_rfl

theorem fm34 (c : C) (Q : AV → Prop) : (callW Try.prog (runW Try.prog (KV ft5) 200) 34 [cA c] (stE false) fun x _ => Q x) =
  (ifp (!eqInt (chk c) 0)
    (Q (AV.int IntKind.i64 0)) (Q (AV.int IntKind.i64 (wcost 9)))) := by kernel_rfl

theorem fm35 (c : C) (Q : AV → Prop) : (callW Try.prog (runW Try.prog (KV ft5) 200) 35 [cA c] (stE false) fun x _ => Q x) =
  (ifp (!eqInt (chk c) 0)
    ((AV.agg
            [AV.int IntKind.i64 c.d, AV.int IntKind.i64 c.p, AV.int IntKind.i64 c.w, AV.int IntKind.i64 c.l,
              AV.int IntKind.i64 c.r, AV.int IntKind.i64 c.i, AV.int IntKind.i64 c.q, AV.int IntKind.i64 c.s] =
          AV.agg
            [AV.int IntKind.i64 c.d, AV.int IntKind.i64 c.p, AV.int IntKind.i64 c.w, AV.int IntKind.i64 c.l,
              AV.int IntKind.i64 c.r, AV.int IntKind.i64 c.i, AV.int IntKind.i64 c.q, AV.int IntKind.i64 c.s] ∧
        True) ∧
      True ∧ Q (AV.int IntKind.i64 0))
    ((AV.agg
            [AV.int IntKind.i64 c.d, AV.int IntKind.i64 c.p, AV.int IntKind.i64 c.w, AV.int IntKind.i64 c.l,
              AV.int IntKind.i64 c.r, AV.int IntKind.i64 c.i, AV.int IntKind.i64 c.q, AV.int IntKind.i64 c.s] =
          AV.agg
            [AV.int IntKind.i64 c.d, AV.int IntKind.i64 c.p, AV.int IntKind.i64 c.w, AV.int IntKind.i64 c.l,
              AV.int IntKind.i64 c.r, AV.int IntKind.i64 c.i, AV.int IntKind.i64 c.q, AV.int IntKind.i64 c.s] ∧
        True) ∧
      True ∧
        Q
          (AV.int IntKind.i64
            (wcost
              (wrapF IntKind.i64
                (Int.add 1 (isz c))))))) := by kernel_rfl

theorem fm16 (l : L) (Q : AV → Prop) : (callW Try.prog (runW Try.prog (KV ft5) 200) 16 [lA l] (stE false) fun x _ => Q x) =
  (ifp
    (leInt 0
      (ifb true
        (ifb (leInt (ifb true (ifb (leInt l.b l.g) l.b l.g) (ifb (leInt l.g l.b) l.b l.g)) l.s)
          (ifb true (ifb (leInt l.b l.g) l.b l.g) (ifb (leInt l.g l.b) l.b l.g)) l.s)
        (ifb (leInt l.s (ifb true (ifb (leInt l.b l.g) l.b l.g) (ifb (leInt l.g l.b) l.b l.g)))
          (ifb true (ifb (leInt l.b l.g) l.b l.g) (ifb (leInt l.g l.b) l.b l.g)) l.s)))
    (ifp
      (leInt
        (ifb false
          (ifb (leInt (ifb false (ifb (leInt l.b l.g) l.b l.g) (ifb (leInt l.g l.b) l.b l.g)) l.s)
            (ifb false (ifb (leInt l.b l.g) l.b l.g) (ifb (leInt l.g l.b) l.b l.g)) l.s)
          (ifb (leInt l.s (ifb false (ifb (leInt l.b l.g) l.b l.g) (ifb (leInt l.g l.b) l.b l.g)))
            (ifb false (ifb (leInt l.b l.g) l.b l.g) (ifb (leInt l.g l.b) l.b l.g)) l.s))
        1099511627776)
      (Q (AV.int IntKind.i64 0)) (Q (AV.int IntKind.i64 2)))
    (Q (AV.int IntKind.i64 2))) := by kernel_rfl

theorem fm36 (l : L) (Q : AV → Prop) : (callW Try.prog (runW Try.prog (KV ft5) 200) 36 [lA l] (stE false) fun x _ => Q x) =
  (ifp (leInt 0 l.b)
    (ifp (leInt l.b 1099511627776)
      (ifp (leInt 0 l.g)
        (ifp (leInt l.g 1099511627776)
          (ifp (leInt 0 l.s) (ifp (leInt l.s 1099511627776) (Q (AV.int IntKind.i64 0)) (Q (AV.int IntKind.i64 2)))
            (Q (AV.int IntKind.i64 2)))
          (Q (AV.int IntKind.i64 2)))
        (Q (AV.int IntKind.i64 2)))
      (Q (AV.int IntKind.i64 2)))
    (Q (AV.int IntKind.i64 2))) := by kernel_rfl

theorem fm19 (l : L) (Q : AV → Prop) : (callW Try.prog (runW Try.prog (KV ft6) 200) 19 [lA l] (stE false) fun x _ => Q x) =
  (ifp (!eqInt (lchk l) 0) (Q (AV.int IntKind.i64 0))
    (Q (AV.int IntKind.i64 (wrapF IntKind.i64 ((wrapF IntKind.i64 (l.b.add l.g)).add l.s))))) := by kernel_rfl

theorem fm37 (l : L) (Q : AV → Prop) : (callW Try.prog (runW Try.prog (KV ft6) 200) 37 [lA l] (stE false) fun x _ => Q x) =
  (ifp (!eqInt (lchk l) 0) (Q (AV.int IntKind.i64 0))
    (Q (AV.int IntKind.i64 (wrapF IntKind.i64 ((wrapF IntKind.i64 (l.b.add l.g)).add l.s))))) := by kernel_rfl

theorem fm47 (c : C) (l : L) (Q : AV → Prop) : (callW Try.prog (runW Try.prog (KV ft6) 200) 47 [cA c, lA l] (stE false) fun x _ => Q x) =
  (ifp (!eqInt (chk c) 0)
    (Q (AV.int IntKind.i64 (chk c)))
    (Q (AV.int IntKind.i64 (lchk l)))) := by kernel_rfl

theorem fm55 (c : C) (l : L) (Q : AV → Prop) : (callW Try.prog (runW Try.prog (KV ft6) 200) 55 [cA c, lA l] (stE false) fun x _ => Q x) =
  (ifp (!eqInt (chk c) 0)
    (Q (AV.int IntKind.i64 (chk c)))
    (Q (AV.int IntKind.i64 (lchk l)))) := by kernel_rfl

theorem fm20 (c : C) (l : L) (n : Int) (Q : AV → Prop) : (callW Try.prog (runW Try.prog (KV ft7) 200) 20 [cA c, lA l, iA n] (stE false) fun x _ => Q x) =
  (ifp
    (!eqInt
        (both c
          l)
        0)
    (Q
      (AV.int IntKind.i64
        (both c
          l)))
    (ifp (!leInt 0 n) (Q (AV.int IntKind.i64 2))
      (ifp (!leInt n 1099511627776) (Q (AV.int IntKind.i64 2))
        ((AV.int IntKind.i64 c.s = AV.int IntKind.i64 c.s ∧ AV.int IntKind.i64 c.s = AV.int IntKind.i64 c.s ∧ True) ∧
          True ∧
            (AV.agg [AV.int IntKind.i64 l.b, AV.int IntKind.i64 l.g, AV.int IntKind.i64 l.s] =
                  AV.agg [AV.int IntKind.i64 l.b, AV.int IntKind.i64 l.g, AV.int IntKind.i64 l.s] ∧
                True) ∧
              ifp
                (!leInt n
                    (wrapF IntKind.i64
                      ((wrapF IntKind.i64
                            (c.s.sub
                              (rsv
                                { d := c.d, p := c.p, w := c.w, l := c.l, r := c.r, i := c.i, q := c.q,
                                  s := c.s }))).sub
                        (wrapF IntKind.i64 ((wrapF IntKind.i64 (l.b.add l.g)).add l.s)))))
                (Q (AV.int IntKind.i64 7)) (Q (AV.int IntKind.i64 0)))))) := by kernel_rfl

theorem fm38 (c : C) (l : L) (n : Int) (Q : AV → Prop) : (callW Try.prog (runW Try.prog (KV ft7) 200) 38 [cA c, lA l, iA n] (stE false) fun x _ => Q x) =
  (ifp
    (!eqInt
        (both c
          l)
        0)
    (Q
      (AV.int IntKind.i64
        (both c
          l)))
    (ifp (leInt 0 n)
      (ifp (leInt n 1099511627776)
        (ifp
          (!leInt (wrapF IntKind.i64 ((used l).add n))
              (wrapF IntKind.i64
                (c.s.sub (rsv c))))
          (True ∧
            (AV.int IntKind.i64 c.s = AV.int IntKind.i64 c.s ∧ AV.int IntKind.i64 c.s = AV.int IntKind.i64 c.s ∧ True) ∧
              (AV.agg
                      [AV.int IntKind.i64 c.d, AV.int IntKind.i64 c.p, AV.int IntKind.i64 c.w, AV.int IntKind.i64 c.l,
                        AV.int IntKind.i64 c.r, AV.int IntKind.i64 c.i, AV.int IntKind.i64 c.q,
                        AV.int IntKind.i64 c.s] =
                    AV.agg
                      [AV.int IntKind.i64 c.d, AV.int IntKind.i64 c.p, AV.int IntKind.i64 c.w, AV.int IntKind.i64 c.l,
                        AV.int IntKind.i64 c.r, AV.int IntKind.i64 c.i, AV.int IntKind.i64 c.q,
                        AV.int IntKind.i64 c.s] ∧
                  True) ∧
                Q (AV.int IntKind.i64 7))
          (True ∧
            (AV.int IntKind.i64 c.s = AV.int IntKind.i64 c.s ∧ AV.int IntKind.i64 c.s = AV.int IntKind.i64 c.s ∧ True) ∧
              (AV.agg
                      [AV.int IntKind.i64 c.d, AV.int IntKind.i64 c.p, AV.int IntKind.i64 c.w, AV.int IntKind.i64 c.l,
                        AV.int IntKind.i64 c.r, AV.int IntKind.i64 c.i, AV.int IntKind.i64 c.q,
                        AV.int IntKind.i64 c.s] =
                    AV.agg
                      [AV.int IntKind.i64 c.d, AV.int IntKind.i64 c.p, AV.int IntKind.i64 c.w, AV.int IntKind.i64 c.l,
                        AV.int IntKind.i64 c.r, AV.int IntKind.i64 c.i, AV.int IntKind.i64 c.q,
                        AV.int IntKind.i64 c.s] ∧
                  True) ∧
                Q (AV.int IntKind.i64 0)))
        (Q (AV.int IntKind.i64 2)))
      (Q (AV.int IntKind.i64 2)))) := by kernel_rfl

theorem fm18 (c : C) (l : L) (Q : AV → Prop) : (callW Try.prog (runW Try.prog (KV ft7) 200) 18 [cA c, lA l] (stE false) fun x _ => Q x) =
  (ifp
    (!eqInt
        (both c
          l)
        0)
    (Q (AV.int IntKind.i64 (-1)))
    ((AV.int IntKind.i64 c.s = AV.int IntKind.i64 c.s ∧ AV.int IntKind.i64 c.s = AV.int IntKind.i64 c.s ∧ True) ∧
      True ∧
        (AV.agg [AV.int IntKind.i64 l.b, AV.int IntKind.i64 l.g, AV.int IntKind.i64 l.s] =
              AV.agg [AV.int IntKind.i64 l.b, AV.int IntKind.i64 l.g, AV.int IntKind.i64 l.s] ∧
            True) ∧
          Q
            (AV.int IntKind.i64
              (ifb false
                (ifb
                  (leInt (-1)
                    (wrapF IntKind.i64
                      ((wrapF IntKind.i64
                            (c.s.sub
                              (rsv
                                { d := c.d, p := c.p, w := c.w, l := c.l, r := c.r, i := c.i, q := c.q,
                                  s := c.s }))).sub
                        (wrapF IntKind.i64 ((wrapF IntKind.i64 (l.b.add l.g)).add l.s)))))
                  (-1)
                  (wrapF IntKind.i64
                    ((wrapF IntKind.i64
                          (c.s.sub
                            (rsv
                              c))).sub
                      (wrapF IntKind.i64 ((wrapF IntKind.i64 (l.b.add l.g)).add l.s)))))
                (ifb
                  (leInt
                    (wrapF IntKind.i64
                      ((wrapF IntKind.i64
                            (c.s.sub
                              (rsv
                                { d := c.d, p := c.p, w := c.w, l := c.l, r := c.r, i := c.i, q := c.q,
                                  s := c.s }))).sub
                        (wrapF IntKind.i64 ((wrapF IntKind.i64 (l.b.add l.g)).add l.s))))
                    (-1))
                  (-1)
                  (wrapF IntKind.i64
                    ((wrapF IntKind.i64
                          (c.s.sub
                            (rsv
                              c))).sub
                      (wrapF IntKind.i64 ((wrapF IntKind.i64 (l.b.add l.g)).add l.s))))))))) := by kernel_rfl

theorem fm39 (c : C) (l : L) (Q : AV → Prop) : (callW Try.prog (runW Try.prog (KV ft7) 200) 39 [cA c, lA l] (stE false) fun x _ => Q x) =
  (ifp
    (!eqInt
        (both c
          l)
        0)
    (Q (AV.int IntKind.i64 (-1)))
    ((AV.int IntKind.i64 c.s = AV.int IntKind.i64 c.s ∧ AV.int IntKind.i64 c.s = AV.int IntKind.i64 c.s ∧ True) ∧
      True ∧
        (AV.agg [AV.int IntKind.i64 l.b, AV.int IntKind.i64 l.g, AV.int IntKind.i64 l.s] =
              AV.agg [AV.int IntKind.i64 l.b, AV.int IntKind.i64 l.g, AV.int IntKind.i64 l.s] ∧
            True) ∧
          Q
            (AV.int IntKind.i64
              (ifb false
                (ifb
                  (leInt (-1)
                    (wrapF IntKind.i64
                      ((wrapF IntKind.i64
                            (c.s.sub
                              (rsv
                                { d := c.d, p := c.p, w := c.w, l := c.l, r := c.r, i := c.i, q := c.q,
                                  s := c.s }))).sub
                        (used l))))
                  (-1)
                  (wrapF IntKind.i64
                    ((wrapF IntKind.i64
                          (c.s.sub
                            (rsv
                              c))).sub
                      (used l))))
                (ifb
                  (leInt
                    (wrapF IntKind.i64
                      ((wrapF IntKind.i64
                            (c.s.sub
                              (rsv
                                { d := c.d, p := c.p, w := c.w, l := c.l, r := c.r, i := c.i, q := c.q,
                                  s := c.s }))).sub
                        (used l)))
                    (-1))
                  (-1)
                  (wrapF IntKind.i64
                    ((wrapF IntKind.i64
                          (c.s.sub
                            (rsv
                              c))).sub
                      (used l)))))))) := by kernel_rfl

theorem fm17 (c : C) (l : L) (n : Int) (Q : AV → Prop) : (callW Try.prog (runW Try.prog (KV ft8) 200) 17 [cA c, lA l, iA n] (stE false) fun x _ => Q x) =
  (ifp
    (!eqInt
        (may c
          l n)
        0)
    (Q
      (AV.tuple
        [AV.agg [AV.int IntKind.i64 0, AV.int IntKind.i64 0, AV.int IntKind.i64 0],
          AV.int IntKind.i64
            (may c
              l n)]))
    (Q
      (AV.tuple
        [AV.agg [AV.int IntKind.i64 l.b, AV.int IntKind.i64 (wrapF IntKind.i64 (l.g.add n)), AV.int IntKind.i64 l.s],
          AV.int IntKind.i64 0]))) := by kernel_rfl

theorem fm29 (c : C) (l : L) (n : Int) (Q : AV → Prop) : (callW Try.prog (runW Try.prog (KV ft8) 200) 29 [cA c, lA l, iA n] (stE false) fun x _ => Q x) =
  (ifp
    (!eqInt
        (may c
          l n)
        0)
    (Q
      (AV.tuple
        [AV.agg [AV.int IntKind.i64 0, AV.int IntKind.i64 0, AV.int IntKind.i64 0],
          AV.int IntKind.i64
            (may c
              l n)]))
    (Q
      (AV.tuple
        [AV.agg [AV.int IntKind.i64 l.b, AV.int IntKind.i64 (wrapF IntKind.i64 (l.g.add n)), AV.int IntKind.i64 l.s],
          AV.int IntKind.i64 0]))) := by kernel_rfl

theorem fm24 (c : C) (l : L) (Q : AV → Prop) : (callW Try.prog (runW Try.prog (KV ft8) 200) 24 [cA c, lA l] (stE false) fun x _ => Q x) =
  (ifp (!eqInt l.s 0)
    (Q (AV.tuple [AV.agg [AV.int IntKind.i64 0, AV.int IntKind.i64 0, AV.int IntKind.i64 0], AV.int IntKind.i64 2]))
    ((AV.agg
            [AV.int IntKind.i64 c.d, AV.int IntKind.i64 c.p, AV.int IntKind.i64 c.w, AV.int IntKind.i64 c.l,
              AV.int IntKind.i64 c.r, AV.int IntKind.i64 c.i, AV.int IntKind.i64 c.q, AV.int IntKind.i64 c.s] =
          AV.agg
            [AV.int IntKind.i64 c.d, AV.int IntKind.i64 c.p, AV.int IntKind.i64 c.w, AV.int IntKind.i64 c.l,
              AV.int IntKind.i64 c.r, AV.int IntKind.i64 c.i, AV.int IntKind.i64 c.q, AV.int IntKind.i64 c.s] ∧
        True) ∧
      (AV.agg [AV.int IntKind.i64 l.b, AV.int IntKind.i64 l.g, AV.int IntKind.i64 l.s] =
            AV.agg [AV.int IntKind.i64 l.b, AV.int IntKind.i64 l.g, AV.int IntKind.i64 l.s] ∧
          True) ∧
        True ∧
          ifp
            (!eqInt
                (may c
                  l
                  (swp c))
                0)
            (Q
              (AV.tuple
                [AV.agg [AV.int IntKind.i64 0, AV.int IntKind.i64 0, AV.int IntKind.i64 0],
                  AV.int IntKind.i64
                    (may c
                      l
                      (swp c))]))
            ((AV.agg [AV.int IntKind.i64 l.b, AV.int IntKind.i64 l.g, AV.int IntKind.i64 l.s] =
                  AV.agg [AV.int IntKind.i64 l.b, AV.int IntKind.i64 l.g, AV.int IntKind.i64 l.s] ∧
                True) ∧
              True ∧
                Q
                  (AV.tuple
                    [AV.agg
                        [AV.int IntKind.i64 l.b, AV.int IntKind.i64 l.g,
                          AV.int IntKind.i64
                            (swp c)],
                      AV.int IntKind.i64 0])))) := by kernel_rfl

theorem fm30 (c : C) (l : L) (Q : AV → Prop) : (callW Try.prog (runW Try.prog (KV ft8) 200) 30 [cA c, lA l] (stE false) fun x _ => Q x) =
  (ifp (!eqInt l.s 0)
    (Q (AV.tuple [AV.agg [AV.int IntKind.i64 0, AV.int IntKind.i64 0, AV.int IntKind.i64 0], AV.int IntKind.i64 2]))
    ((AV.agg
            [AV.int IntKind.i64 c.d, AV.int IntKind.i64 c.p, AV.int IntKind.i64 c.w, AV.int IntKind.i64 c.l,
              AV.int IntKind.i64 c.r, AV.int IntKind.i64 c.i, AV.int IntKind.i64 c.q, AV.int IntKind.i64 c.s] =
          AV.agg
            [AV.int IntKind.i64 c.d, AV.int IntKind.i64 c.p, AV.int IntKind.i64 c.w, AV.int IntKind.i64 c.l,
              AV.int IntKind.i64 c.r, AV.int IntKind.i64 c.i, AV.int IntKind.i64 c.q, AV.int IntKind.i64 c.s] ∧
        True) ∧
      (AV.agg [AV.int IntKind.i64 l.b, AV.int IntKind.i64 l.g, AV.int IntKind.i64 l.s] =
            AV.agg [AV.int IntKind.i64 l.b, AV.int IntKind.i64 l.g, AV.int IntKind.i64 l.s] ∧
          True) ∧
        True ∧
          ifp
            (!eqInt
                (may c
                  l
                  (swp c))
                0)
            (Q
              (AV.tuple
                [AV.agg [AV.int IntKind.i64 0, AV.int IntKind.i64 0, AV.int IntKind.i64 0],
                  AV.int IntKind.i64
                    (may c
                      l
                      (swp c))]))
            (Q
              (AV.tuple
                [AV.agg
                    [AV.int IntKind.i64 l.b, AV.int IntKind.i64 l.g,
                      AV.int IntKind.i64
                        (swp c)],
                  AV.int IntKind.i64 0])))) := by kernel_rfl

theorem fm23 (l : L) (Q : AV → Prop) : (callW Try.prog (runW Try.prog (KV ft8) 200) 23 [lA l] (stE false) fun x _ => Q x) =
  (ifp (!eqInt (lchk l) 0)
    (Q (AV.tuple [AV.agg [AV.int IntKind.i64 0, AV.int IntKind.i64 0, AV.int IntKind.i64 0], AV.int IntKind.i64 2]))
    (ifp (eqInt l.s 0)
      (Q (AV.tuple [AV.agg [AV.int IntKind.i64 0, AV.int IntKind.i64 0, AV.int IntKind.i64 0], AV.int IntKind.i64 2]))
      (Q
        (AV.tuple
          [AV.agg [AV.int IntKind.i64 l.b, AV.int IntKind.i64 (wrapF IntKind.i64 (l.g.add l.s)), AV.int IntKind.i64 0],
            AV.int IntKind.i64 0])))) := by kernel_rfl

theorem fm31 (l : L) (Q : AV → Prop) : (callW Try.prog (runW Try.prog (KV ft8) 200) 31 [lA l] (stE false) fun x _ => Q x) =
  (ifp (!eqInt (lchk l) 0)
    (Q (AV.tuple [AV.agg [AV.int IntKind.i64 0, AV.int IntKind.i64 0, AV.int IntKind.i64 0], AV.int IntKind.i64 2]))
    (ifp (eqInt l.s 0)
      (Q (AV.tuple [AV.agg [AV.int IntKind.i64 0, AV.int IntKind.i64 0, AV.int IntKind.i64 0], AV.int IntKind.i64 2]))
      (Q
        (AV.tuple
          [AV.agg [AV.int IntKind.i64 l.b, AV.int IntKind.i64 (wrapF IntKind.i64 (l.g.add l.s)), AV.int IntKind.i64 0],
            AV.int IntKind.i64 0])))) := by kernel_rfl

theorem fm27 (l : L) (Q : AV → Prop) : (callW Try.prog (runW Try.prog (KV ft8) 200) 27 [lA l] (stE false) fun x _ => Q x) =
  (Q (AV.agg [AV.int IntKind.i64 l.b, AV.int IntKind.i64 l.g, AV.int IntKind.i64 0])) := by kernel_rfl

theorem fm40 (l : L) (Q : AV → Prop) : (callW Try.prog (runW Try.prog (KV ft8) 200) 40 [lA l] (stE false) fun x _ => Q x) =
  (Q (AV.agg [AV.int IntKind.i64 l.b, AV.int IntKind.i64 l.g, AV.int IntKind.i64 0])) := by kernel_rfl

theorem fm25 (c : C) (l : L) (n : Int) (t : Bool) (Q : AV → Prop) : (callW Try.prog (runW Try.prog (KV ft8) 200) 25 [cA c, lA l, iA n, bA t] (stE false) fun x _ => Q x) =
  (ifp
    (!eqInt
        (both c
          l)
        0)
    (Q
      (AV.tuple
        [AV.agg [AV.int IntKind.i64 0, AV.int IntKind.i64 0, AV.int IntKind.i64 0],
          AV.int IntKind.i64
            (both c
              l)]))
    (ifp (!leInt 0 n)
      (Q (AV.tuple [AV.agg [AV.int IntKind.i64 0, AV.int IntKind.i64 0, AV.int IntKind.i64 0], AV.int IntKind.i64 2]))
      (ifp (!leInt n c.r)
        (Q (AV.tuple [AV.agg [AV.int IntKind.i64 0, AV.int IntKind.i64 0, AV.int IntKind.i64 0], AV.int IntKind.i64 2]))
        (ifp t
          ((AV.agg [AV.int IntKind.i64 l.b, AV.int IntKind.i64 l.g, AV.int IntKind.i64 l.s] =
                AV.agg [AV.int IntKind.i64 l.b, AV.int IntKind.i64 l.g, AV.int IntKind.i64 l.s] ∧
              True) ∧
            True ∧
              Q
                (AV.tuple
                  [AV.agg
                      [AV.int IntKind.i64
                          (bsz c n
                            (isz c)),
                        AV.int IntKind.i64 0, AV.int IntKind.i64 l.s],
                    AV.int IntKind.i64 0]))
          ((AV.agg [AV.int IntKind.i64 l.b, AV.int IntKind.i64 l.g, AV.int IntKind.i64 l.s] =
                AV.agg [AV.int IntKind.i64 l.b, AV.int IntKind.i64 l.g, AV.int IntKind.i64 l.s] ∧
              True) ∧
            True ∧
              Q
                (AV.tuple
                  [AV.agg
                      [AV.int IntKind.i64
                          (bsz c n 0),
                        AV.int IntKind.i64 0, AV.int IntKind.i64 l.s],
                    AV.int IntKind.i64 0])))))) := by kernel_rfl

theorem fm32 (c : C) (l : L) (n : Int) (t : Bool) (Q : AV → Prop) : (callW Try.prog (runW Try.prog (KV ft8) 200) 32 [cA c, lA l, iA n, bA t] (stE false) fun x _ => Q x) =
  (ifp
    (!eqInt
        (both c
          l)
        0)
    (Q
      (AV.tuple
        [AV.agg [AV.int IntKind.i64 0, AV.int IntKind.i64 0, AV.int IntKind.i64 0],
          AV.int IntKind.i64
            (both c
              l)]))
    (ifp (!leInt 0 n)
      (Q (AV.tuple [AV.agg [AV.int IntKind.i64 0, AV.int IntKind.i64 0, AV.int IntKind.i64 0], AV.int IntKind.i64 2]))
      (ifp (!leInt n c.r)
        (Q (AV.tuple [AV.agg [AV.int IntKind.i64 0, AV.int IntKind.i64 0, AV.int IntKind.i64 0], AV.int IntKind.i64 2]))
        (ifp t
          (True ∧
            (AV.int IntKind.i64 l.s = AV.int IntKind.i64 l.s ∧ True) ∧
              Q
                (AV.tuple
                  [AV.agg
                      [AV.int IntKind.i64
                          (bsz c n
                            (isz c)),
                        AV.int IntKind.i64 0, AV.int IntKind.i64 l.s],
                    AV.int IntKind.i64 0]))
          (True ∧
            (AV.int IntKind.i64 l.s = AV.int IntKind.i64 l.s ∧ True) ∧
              Q
                (AV.tuple
                  [AV.agg
                      [AV.int IntKind.i64
                          (bsz c n 0),
                        AV.int IntKind.i64 0, AV.int IntKind.i64 l.s],
                    AV.int IntKind.i64 0])))))) := by kernel_rfl

theorem fm21 (c : C) (Q : AV → Prop) : (callW Try.prog (runW Try.prog (KV ft8) 200) 21 [cA c] (stE false) fun x _ => Q x) =
  (ifp (!eqInt (chk c) 0)
    (Q
      (AV.tuple
        [AV.agg [AV.int IntKind.i64 0, AV.int IntKind.i64 0, AV.int IntKind.i64 0],
          AV.int IntKind.i64 (chk c)]))
    (Q
      (AV.tuple
        [AV.agg
            [AV.int IntKind.i64
                (bsz c 0 0),
              AV.int IntKind.i64 0, AV.int IntKind.i64 0],
          AV.int IntKind.i64 0]))) := by kernel_rfl

theorem fm28 (c : C) (Q : AV → Prop) : (callW Try.prog (runW Try.prog (KV ft8) 200) 28 [cA c] (stE false) fun x _ => Q x) =
  (ifp (!eqInt (chk c) 0)
    (Q
      (AV.tuple
        [AV.agg [AV.int IntKind.i64 0, AV.int IntKind.i64 0, AV.int IntKind.i64 0],
          AV.int IntKind.i64 (chk c)]))
    (Q
      (AV.tuple
        [AV.agg
            [AV.int IntKind.i64
                (bsz c 0 0),
              AV.int IntKind.i64 0, AV.int IntKind.i64 0],
          AV.int IntKind.i64 0]))) := by kernel_rfl

theorem mixed : Try.prog.follows .mixedOrders = true := by kernel_rfl

theorem bnd_iff {c : C} : bnd c = true ↔ (1 ≤ c.d ∧ c.d ≤ 1024 ∧ 1 ≤ c.l ∧ c.l ≤ 4096 ∧ 1 ≤ c.w ∧ c.w ≤ 256 ∧ 1 ≤ c.r ∧ c.r ≤ 16777216) := by simp [bnd]
theorem mul_le {a b A B : Int} (ha : 0 ≤ a) (hb : 0 ≤ b) (hA : a ≤ A) (hB : b ≤ B) : 0 ≤ a * b ∧ a * b ≤ A * B :=
  ⟨Int.mul_nonneg ha hb, Int.mul_le_mul hA hB hb (Int.le_trans ha hA)⟩
theorem isz_le (c : C) : 0 ≤ isz c ∧ isz c ≤ 17825792 ∧ (bnd c = true → 8 ≤ isz c ∧ isz c = 4 * c.d * (c.l + c.w)) := by
  unfold isz
  split
  · rename_i h
    have h0 := bnd_iff.1 h
    have h1 := mul_le (a := 4 * c.d) (b := c.l + c.w) (A := 4096) (B := 4352) (by omega) (by omega) (by omega) (by omega)
    have h2 : 4 * 2 ≤ 4 * c.d * (c.l + c.w) := Int.mul_le_mul (by omega) (by omega) (by omega) (by omega)
    exact ⟨h1.1, by omega, fun _ => ⟨by omega, rfl⟩⟩
  · rename_i h
    exact ⟨by omega, by omega, fun h' => absurd h' h⟩
theorem pts_le {c : C} (h : bnd c = true) {a : Int} (h1 : 0 ≤ a) (h2 : a ≤ c.r) : 0 ≤ a * (16 + 2 * c.d) ∧ a * (16 + 2 * c.d) ≤ 34628173824 := by
  have h0 := bnd_iff.1 h
  have := mul_le (a := a) (b := 16 + 2 * c.d) (A := 16777216) (B := 2064) (by omega) (by omega) (by omega) (by omega)
  exact ⟨this.1, by omega⟩
theorem bsz_le (c : C) (a b : Int) : 0 ≤ bsz c a b ∧ bsz c a b ≤ 34645999683 := by
  unfold bsz
  split
  · rename_i h
    obtain ⟨h0, h1, h2, h3⟩ := h
    have hp := pts_le h0 h1 h2
    have hi := isz_le c
    split <;> omega
  · omega
theorem rsv_le (c : C) : 0 ≤ rsv c ∧ rsv c ≤ 34645999683 := bsz_le c _ _
theorem good_iff {c : C} : good c = true ↔ (bnd c = true ∧ 1 ≤ c.p ∧ Int.tmod c.d c.p = 0 ∧ 1 ≤ c.i ∧ c.i ≤ 64 ∧ 2 ≤ c.q ∧ c.q ≤ 4096 ∧ bsz c 0 0 + rsv c ≤ c.s ∧ c.s ≤ 1099511627776) := by simp [good]
theorem ok0 : FtOk Try.prog ft0 := FtOk.nil

theorem v41 (c : C) : Val Try.prog 41 [cA c] (bA (bnd c)) :=
  Val.of mixed ok0 rfl rfl rfl (fm41 c) (by
    simp only [ifp_le]
    repeat' split
    all_goals (refine same_bool ?_; unfold bnd; symm; first | (apply decide_eq_true; omega) | (apply decide_eq_false; omega)))
theorem v61 (c : C) : Val Try.prog 61 [cA c] (bA (bnd c)) :=
  Val.of mixed ok0 rfl rfl rfl (fm61 c) (by
    simp only [ifp_le]
    repeat' split
    all_goals (refine same_bool ?_; unfold bnd; symm; first | (apply decide_eq_true; omega) | (apply decide_eq_false; omega)))
theorem v63 (n : Int) : Val Try.prog 63 [iA n] (iA (fsz n)) :=
  Val.of mixed ok0 rfl rfl rfl (fm63 n) (by
    simp only [ifp_le, ifp_nle]
    unfold fsz
    repeat' split
    all_goals first
      | exact same_int rfl
      | (exfalso; omega)
      | (refine same_int ?_; rw [wadd] <;> omega))
theorem v44 (n : Int) : Val Try.prog 44 [iA n] (iA (fsz n)) :=
  Val.of mixed ok0 rfl rfl rfl (fm44 n) (by
    simp only [ifp_le, ifp_nle]
    unfold fsz
    repeat' split
    all_goals first
      | exact same_int rfl
      | (exfalso; omega)
      | (refine same_int ?_; rw [wadd] <;> omega))
theorem F1_val {k : C → AV} {f : FuncId} (h : ∀ c, Val Try.prog f [cA c] (k c)) : ∀ args v, F1 k args = some v → Val Try.prog f args v := by
  intro args v hv
  unfold F1 onC at hv
  split at hv
  · split at hv
    · injection hv with hv; subst hv; exact h ⟨_, _, _, _, _, _, _, _⟩
    · cases hv
  · cases hv
theorem FI_val {k : Int → AV} {f : FuncId} (h : ∀ n, Val Try.prog f [iA n] (k n)) : ∀ args v, FI k args = some v → Val Try.prog f args v := by
  intro args v hv
  unfold FI onI at hv
  split at hv
  · split at hv
    · injection hv with hv; subst hv; exact h _
    · cases hv
  · cases hv
theorem FS_val {f : FuncId} (h : ∀ c a b, Val Try.prog f [cA c, iA a, iA b] (iA (bsz c a b))) : ∀ args v, FS args = some v → Val Try.prog f args v := by
  intro args v hv
  unfold FS onC onI at hv
  split at hv
  · split at hv
    · split at hv
      · dsimp only at hv
        split at hv
        · injection hv with hv; subst hv; exact h ⟨_, _, _, _, _, _, _, _⟩ _ _
        · cases hv
      · cases hv
    · cases hv
  · cases hv
theorem FL_val {k : L → AV} {f : FuncId} (h : ∀ l, Val Try.prog f [lA l] (k l)) : ∀ args v, FL k args = some v → Val Try.prog f args v := by
  intro args v hv
  unfold FL onL at hv
  split at hv
  · split at hv
    · injection hv with hv; subst hv; exact h ⟨_, _, _⟩
    · cases hv
  · cases hv
theorem FCL_val {k : C → L → AV} {f : FuncId} (h : ∀ c l, Val Try.prog f [cA c, lA l] (k c l)) : ∀ args v, FCL k args = some v → Val Try.prog f args v := by
  intro args v hv
  unfold FCL onC onL at hv
  split at hv
  · split at hv
    · split at hv
      · injection hv with hv; subst hv; exact h ⟨_, _, _, _, _, _, _, _⟩ ⟨_, _, _⟩
      · cases hv
    · cases hv
  · cases hv
theorem FCLI_val {k : C → L → Int → AV} {f : FuncId} (h : ∀ c l n, Val Try.prog f [cA c, lA l, iA n] (k c l n)) : ∀ args v, FCLI k args = some v → Val Try.prog f args v := by
  intro args v hv
  unfold FCLI onC onL onI at hv
  split at hv
  · split at hv
    · split at hv
      · split at hv
        · injection hv with hv; subst hv; exact h ⟨_, _, _, _, _, _, _, _⟩ ⟨_, _, _⟩ _
        · cases hv
      · cases hv
    · cases hv
  · cases hv
theorem FCLIB_val {k : C → L → Int → Bool → AV} {f : FuncId} (h : ∀ c l n t, Val Try.prog f [cA c, lA l, iA n, bA t] (k c l n t)) : ∀ args v, FCLIB k args = some v → Val Try.prog f args v := by
  intro args v hv
  unfold FCLIB onC onL onI onB at hv
  split at hv
  · split at hv
    · split at hv
      · split at hv
        · split at hv
          · injection hv with hv; subst hv; exact h ⟨_, _, _, _, _, _, _, _⟩ ⟨_, _, _⟩ _ _
          · cases hv
        · cases hv
      · cases hv
    · cases hv
  · cases hv
theorem ok1 : FtOk Try.prog ft1 := .cons (F1_val v41) (.cons (F1_val v61) (.cons (FI_val v63) (.cons (FI_val v44) .nil)))
theorem v14 (c : C) : Val Try.prog 14 [cA c] (iA (isz c)) :=
  Val.of mixed ok1 rfl rfl rfl (fm14 c) (by
    simp only [ifp_if]
    by_cases h : bnd c = true
    · rw [if_pos h]
      obtain ⟨_, _, h3⟩ := isz_le c
      obtain ⟨h4, h5⟩ := h3 h
      have h0 := bnd_iff.1 h
      refine same_int ?_
      have e1 : wrapF .i64 (Int.mul 4 c.d) = 4 * c.d := wmul (by omega) (by omega)
      have e2 : wrapF .i64 (Int.add c.l c.w) = c.l + c.w := wadd (by omega) (by omega)
      rw [e1, e2]
      have e3 : Int.mul (4 * c.d) (c.l + c.w) = isz c := h5.symm
      rw [e3]
      exact wr64 (by omega) (by have := isz_le c; omega)
    · rw [if_neg h]; refine same_int ?_; unfold isz; rw [if_neg h])
theorem v54 (c : C) : Val Try.prog 54 [cA c] (iA (isz c)) :=
  Val.of mixed ok1 rfl rfl rfl (fm54 c) (by
    simp only [ifp_if]
    by_cases h : bnd c = true
    · rw [if_pos h]
      obtain ⟨_, _, h3⟩ := isz_le c
      obtain ⟨h4, h5⟩ := h3 h
      have h0 := bnd_iff.1 h
      refine same_int ?_
      have e1 : wrapF .i64 (Int.mul 4 c.d) = 4 * c.d := wmul (by omega) (by omega)
      have e2 : wrapF .i64 (Int.add c.l c.w) = c.l + c.w := wadd (by omega) (by omega)
      rw [e1, e2]
      have e3 : Int.mul (4 * c.d) (c.l + c.w) = isz c := h5.symm
      rw [e3]
      exact wr64 (by omega) (by have := isz_le c; omega)
    · rw [if_neg h]; refine same_int ?_; unfold isz; rw [if_neg h])
theorem v58 (n : Int) : Val Try.prog 58 [iA n] (iA (wcost n)) :=
  Val.of mixed ok1 rfl rfl rfl (fm58 n) (by
    simp only [ifp_le, ifp_nle]
    unfold wcost
    repeat' split
    all_goals first
      | exact same_int rfl
      | (exfalso; omega)
      | (refine same_int ?_
         have e1 : wrapF .i64 (Int.add n 8) = n + 8 := wadd (by omega) (by omega)
         rw [e1]; unfold fsz; split <;> omega))
theorem v15 (n : Int) : Val Try.prog 15 [iA n] (iA (wcost n)) :=
  Val.of mixed ok1 rfl rfl rfl (fm15 n) (by
    simp only [ifp_le, ifp_nle]
    unfold wcost
    repeat' split
    all_goals first
      | exact same_int rfl
      | (exfalso; omega)
      | (refine same_int ?_
         have e1 : wrapF .i64 (Int.add n 8) = n + 8 := wadd (by omega) (by omega)
         rw [e1]; unfold fsz; split <;> omega))
theorem ok2 : FtOk Try.prog ft2 := .append (.cons (F1_val v14) (.cons (F1_val v54) (.cons (FI_val v58) (.cons (FI_val v15) .nil)))) ok1
theorem bsz_no {c : C} {a b : Int} (h : ¬(bnd c = true ∧ 0 ≤ a ∧ a ≤ c.r ∧ (b = 0 ∨ b = isz c))) : bsz c a b = 0 := by unfold bsz; rw [if_neg h]
theorem bsz_yes {c : C} {a b : Int} (h : bnd c = true ∧ 0 ≤ a ∧ a ≤ c.r ∧ (b = 0 ∨ b = isz c)) : bsz c a b = 58 + a * (16 + 2 * c.d) + (if b > 0 then 9 + b else 0) := by unfold bsz; rw [if_pos h]
theorem v13 (c : C) (a b : Int) : Val Try.prog 13 [cA c, iA a, iA b] (iA (bsz c a b)) :=
  Val.of mixed ok2 rfl rfl rfl (fm13 c a b) (by
    simp only [ifp_if (b := bnd c), ifp_le, ifp_nle, ifp_ne]
    by_cases hc : bnd c = true ∧ 0 ≤ a ∧ a ≤ c.r ∧ (b = 0 ∨ b = isz c)
    · have h0 := bnd_iff.1 hc.1
      have hp := pts_le hc.1 hc.2.1 hc.2.2.1
      have hi := isz_le c
      have e1 : wrapF .i64 (Int.mul 2 c.d) = 2 * c.d := wmul (by omega) (by omega)
      have e2 : wrapF .i64 (Int.add 16 (2 * c.d)) = 16 + 2 * c.d := wadd (by omega) (by omega)
      have e3 : wrapF .i64 (Int.mul a (16 + 2 * c.d)) = a * (16 + 2 * c.d) := wmul (by omega) (by omega)
      have e4 : wrapF .i64 (Int.add 58 9) = 67 := by decide
      have e5 : wrapF .i64 (Int.add 67 b) = 67 + b := wadd (by omega) (by omega)
      have e6 : wrapF .i64 (Int.add 58 (a * (16 + 2 * c.d))) = 58 + a * (16 + 2 * c.d) := wadd (by omega) (by omega)
      have e7 : wrapF .i64 (Int.add (67 + b) (a * (16 + 2 * c.d))) = 67 + b + a * (16 + 2 * c.d) := wadd (by omega) (by omega)
      rw [if_pos hc.1, if_pos hc.2.1, if_pos hc.2.2.1, bsz_yes hc]
      simp only [e1, e2, e3, e4, e5, e6, e7]
      repeat' split
      all_goals first
        | (exfalso; omega)
        | (refine same_int ?_; omega)
    · repeat' split
      all_goals first
        | exact same_int (bsz_no hc).symm
        | (exfalso; exact hc ⟨by assumption, by omega, by omega, by omega⟩))
theorem fsz_in {n : Int} (h1 : 0 ≤ n) (h2 : n ≤ 33554432) : fsz n = 8 + n := by unfold fsz; rw [if_neg (by omega)]
theorem v52 (c : C) (a b : Int) : Val Try.prog 52 [cA c, iA a, iA b] (iA (bsz c a b)) :=
  Val.of mixed ok2 rfl rfl rfl (fm52 c a b) (by
    simp only [ifp_if (b := bnd c), ifp_le, ifp_nle, ifp_ne, and_self, true_and]
    by_cases hc : bnd c = true ∧ 0 ≤ a ∧ a ≤ c.r ∧ (b = 0 ∨ b = isz c)
    · have h0 := bnd_iff.1 hc.1
      have hp := pts_le hc.1 hc.2.1 hc.2.2.1
      have hi := isz_le c
      have e1 : wrapF .i64 (Int.mul 2 c.d) = 2 * c.d := wmul (by omega) (by omega)
      have e2 : wrapF .i64 (Int.add 8 (2 * c.d)) = 8 + 2 * c.d := wadd (by omega) (by omega)
      have e3 : fsz (8 + 2 * c.d) = 16 + 2 * c.d := by rw [fsz_in (by omega) (by omega)]; omega
      have e4 : wrapF .i64 (Int.mul a (16 + 2 * c.d)) = a * (16 + 2 * c.d) := wmul (by omega) (by omega)
      have e5 : fsz 50 = 58 := by decide
      have e6 : wrapF .i64 (Int.add 58 (a * (16 + 2 * c.d))) = 58 + a * (16 + 2 * c.d) := wadd (by omega) (by omega)
      have e7 : wrapF .i64 (Int.add 1 b) = 1 + b := wadd (by omega) (by omega)
      have e8 : fsz (1 + b) = 9 + b := by rw [fsz_in (by omega) (by omega)]; omega
      have e9 : wrapF .i64 (Int.add (58 + a * (16 + 2 * c.d)) (9 + b)) = 58 + a * (16 + 2 * c.d) + (9 + b) := wadd (by omega) (by omega)
      rw [if_pos hc.1, if_pos hc.2.1, if_pos hc.2.2.1, bsz_yes hc]
      simp only [e1, e2, e3, e4, e5, e6, e7, e8, e9]
      repeat' split
      all_goals first
        | (exfalso; omega)
        | (refine same_int ?_; omega)
    · repeat' split
      all_goals first
        | exact same_int (bsz_no hc).symm
        | (exfalso; exact hc ⟨by assumption, by omega, by omega, by omega⟩))
theorem ok3 : FtOk Try.prog ft3 := .append (.cons (FS_val v13) (.cons (FS_val v52) .nil)) ok2
theorem v22 (c : C) : Val Try.prog 22 [cA c] (iA (rsv c)) :=
  Val.of mixed ok3 rfl rfl rfl (fm22 c) ⟨⟨rfl, trivial⟩, ⟨rfl, trivial⟩, trivial, rfl⟩
theorem v60 (c : C) : Val Try.prog 60 [cA c] (iA (rsv c)) :=
  Val.of mixed ok3 rfl rfl rfl (fm60 c) ⟨⟨rfl, trivial⟩, ⟨rfl, trivial⟩, trivial, rfl⟩
theorem ok4 : FtOk Try.prog ft4 := .append (.cons (F1_val v22) (.cons (F1_val v60) .nil)) ok3
theorem chk_yes {c : C} (h : good c = true) : chk c = 0 := by unfold chk; rw [if_pos h]
theorem chk_no {c : C} (h : ¬(good c = true)) : chk c = 2 := by unfold chk; rw [if_neg h]
theorem v9 (c : C) : Val Try.prog 9 [cA c] (iA (chk c)) :=
  Val.of mixed ok4 rfl rfl rfl (fm9 c) (by
    have e1 : wrapF .i64 (Int.add (bsz c 0 0) (rsv c)) = bsz c 0 0 + rsv c := wadd (by have := bsz_le c 0 0; have := rsv_le c; omega) (by have := bsz_le c 0 0; have := rsv_le c; omega)
    rw [e1]
    simp only [ifp_if (b := bnd c), ifp_le, ifp_nle, ifp_ne, and_true, true_and, and_self]
    have hg := good_iff (c := c)
    split
    · split
      · refine ⟨by omega, ?_⟩
        repeat' split
        all_goals refine same_int ?_
        all_goals first
          | (rw [chk_no (fun h => by have := hg.1 h; omega)])
          | (rw [chk_yes (hg.2 ⟨by assumption, by assumption, by assumption, by assumption, by assumption, by assumption, by assumption, by assumption, by assumption⟩)])
      · refine same_int ?_; rw [chk_no (fun h => by have := hg.1 h; omega)]
    · refine same_int ?_; rw [chk_no (fun h => by have := hg.1 h; exact absurd this.1 (by assumption))])
theorem v50 (c : C) : Val Try.prog 50 [cA c] (iA (chk c)) :=
  Val.of mixed ok4 rfl rfl rfl (fm50 c) (by
    have e1 : wrapF .i64 (Int.add (bsz c 0 0) (rsv c)) = bsz c 0 0 + rsv c := wadd (by have := bsz_le c 0 0; have := rsv_le c; omega) (by have := bsz_le c 0 0; have := rsv_le c; omega)
    rw [e1]
    simp only [ifp_if (b := bnd c), ifb_false, ifb_le, ifp_le, ifp_nle, ifp_eq, and_true, true_and, and_self]
    have hg := good_iff (c := c)
    by_cases hp : 1 ≤ c.p
    · have e2 : (if c.p ≤ 1 then 1 else c.p) = c.p := by split <;> omega
      rw [if_pos hp, e2]
      split
      · refine ⟨by omega, ?_⟩
        repeat' split
        all_goals refine same_int ?_
        all_goals first
          | (rw [chk_no (fun h => by have := hg.1 h; omega)])
          | (rw [chk_yes (hg.2 ⟨by assumption, by assumption, by assumption, by assumption, by assumption, by assumption, by assumption, by assumption, by assumption⟩)])
      · refine same_int ?_; rw [chk_no (fun h => by have := hg.1 h; exact absurd this.1 (by assumption))]
    · rw [if_neg hp]
      split <;> (refine same_int ?_; rw [chk_no (fun h => by have := hg.1 h; omega)]))
theorem ok5 : FtOk Try.prog ft5 := .append (.cons (F1_val v9) (.cons (F1_val v50) .nil)) ok4
theorem chk_iff {c : C} : chk c = 0 ↔ good c = true := by
  by_cases h : good c = true
  · simp [chk_yes h, h]
  · simp [chk_no h, h]
theorem good_facts {c : C} (h : good c = true) : 1 ≤ c.d ∧ c.d ≤ 1024 ∧ 0 ≤ c.s ∧ c.s ≤ 1099511627776 ∧ 1 ≤ c.r ∧ bsz c 0 0 + rsv c ≤ c.s := by
  obtain ⟨h1, h2⟩ := good_iff.1 h
  have h3 := bnd_iff.1 h1
  have h4 := bsz_le c 0 0
  have h5 := rsv_le c
  exact ⟨by omega, by omega, by omega, by omega, by omega, by omega⟩
theorem wcost_in {n : Int} (h1 : 0 ≤ n) (h2 : n ≤ 33554424) : wcost n = 16 + n := by unfold wcost; rw [if_neg (by omega)]
theorem v10 (c : C) : Val Try.prog 10 [cA c] (iA (ins c)) :=
  Val.of mixed ok5 rfl rfl rfl (fm10 c) (by
    simp only [ifp_ne, chk_iff, and_self, true_and]
    split
    · rename_i h
      have hf := good_facts h
      refine same_int ?_
      have e1 : wrapF .i64 (Int.mul 2 c.d) = 2 * c.d := wmul (by omega) (by omega)
      have e2 : wrapF .i64 (Int.add 9 (2 * c.d)) = 9 + 2 * c.d := wadd (by omega) (by omega)
      rw [e1, e2, wcost_in (by omega) (by omega)]
      unfold ins; rw [if_pos h]; omega
    · rename_i h
      refine same_int ?_; unfold ins; rw [if_neg h])
theorem v33 (c : C) : Val Try.prog 33 [cA c] (iA (ins c)) :=
  Val.of mixed ok5 rfl rfl rfl (fm33 c) (by
    simp only [ifp_ne, chk_iff, and_self, true_and]
    split
    · rename_i h
      have hf := good_facts h
      refine same_int ?_
      have e1 : wrapF .i64 (Int.mul 2 c.d) = 2 * c.d := wmul (by omega) (by omega)
      have e2 : wrapF .i64 (Int.add 9 (2 * c.d)) = 9 + 2 * c.d := wadd (by omega) (by omega)
      rw [e1, e2, wcost_in (by omega) (by omega)]
      unfold ins; rw [if_pos h]; omega
    · rename_i h
      refine same_int ?_; unfold ins; rw [if_neg h])
theorem v11 (c : C) : Val Try.prog 11 [cA c] (iA (del c)) :=
  Val.of mixed ok5 rfl rfl rfl (fm11 c) (by
    simp only [ifp_ne, chk_iff, and_self, true_and]
    split
    · rename_i h
      refine same_int ?_
      rw [wcost_in (by omega) (by omega)]
      unfold del; rw [if_pos h]; rfl
    · rename_i h
      refine same_int ?_; unfold del; rw [if_neg h])
theorem v34 (c : C) : Val Try.prog 34 [cA c] (iA (del c)) :=
  Val.of mixed ok5 rfl rfl rfl (fm34 c) (by
    simp only [ifp_ne, chk_iff, and_self, true_and]
    split
    · rename_i h
      refine same_int ?_
      rw [wcost_in (by omega) (by omega)]
      unfold del; rw [if_pos h]; rfl
    · rename_i h
      refine same_int ?_; unfold del; rw [if_neg h])
theorem v12 (c : C) : Val Try.prog 12 [cA c] (iA (swp c)) :=
  Val.of mixed ok5 rfl rfl rfl (fm12 c) (by
    simp only [ifp_ne, chk_iff, and_self, true_and]
    split
    · rename_i h
      have hi := isz_le c
      refine same_int ?_
      have e1 : wrapF .i64 (Int.add 1 (isz c)) = 1 + isz c := wadd (by omega) (by omega)
      rw [e1, wcost_in (by omega) (by omega)]
      unfold swp; rw [if_pos h]; omega
    · rename_i h
      refine same_int ?_; unfold swp; rw [if_neg h])
theorem v35 (c : C) : Val Try.prog 35 [cA c] (iA (swp c)) :=
  Val.of mixed ok5 rfl rfl rfl (fm35 c) (by
    simp only [ifp_ne, chk_iff, and_self, true_and]
    split
    · rename_i h
      have hi := isz_le c
      refine same_int ?_
      have e1 : wrapF .i64 (Int.add 1 (isz c)) = 1 + isz c := wadd (by omega) (by omega)
      rw [e1, wcost_in (by omega) (by omega)]
      unfold swp; rw [if_pos h]; omega
    · rename_i h
      refine same_int ?_; unfold swp; rw [if_neg h])
theorem lok_iff {l : L} : lok l = true ↔ (0 ≤ l.b ∧ l.b ≤ 1099511627776 ∧ 0 ≤ l.g ∧ l.g ≤ 1099511627776 ∧ 0 ≤ l.s ∧ l.s ≤ 1099511627776) := by simp [lok]
theorem lchk_yes {l : L} (h : lok l = true) : lchk l = 0 := by unfold lchk; rw [if_pos h]
theorem lchk_no {l : L} (h : ¬(lok l = true)) : lchk l = 2 := by unfold lchk; rw [if_neg h]
theorem lchk_iff {l : L} : lchk l = 0 ↔ lok l = true := by
  by_cases h : lok l = true
  · simp [lchk_yes h, h]
  · simp [lchk_no h, h]
theorem mn (x y : Int) : ∃ m, (if x ≤ y then x else y) = m ∧ m ≤ x ∧ m ≤ y ∧ (m = x ∨ m = y) := by
  by_cases h : x ≤ y
  · exact ⟨x, if_pos h, by omega, h, .inl rfl⟩
  · exact ⟨y, if_neg h, by omega, by omega, .inr rfl⟩
theorem mx (x y : Int) : ∃ m, (if y ≤ x then x else y) = m ∧ x ≤ m ∧ y ≤ m ∧ (m = x ∨ m = y) := by
  by_cases h : y ≤ x
  · exact ⟨x, if_pos h, by omega, h, .inl rfl⟩
  · exact ⟨y, if_neg h, by omega, by omega, .inr rfl⟩
theorem v16 (l : L) : Val Try.prog 16 [lA l] (iA (lchk l)) :=
  Val.of mixed ok5 rfl rfl rfl (fm16 l) (by
    simp only [ifp_le, ifb_le, ifb_true, ifb_false]
    obtain ⟨m1, e1, p1, p2, p3⟩ := mn l.b l.g
    rw [e1]
    obtain ⟨m2, e2, p4, p5, p6⟩ := mn m1 l.s
    rw [e2]
    obtain ⟨m3, e3, q1, q2, q3⟩ := mx l.b l.g
    rw [e3]
    obtain ⟨m4, e4, q4, q5, q6⟩ := mx m3 l.s
    rw [e4]
    have hl := lok_iff (l := l)
    repeat' split
    all_goals refine same_int ?_
    all_goals first
      | (rw [lchk_yes (hl.2 (by omega))])
      | (rw [lchk_no (fun h => by have := hl.1 h; omega)]))
theorem v36 (l : L) : Val Try.prog 36 [lA l] (iA (lchk l)) :=
  Val.of mixed ok5 rfl rfl rfl (fm36 l) (by
    simp only [ifp_le]
    have hl := lok_iff (l := l)
    repeat' split
    all_goals refine same_int ?_
    all_goals first
      | (rw [lchk_yes (hl.2 (by omega))])
      | (rw [lchk_no (fun h => by have := hl.1 h; omega)]))
theorem ok6 : FtOk Try.prog ft6 := .append (.cons (F1_val v10) (.cons (F1_val v11) (.cons (F1_val v12) (.cons (F1_val v33) (.cons (F1_val v34) (.cons (F1_val v35) (.cons (FL_val v16) (.cons (FL_val v36) .nil)))))))) ok5
theorem sum3 {l : L} (h : lok l = true) : wrapF .i64 (Int.add (wrapF .i64 (Int.add l.b l.g)) l.s) = l.b + l.g + l.s := by
  have h0 := lok_iff.1 h
  have e1 : wrapF .i64 (Int.add l.b l.g) = l.b + l.g := wadd (by omega) (by omega)
  rw [e1]; exact wadd (by omega) (by omega)
theorem used_yes {l : L} (h : lok l = true) : used l = l.b + l.g + l.s := by unfold used; rw [if_pos h]
theorem used_no {l : L} (h : ¬(lok l = true)) : used l = 0 := by unfold used; rw [if_neg h]
theorem v19 (l : L) : Val Try.prog 19 [lA l] (iA (used l)) :=
  Val.of mixed ok6 rfl rfl rfl (fm19 l) (by
    simp only [ifp_ne, lchk_iff]
    split
    · rename_i h; refine same_int ?_; rw [sum3 h, used_yes h]
    · rename_i h; refine same_int ?_; rw [used_no h])
theorem v37 (l : L) : Val Try.prog 37 [lA l] (iA (used l)) :=
  Val.of mixed ok6 rfl rfl rfl (fm37 l) (by
    simp only [ifp_ne, lchk_iff]
    split
    · rename_i h; refine same_int ?_; rw [sum3 h, used_yes h]
    · rename_i h; refine same_int ?_; rw [used_no h])
theorem both_iff {c : C} {l : L} : both c l = 0 ↔ (good c = true ∧ lok l = true) := by
  by_cases h : good c = true ∧ lok l = true
  · simp [both, h]
  · simp only [both, if_neg h]; simp [h]
theorem both_no {c : C} {l : L} (h : ¬(good c = true ∧ lok l = true)) : both c l = 2 := by simp only [both, if_neg h]
theorem v47 (c : C) (l : L) : Val Try.prog 47 [cA c, lA l] (iA (both c l)) :=
  Val.of mixed ok6 rfl rfl rfl (fm47 c l) (by
    simp only [ifp_ne, chk_iff]
    split
    · rename_i h; refine same_int ?_
      by_cases h1 : lok l = true
      · rw [lchk_yes h1, both_iff.2 ⟨h, h1⟩]
      · rw [lchk_no h1, both_no (fun h' => h1 h'.2)]
    · rename_i h; refine same_int ?_; rw [chk_no h, both_no (fun h' => h h'.1)])
theorem v55 (c : C) (l : L) : Val Try.prog 55 [cA c, lA l] (iA (both c l)) :=
  Val.of mixed ok6 rfl rfl rfl (fm55 c l) (by
    simp only [ifp_ne, chk_iff]
    split
    · rename_i h; refine same_int ?_
      by_cases h1 : lok l = true
      · rw [lchk_yes h1, both_iff.2 ⟨h, h1⟩]
      · rw [lchk_no h1, both_no (fun h' => h1 h'.2)]
    · rename_i h; refine same_int ?_; rw [chk_no h, both_no (fun h' => h h'.1)])
theorem ok7 : FtOk Try.prog ft7 := .append (.cons (FL_val v19) (.cons (FL_val v37) (.cons (FCL_val v47) (.cons (FCL_val v55) .nil)))) ok6
theorem left_eq {c : C} {l : L} (h : good c = true ∧ lok l = true) : wrapF .i64 (Int.sub (wrapF .i64 (Int.sub c.s (rsv c))) (l.b + l.g + l.s)) = left c l ∧ -4398046511104 ≤ left c l ∧ left c l ≤ 1099511627776 := by
  have h0 := lok_iff.1 h.2
  have h1 := good_facts h.1
  have h2 := rsv_le c
  have e1 : wrapF .i64 (Int.sub c.s (rsv c)) = c.s - rsv c := wsub (by omega) (by omega)
  rw [e1]
  refine ⟨wsub (by omega) (by omega), ?_, ?_⟩ <;> unfold left <;> omega
theorem may_no {c : C} {l : L} {n : Int} (h : ¬(good c = true ∧ lok l = true ∧ 0 ≤ n ∧ n ≤ 1099511627776)) : may c l n = 2 := by unfold may; rw [if_neg h]
theorem may_yes {c : C} {l : L} {n : Int} (h : good c = true ∧ lok l = true ∧ 0 ≤ n ∧ n ≤ 1099511627776) : may c l n = if n > left c l then 7 else 0 := by unfold may; rw [if_pos h]
theorem v20 (c : C) (l : L) (n : Int) : Val Try.prog 20 [cA c, lA l, iA n] (iA (may c l n)) :=
  Val.of mixed ok7 rfl rfl rfl (fm20 c l n) (by
    simp only [ifp_ne, ifp_nle, both_iff, and_self, true_and]
    split
    · rename_i h
      obtain ⟨e1, e2, e3⟩ := left_eq h
      rw [sum3 h.2, e1]
      repeat' split
      all_goals refine same_int ?_
      all_goals first
        | (rw [may_no (fun h => by omega)])
        | (rw [may_yes ⟨h.1, h.2, by omega, by omega⟩]; first | (rw [if_pos (by omega)]) | (rw [if_neg (by omega)]))
    · rename_i h; refine same_int ?_; rw [both_no h, may_no (fun h' => h ⟨h'.1, h'.2.1⟩)])
theorem v38 (c : C) (l : L) (n : Int) : Val Try.prog 38 [cA c, lA l, iA n] (iA (may c l n)) :=
  Val.of mixed ok7 rfl rfl rfl (fm38 c l n) (by
    simp only [ifp_ne, ifp_le, ifp_nle, both_iff, and_self, true_and]
    split
    · rename_i h
      by_cases h1 : 0 ≤ n
      · by_cases h2 : n ≤ 1099511627776
        · have h3 := lok_iff.1 h.2
          have h4 := good_facts h.1
          have h5 := rsv_le c
          have e1 : wrapF .i64 (Int.sub c.s (rsv c)) = c.s - rsv c := wsub (by omega) (by omega)
          have e2 : wrapF .i64 (Int.add (used l) n) = used l + n := by rw [used_yes h.2]; exact wadd (by omega) (by omega)
          rw [if_pos h1, if_pos h2, e1, e2, used_yes h.2]
          have hm := may_yes ⟨h.1, h.2, h1, h2⟩
          unfold left at hm
          split
          · refine same_int ?_; rw [hm, if_neg (by omega)]
          · refine same_int ?_; rw [hm, if_pos (by omega)]
        · rw [if_pos h1, if_neg h2]; refine same_int ?_; rw [may_no (fun h => by omega)]
      · rw [if_neg h1]; refine same_int ?_; rw [may_no (fun h => by omega)]
    · rename_i h; refine same_int ?_; rw [both_no h, may_no (fun h' => h ⟨h'.1, h'.2.1⟩)])
theorem rst_no {c : C} {l : L} (h : ¬(good c = true ∧ lok l = true)) : rst c l = -1 := by unfold rst; rw [if_neg h]
theorem rst_yes {c : C} {l : L} (h : good c = true ∧ lok l = true) : rst c l = if left c l < -1 then -1 else left c l := by unfold rst; rw [if_pos h]
theorem v18 (c : C) (l : L) : Val Try.prog 18 [cA c, lA l] (iA (rst c l)) :=
  Val.of mixed ok7 rfl rfl rfl (fm18 c l) (by
    simp only [ifp_ne, both_iff, and_self, true_and, ifb_false, ifb_le]
    split
    · rename_i h
      obtain ⟨e1, e2, e3⟩ := left_eq h
      first | (rw [sum3 h.2, e1]) | (rw [used_yes h.2, e1])
      refine same_int ?_
      rw [rst_yes h]
      repeat' split
      all_goals omega
    · rename_i h; refine same_int ?_; rw [rst_no h])
theorem v39 (c : C) (l : L) : Val Try.prog 39 [cA c, lA l] (iA (rst c l)) :=
  Val.of mixed ok7 rfl rfl rfl (fm39 c l) (by
    simp only [ifp_ne, both_iff, and_self, true_and, ifb_false, ifb_le]
    split
    · rename_i h
      obtain ⟨e1, e2, e3⟩ := left_eq h
      first | (rw [sum3 h.2, e1]) | (rw [used_yes h.2, e1])
      refine same_int ?_
      rw [rst_yes h]
      repeat' split
      all_goals omega
    · rename_i h; refine same_int ?_; rw [rst_no h])
theorem ok8 : FtOk Try.prog ft8 := .append (.cons (FCLI_val v20) (.cons (FCLI_val v38) (.cons (FCL_val v18) (.cons (FCL_val v39) .nil)))) ok7
theorem may_zero {c : C} {l : L} {n : Int} (h : may c l n = 0) : good c = true ∧ lok l = true ∧ 0 ≤ n ∧ n ≤ 1099511627776 ∧ n ≤ left c l := by
  by_cases h1 : good c = true ∧ lok l = true ∧ 0 ≤ n ∧ n ≤ 1099511627776
  · rw [may_yes h1] at h
    split at h
    · omega
    · exact ⟨h1.1, h1.2.1, h1.2.2.1, h1.2.2.2, by omega⟩
  · rw [may_no h1] at h; omega
theorem pA_eq {l l' : L} {e e' : Int} (h : l = l') (h' : e = e') : pA l e = pA l' e' := by rw [h, h']
theorem v17 (c : C) (l : L) (n : Int) : Val Try.prog 17 [cA c, lA l, iA n] (lgd c l n) := by
  refine Val.of mixed ok8 rfl rfl rfl (fm17 c l n) ?_
  simp only [ifp_ne]
  split
  · rename_i h
    have hm := may_zero h
    have hl := lok_iff.1 hm.2.1
    have e1 : wrapF .i64 (Int.add l.g n) = l.g + n := wadd (by omega) (by omega)
    rw [e1]
    exact pA_eq (l := ⟨l.b, l.g + n, l.s⟩) (by unfold lgdL; rw [if_pos h]) h.symm
  · rename_i h
    exact pA_eq (l := l0) (by unfold lgdL; rw [if_neg h]) rfl
theorem v29 (c : C) (l : L) (n : Int) : Val Try.prog 29 [cA c, lA l, iA n] (lgd c l n) := by
  refine Val.of mixed ok8 rfl rfl rfl (fm29 c l n) ?_
  simp only [ifp_ne]
  split
  · rename_i h
    have hm := may_zero h
    have hl := lok_iff.1 hm.2.1
    have e1 : wrapF .i64 (Int.add l.g n) = l.g + n := wadd (by omega) (by omega)
    rw [e1]
    exact pA_eq (l := ⟨l.b, l.g + n, l.s⟩) (by unfold lgdL; rw [if_pos h]) h.symm
  · rename_i h
    exact pA_eq (l := l0) (by unfold lgdL; rw [if_neg h]) rfl
theorem v24 (c : C) (l : L) : Val Try.prog 24 [cA c, lA l] (hld c l) := by
  refine Val.of mixed ok8 rfl rfl rfl (fm24 c l) ?_
  simp only [ifp_ne, and_self, true_and]
  split
  · rename_i h
    have he : hldE c l = may c l (swp c) := by unfold hldE; rw [if_pos h]
    split
    · rename_i h1
      exact pA_eq (l := ⟨l.b, l.g, swp c⟩) (by unfold hldL; rw [he, if_pos h1]) (by rw [he, h1])
    · rename_i h1
      exact pA_eq (l := l0) (by unfold hldL; rw [he, if_neg h1]) he.symm
  · rename_i h
    have he : hldE c l = 2 := by unfold hldE; rw [if_neg h]
    exact pA_eq (l := l0) (by unfold hldL; rw [he, if_neg (by omega)]) he.symm
theorem v30 (c : C) (l : L) : Val Try.prog 30 [cA c, lA l] (hld c l) := by
  refine Val.of mixed ok8 rfl rfl rfl (fm30 c l) ?_
  simp only [ifp_ne, and_self, true_and]
  split
  · rename_i h
    have he : hldE c l = may c l (swp c) := by unfold hldE; rw [if_pos h]
    split
    · rename_i h1
      exact pA_eq (l := ⟨l.b, l.g, swp c⟩) (by unfold hldL; rw [he, if_pos h1]) (by rw [he, h1])
    · rename_i h1
      exact pA_eq (l := l0) (by unfold hldL; rw [he, if_neg h1]) he.symm
  · rename_i h
    have he : hldE c l = 2 := by unfold hldE; rw [if_neg h]
    exact pA_eq (l := l0) (by unfold hldL; rw [he, if_neg (by omega)]) he.symm
theorem swdE_no {l : L} (h : ¬(lok l = true ∧ l.s ≠ 0)) : swdE l = 2 := by unfold swdE; rw [if_neg h]
theorem swdE_yes {l : L} (h : lok l = true ∧ l.s ≠ 0) : swdE l = 0 := by unfold swdE; rw [if_pos h]
theorem v23 (l : L) : Val Try.prog 23 [lA l] (swd l) := by
  refine Val.of mixed ok8 rfl rfl rfl (fm23 l) ?_
  simp only [ifp_ne, ifp_eq, lchk_iff]
  split
  · rename_i h
    split
    · rename_i h1
      have he := swdE_no (l := l) (fun h' => h'.2 h1)
      exact pA_eq (l := l0) (by unfold swdL; rw [he, if_neg (by omega)]) he.symm
    · rename_i h1
      have hl := lok_iff.1 h
      have e1 : wrapF .i64 (Int.add l.g l.s) = l.g + l.s := wadd (by omega) (by omega)
      have he := swdE_yes ⟨h, h1⟩
      rw [e1]
      exact pA_eq (l := ⟨l.b, l.g + l.s, 0⟩) (by unfold swdL; rw [if_pos he]) he.symm
  · rename_i h
    have he := swdE_no (l := l) (fun h' => h h'.1)
    exact pA_eq (l := l0) (by unfold swdL; rw [he, if_neg (by omega)]) he.symm
theorem v31 (l : L) : Val Try.prog 31 [lA l] (swd l) := by
  refine Val.of mixed ok8 rfl rfl rfl (fm31 l) ?_
  simp only [ifp_ne, ifp_eq, lchk_iff]
  split
  · rename_i h
    split
    · rename_i h1
      have he := swdE_no (l := l) (fun h' => h'.2 h1)
      exact pA_eq (l := l0) (by unfold swdL; rw [he, if_neg (by omega)]) he.symm
    · rename_i h1
      have hl := lok_iff.1 h
      have e1 : wrapF .i64 (Int.add l.g l.s) = l.g + l.s := wadd (by omega) (by omega)
      have he := swdE_yes ⟨h, h1⟩
      rw [e1]
      exact pA_eq (l := ⟨l.b, l.g + l.s, 0⟩) (by unfold swdL; rw [if_pos he]) he.symm
  · rename_i h
    have he := swdE_no (l := l) (fun h' => h h'.1)
    exact pA_eq (l := l0) (by unfold swdL; rw [he, if_neg (by omega)]) he.symm
theorem v27 (l : L) : Val Try.prog 27 [lA l] (drp l) := Val.of mixed ok8 rfl rfl rfl (fm27 l) rfl
theorem v40 (l : L) : Val Try.prog 40 [lA l] (drp l) := Val.of mixed ok8 rfl rfl rfl (fm40 l) rfl
theorem bsdE_no {c : C} {l : L} {n : Int} (h : ¬(good c = true ∧ lok l = true ∧ 0 ≤ n ∧ n ≤ c.r)) : bsdE c l n = 2 := by unfold bsdE; rw [if_neg h]
theorem bsdE_yes {c : C} {l : L} {n : Int} (h : good c = true ∧ lok l = true ∧ 0 ≤ n ∧ n ≤ c.r) : bsdE c l n = 0 := by unfold bsdE; rw [if_pos h]
theorem bsdL_no {c : C} {l : L} {n : Int} {t : Bool} (h : bsdE c l n = 2) : bsdL c l n t = l0 := by unfold bsdL; rw [h, if_neg (by omega)]
theorem v25 (c : C) (l : L) (n : Int) (t : Bool) : Val Try.prog 25 [cA c, lA l, iA n, bA t] (bsd c l n t) := by
  refine Val.of mixed ok8 rfl rfl rfl (fm25 c l n t) ?_
  simp only [ifp_ne, ifp_nle, both_iff, and_self, true_and]
  split
  · rename_i h
    split
    · rename_i h1
      split
      · rename_i h2
        have he := bsdE_yes ⟨h.1, h.2, h1, h2⟩
        cases t with
        | true => exact pA_eq (l := ⟨bsz c n (isz c), 0, l.s⟩) (by unfold bsdL; rw [if_pos he]; rfl) he.symm
        | false => exact pA_eq (l := ⟨bsz c n 0, 0, l.s⟩) (by unfold bsdL; rw [if_pos he]; rfl) he.symm
      · rename_i h2
        have he := bsdE_no (c := c) (l := l) (n := n) (fun h' => h2 h'.2.2.2)
        exact pA_eq (l := l0) (bsdL_no he).symm he.symm
    · rename_i h1
      have he := bsdE_no (c := c) (l := l) (n := n) (fun h' => h1 h'.2.2.1)
      exact pA_eq (l := l0) (bsdL_no he).symm he.symm
  · rename_i h
    have he := bsdE_no (c := c) (l := l) (n := n) (fun h' => h ⟨h'.1, h'.2.1⟩)
    rw [both_no h]
    exact pA_eq (l := l0) (bsdL_no he).symm he.symm
theorem v32 (c : C) (l : L) (n : Int) (t : Bool) : Val Try.prog 32 [cA c, lA l, iA n, bA t] (bsd c l n t) := by
  refine Val.of mixed ok8 rfl rfl rfl (fm32 c l n t) ?_
  simp only [ifp_ne, ifp_nle, both_iff, and_self, true_and]
  split
  · rename_i h
    split
    · rename_i h1
      split
      · rename_i h2
        have he := bsdE_yes ⟨h.1, h.2, h1, h2⟩
        cases t with
        | true => exact pA_eq (l := ⟨bsz c n (isz c), 0, l.s⟩) (by unfold bsdL; rw [if_pos he]; rfl) he.symm
        | false => exact pA_eq (l := ⟨bsz c n 0, 0, l.s⟩) (by unfold bsdL; rw [if_pos he]; rfl) he.symm
      · rename_i h2
        have he := bsdE_no (c := c) (l := l) (n := n) (fun h' => h2 h'.2.2.2)
        exact pA_eq (l := l0) (bsdL_no he).symm he.symm
    · rename_i h1
      have he := bsdE_no (c := c) (l := l) (n := n) (fun h' => h1 h'.2.2.1)
      exact pA_eq (l := l0) (bsdL_no he).symm he.symm
  · rename_i h
    have he := bsdE_no (c := c) (l := l) (n := n) (fun h' => h ⟨h'.1, h'.2.1⟩)
    rw [both_no h]
    exact pA_eq (l := l0) (bsdL_no he).symm he.symm
theorem v21 (c : C) : Val Try.prog 21 [cA c] (bgn c) := by
  refine Val.of mixed ok8 rfl rfl rfl (fm21 c) ?_
  simp only [ifp_ne]
  split
  · rename_i h
    exact pA_eq (l := ⟨bsz c 0 0, 0, 0⟩) (by unfold bgnL; rw [if_pos h]) h.symm
  · rename_i h
    exact pA_eq (l := l0) (by unfold bgnL; rw [if_neg h]) rfl
theorem v28 (c : C) : Val Try.prog 28 [cA c] (bgn c) := by
  refine Val.of mixed ok8 rfl rfl rfl (fm28 c) ?_
  simp only [ifp_ne]
  split
  · rename_i h
    exact pA_eq (l := ⟨bsz c 0 0, 0, 0⟩) (by unfold bgnL; rw [if_pos h]) h.symm
  · rename_i h
    exact pA_eq (l := l0) (by unfold bgnL; rw [if_neg h]) rfl
theorem ok9 : FtOk Try.prog ft9 :=
  .append (.cons (FCLI_val v17) (.cons (FCLI_val v29) (.cons (FCL_val v24) (.cons (FCL_val v30) (.cons (FL_val v23) (.cons (FL_val v31) (.cons (FL_val v27) (.cons (FL_val v40) (.cons (FCLIB_val v25) (.cons (FCLIB_val v32) (.cons (F1_val v21) (.cons (F1_val v28) .nil)))))))))))) ok8
theorem livesRan : answersTrue ((run Try.prog 1000).call 8 [] st0) = true := by kernel_rfl
theorem v8 : Val Try.prog 8 [] (bA true) := fun st => CallS.closed_ran mixed livesRan st
def F0 (k : AV) : List AV → Option AV
  | [] => some k
  | _ => none
theorem F0_val {k : AV} {f : FuncId} (h : Val Try.prog f [] k) : ∀ args v, F0 k args = some v → Val Try.prog f args v := by
  intro args v hv
  unfold F0 at hv
  split at hv
  · injection hv with hv; subst hv; exact h
  · cases hv
noncomputable def ftA : FT := (8, F0 (bA true)) :: ft9
theorem okA : FtOk Try.prog ftA := .cons (F0_val v8) ok9

end Go.Proofs.Ythlkmjgpmjnngaa
