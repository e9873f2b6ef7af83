/- Functions of rows of numbers that stand for what functions of the program give. Plain Lean; no program. -/
import Derived.Maps.AppendAt
import Derived.Laws.Entries
import Derived.Laws.NewBlocks
import Derived.Orders
import Derived.Below
import Derived.Laws.CopyRow
import Derived.Laws.IdiomCopy
import Derived.RowKit3
import Derived.Control
import Derived.LoopN
import Derived.Tactics
import Derived.Laws.MakeOwn
import Derived.Laws.Cover3
import Derived.Laws.Pointers
import Derived.Laws.StructEq
import Derived.ChangeKeysEq
import Derived.Deep.AppendSrc
import Derived.Laws.BytesString
namespace Go.Proofs.YtmckhoaekbeijaaGreat.E
open Go RowKit
set_option linter.unusedVariables false
/-- numbers round a prime: product, power. -/
def mulM : Int → Int → Int
  | .ofNat a, .ofNat b => bif Nat.blt a 2147483579 && Nat.blt b 2147483579 then .ofNat (a * b % 2147483579) else 0
  | _, _ => 0
def powL : Nat → Int → Nat → Int → Int
  | 0, _, _, n => n
  | k + 1, b, e, n => bif Nat.beq e 0 then n else powL k (mulM b b) (e / 2) (bif Nat.beq (e % 2) 1 then mulM n b else n)
def powM : Int → Int → Int
  | .ofNat b, .ofNat e => bif Nat.blt b 2147483579 && Nat.ble e 1073741789 then powL 62 (.ofNat b) e 1 else 0
  | _, _ => 0
/-- is it a public key? -/
def isM : Int → Int
  | .ofNat y => bif Nat.blt 1 y && Nat.blt y 2147483579 && (match powM (.ofNat y) 1073741789 with | .ofNat z => Nat.beq z 1 | _ => false) then 1 else 0
  | _ => 0
/-- a number's eight bytes. -/
def numM (n : Int) : List Int := [56, 48, 40, 32, 24, 16, 8, 0].map fun s => n.fdiv (2 ^ s)
def numB (n : Int) : List Int := (numM n).map IntKind.u8.wrap
def numsM (l : List Int) : List Int := l.flatMap numB
def opsM (l : List (List Int)) : List Int := l.flatMap fun r => numsM ((List.range 5).map fun i => r.getD i 0)
/-- votes, boxes as bytes. -/
def votesM (l : List (List Int)) : List Int := l.flatMap fun r => numsM ((List.range 3).map fun i => r.getD i 0)
def boxesM (l : List (List Int)) : List Int := l.flatMap fun r => numB (r.length : Nat) ++ r
/-- how much a commit is, as far as it is looked at: 'n' and the boxes. -/
def bigN : Int → List (List Int) → Int
  | n, [] => n
  | n, r :: l => bif (match n with | .ofNat m => Nat.blt m 3000 | .negSucc _ => true) then bigN (IntKind.i64.wrap (n + (r.length : Nat))) l else n
/-- bytes as a number, the highest first. -/
def wordI (l : List Int) : Int := l.foldl (fun n c => n * 256 + c) 0
def toNumI (l : List Int) : Int := IntKind.i64.wrap (wordI l)
/-! reading: is it bad? what is left -/
abbrev Rd := Bool × List Int
def rrN (m : Int) : Rd → Int × Rd
  | (true, l) => (0, true, l)
  | (false, l) => if l.length < 8 then (0, true, l) else if toNumI (l.take 8) < 0 ∨ m < toNumI (l.take 8) then (0, true, l.drop 8) else (toNumI (l.take 8), false, l.drop 8)
def rrRow : List Int → Rd → List Int × Rd
  | [], s => ([], s)
  | m :: ms, s => ((rrN m s).1 :: (rrRow ms (rrN m s).2).1, (rrRow ms (rrN m s).2).2)
def rrRows (ms : List Int) : Nat → Rd → List (List Int) × Rd
  | 0, s => ([], s)
  | n + 1, s => ((rrRow ms s).1 :: (rrRows ms n (rrRow ms s).2).1, (rrRows ms n (rrRow ms s).2).2)
/-- so many bytes. -/
def rrT (n : Int) : Rd → List Int × Rd
  | (true, l) => ([], true, l)
  | (false, l) => if n < 0 ∨ (l.length : Int) < n then ([], true, l) else (l.take n.toNat, false, l.drop n.toNat)
def rrBox (m : Int) (s : Rd) : List Int × Rd := rrT (rrN m s).1 (rrN m s).2
def rrBoxes (m : Int) : Nat → Rd → List (List Int) × Rd
  | 0, s => ([], s)
  | n + 1, s => ((rrBox m s).1 :: (rrBoxes m n (rrBox m s).2).1, (rrBoxes m n (rrBox m s).2).2)
/-- till it is bad. -/
def crRows (ms : List Int) : Nat → Rd → List (List Int) × Rd
  | 0, s => ([], s)
  | n + 1, s => bif s.1 then ([], s) else ((rrRow ms s).1 :: (crRows ms n (rrRow ms s).2).1, (crRows ms n (rrRow ms s).2).2)
def crBoxes (m : Int) : Nat → Rd → List (List Int) × Rd
  | 0, s => ([], s)
  | n + 1, s => bif s.1 then ([], s) else ((rrBox m s).1 :: (crBoxes m n (rrBox m s).2).1, (crBoxes m n (rrBox m s).2).2)
def rdOf (b : Int) (l : List Int) : Rd := (b == 1, l)
def fl (b : Bool) : Int := bif b then 1 else 0
/-- a reader's state in one row: is it bad? what is left. -/
def rdS (a : List Int) : Rd := (a.getD 0 0 == 1, a.drop 1)
def stS (s : Rd) : List Int := fl s.1 :: s.2
def cutJ (n : Nat) (l : List Int) : List Int := (List.range n).map fun i => l.getD i 0
/-! commits, read -/
def opM : List Int := [1099511627776, 1099511627776, 1099511627776, 1099511627776, 1099511627776]
def voM : List Int := [7, 1073741788, 1073741788]
def sigM : List Int := [1073741788, 1073741788]
def anyM (n : Nat) : List Int := List.replicate n 9223372036854775807
structure Cm where
  e : Int
  f : Int
  p : Int
  p0 : Int
  p1 : Int
  p2 : Int
  sE : Int
  sS : Int
  tag : List Int
  ops : List (List Int)
  vos : List (List Int)
  bxs : List (List Int)
structure Lim where
  e : Int
  f : Int
  n1 : Int
  n2 : Int
  p : Int
  n3 : Int
  sig : List Int
  ops : Nat → Rd → List (List Int) × Rd
  vos : Nat → Rd → List (List Int) × Rd
  bxs : Nat → Rd → List (List Int) × Rd
def pad32 (l : List Int) : List Int := cutJ 32 (l.map IntKind.u8.wrap)
def dec (M : Lim) (l : List Int) : Cm × Rd :=
  let s1 := (rrT 1 (false, l)).2
  let a := rrN M.e s1
  let b := rrN M.f a.2
  let n1 := rrN M.n1 b.2
  let o := M.ops n1.1.toNat n1.2
  let n2 := rrN M.n2 o.2
  let v := M.vos n2.1.toNat n2.2
  let c := rrN M.p v.2
  let d := rrN M.p c.2
  let g := rrN M.p d.2
  let h := rrN M.p g.2
  let n3 := rrN M.n3 h.2
  let x := M.bxs n3.1.toNat n3.2
  let t := rrT 32 x.2
  let z := rrRow M.sig t.2
  (⟨a.1, b.1, c.1, d.1, g.1, h.1, z.1.getD 0 0, z.1.getD 1 0, pad32 t.1, o.1, v.1, x.1⟩, z.2)
def limP : Lim := ⟨1099511627776, 7, 4, 8, 2147483579, 16, sigM, rrRows opM, rrRows voM, rrBoxes 300⟩
def limR : Lim := ⟨9223372036854775807, 9223372036854775807, 9223372036854775807, 9223372036854775807, 9223372036854775807, 9223372036854775807, anyM 2, crRows (anyM 5), crRows (anyM 3), crBoxes 9223372036854775807⟩
/-! welcomes, read -/
structure Wm where
  n1 : List Int
  fl : List Int
  chain : List Int
  n2 : List Int
  box : List Int
  tag : List Int
structure LimW where
  n1 : List Int
  n2 : List Int
  box : Int
def w1M : List Int := [7, 7, 1099511627776, 8]
def w2M : List Int := List.replicate 31 2147483579
def flg (l : List Int) : List Int := (List.range 8).map fun i => fl (l.getD i 0 == 1)
def decW (M : LimW) (l : List Int) : Wm × Rd :=
  let s1 := (rrT 1 (false, l)).2
  let a := rrRow M.n1 s1
  let f := rrT 8 a.2
  let c := rrT 32 f.2
  let n := rrRow M.n2 c.2
  let x := rrBox M.box n.2
  let t := rrT 32 x.2
  (⟨a.1, flg f.1, pad32 c.1, n.1, x.1, pad32 t.1⟩, t.2)
def limWP : LimW := ⟨w1M, w2M, 300⟩
def limWR : LimW := ⟨anyM 4, anyM 31, 9223372036854775807⟩
def numsW (w : Wm) : List Int := [w.n1.getD 0 0, w.n1.getD 1 0, w.n1.getD 2 0] ++ (cutJ 31 w.n2 ++ [w.n1.getD 3 0])
def decOk (l : List Int) : Bool := !(dec limP l).2.1 && (dec limP l).2.2.isEmpty && ((rrT 1 (false, l)).1.getD 0 0 == 1)
/-! trees: by which nodes those below a node are reached; how many of them a leaf is under -/
def keyAt (t : List Int) (j : Nat) : Int := bif Nat.beq (j % 2) 0 then t.getD (j + 1) 0 else t.getD (16 + j) 0
def halfN (j : Nat) : Nat := bif Nat.beq (j % 4) 1 then 1 else bif Nat.beq (j % 8) 3 then 2 else 4
def resK : Nat → Nat → List Int → List Int
  | 0, _, _ => []
  | k + 1, j, t => bif keyAt t j == 0 then (bif Nat.beq (j % 2) 0 then [] else resK k (j - halfN j) t ++ resK k (j + halfN j) t) else [(j : Int)]
def resM (j : Nat) (t : List Int) : List Int := resK 4 j t
def underN (x i : Int) : Bool := 0 ≤ x && x < 15 && 0 ≤ i && i < 8 && (x == 2 * i || x == i / 2 * 4 + 1 || x == i / 4 * 8 + 3 || x == 7)
def cntU (i : Int) : Int → List Int → Int
  | n, [] => n
  | n, x :: l => cntU i (bif underN x i then IntKind.i64.wrap (n + 1) else n) l
/-- words of 64 bits. -/
def M64 : Nat := 18446744073709551616
def notN (x : Nat) : Nat := 18446744073709551615 - x
def rotN (x n : Nat) : Nat := ((x <<< (64 - n)) % 18446744073709551616) ||| (x >>> n)
def sigN (x a b : Nat) : Nat := (x ^^^ rotN x a) ^^^ rotN x b
structure W5 where
  a : Nat
  b : Nat
  c : Nat
  d : Nat
  e : Nat
def roundN (k : Nat) : W5 → W5
  | ⟨a, b, c, d, e⟩ => step2 (a ^^^ e) b ((c ^^^ k) ^^^ b) d (e ^^^ d)
where
  step2 (a b c d e : Nat) : W5 := step3 (a ^^^ (notN b &&& c)) (b ^^^ (notN c &&& d)) (c ^^^ (notN d &&& e)) (d ^^^ (notN e &&& a)) (e ^^^ (notN a &&& b))
  step3 (a b c d e : Nat) : W5 := step4 (a ^^^ e) (b ^^^ a) (notN c) (d ^^^ c) e
  step4 (a b c d e : Nat) : W5 := ⟨sigN a 19 28, sigN b 61 39, sigN c 1 6, sigN d 10 17, sigN e 7 41⟩
/-- a number as a word. -/
def wU (x : Int) : Nat := (x % 18446744073709551616).toNat
def kR (r : Int) : Nat := wU (IntKind.i64.wrap (240 - IntKind.i64.wrap (15 * r)))
def turnR : Nat → Int → W5 → W5
  | 0, _, x => x
  | n + 1, r, x => turnR n (r + 1) (roundN (kR r) x)
def turnN (x : W5) : W5 := turnR 12 0 x
def wordN : List Nat → Nat → Nat
  | [], n => n
  | c :: l, n => wordN l (((n <<< 8) % 18446744073709551616) ||| c)
def w5 (l : List Int) : W5 := ⟨wU (l.getD 0 0), wU (l.getD 1 0), wU (l.getD 2 0), wU (l.getD 3 0), wU (l.getD 4 0)⟩
def w5L (x : W5) : List Int := [x.a, x.b, x.c, x.d, x.e].map fun n : Nat => (n : Int)
/-- bytes, eight at a time, taken in. -/
def absorbN : Nat → List Nat → W5 → W5
  | 0, _, x => x
  | k + 1, l, x => match l with
    | [] => x
    | l => absorbN k (l.drop 8) (turnN ⟨x.a ^^^ wordN (l.take 8) 0, x.b, x.c, x.d, x.e⟩)
def bytesN (x : Nat) : List Nat := [x >>> 56, x >>> 48, x >>> 40, x >>> 32, x >>> 24, x >>> 16, x >>> 8, x].map (· % 256)
def squeezeN (x : W5) : List Nat := bytesN x.a ++ (bytesN (turnN x).a ++ (bytesN (turnN (turnN x)).a ++ bytesN (turnN (turnN (turnN x))).a))
def padN (l : List Nat) : List Nat := (l ++ [128]) ++ List.replicate ((7 - l.length % 8)) 0
/-- the sum of bytes. -/
def sumN (l : List Nat) : List Nat := squeezeN (absorbN ((padN l).length / 8) (padN l) (turnN ⟨32, 0, 0, 0, 0⟩))
def sumM (l : List Int) : List Int := (sumN (l.map wU)).map fun n : Nat => (n : Int)
/-- noughts behind, till there are eight at a time. -/
def padI (l : List Int) : List Int := l ++ List.replicate ((8 - l.length % 8) % 8) 0

/-! ### derived sums, keys, boxes, signatures -/
def deriveM (h label p : List Int) : List Int := sumM (h ++ ((label.length : Int) :: (label ++ p)))
def zero32 : List Int := List.replicate 32 0
def fourM (n : Int) : List Int := [24, 16, 8, 0].map fun s : Nat => IntKind.u8.wrap (n.fdiv (2 ^ s))
def firstN (m : Nat) (a : List Int) : Nat := wordN ((cutJ 8 a).map wU) 0 % m
/-- a sum as a secret, as a number. -/
def scalM (a : List Int) : Int := ((firstN 1073741788 a + 1 : Nat) : Int)
def numbM (a : List Int) : Int := ((firstN 1073741789 a : Nat) : Int)
def xorB (x y : Int) : Int := ((wU x ^^^ wU y : Nat) : Int)
def lStream : List Int := [115, 116, 114, 101, 97, 109]
def lTag : List Int := [116, 97, 103]
def lShare : List Int := [115, 104, 97, 114, 101]
def lNonce : List Int := [110, 111, 110, 99, 101]
def lSign : List Int := [115, 105, 103, 110]
def lView : List Int := [118, 105, 101, 119]
def lTree : List Int := [116, 114, 101, 101]
def mixM (s p : List Int) : List Int := (List.range p.length).map fun i => xorB (p.getD i 0) ((deriveM s lStream (fourM ((i / 32 : Nat) : Int))).getD (i % 32) 0)
def shareM (y x : Int) : List Int := deriveM zero32 lShare (fourM (powM y x))
def tagM (s own body : List Int) : List Int := (deriveM s lTag (own ++ body)).take 8
/-- a box: to a public key, by a draw. -/
def boxM (pub : Int) (draw p : List Int) : List Int :=
  fourM (powM 4 (scalM draw)) ++ (tagM (shareM pub (scalM draw)) (fourM (powM 4 (scalM draw))) (mixM (shareM pub (scalM draw)) p) ++ mixM (shareM pub (scalM draw)) p)
def openOk (x : Int) (b : List Int) : Bool := (isM (wordI (b.take 4)) == 1) && (tagM (shareM (wordI (b.take 4)) x) (b.take 4) (b.drop 12) == (b.drop 4).take 8)
def openM (x : Int) (b : List Int) : List Int := mixM (shareM (wordI (b.take 4)) x) (b.drop 12)
def challM (r y : Int) (p : List Int) : Int := numbM (deriveM zero32 lSign (fourM r ++ (fourM y ++ p)))
def signM (x : Int) (p : List Int) : List Int :=
  [challM (powM 4 (scalM (deriveM zero32 lNonce (fourM x ++ p)))) (powM 4 x) p, (IntKind.i64.wrap (scalM (deriveM zero32 lNonce (fourM x ++ p)) + IntKind.i64.wrap (challM (powM 4 (scalM (deriveM zero32 lNonce (fourM x ++ p)))) (powM 4 x) p * x))).tmod 1073741789]
def verM (y e s : Int) (p : List Int) : Bool :=
  (isM y == 1) && (0 ≤ e && e < 1073741789) && (0 ≤ s && s < 1073741789) && (e == challM (mulM (powM 4 s) (powM y (1073741789 - e))) y p)
def treeHashM (t : List Int) : List Int := deriveM zero32 lTree (numsM (cutJ 31 t))
def viewHashM (v : List Int) : List Int := deriveM (cutJ 32 (v.drop 41)) lView (numsM [v.getD 0 0, v.getD 40 0] ++ (cutJ 8 (v.drop 32) ++ treeHashM (v.drop 1)))

/-! ### the table -/
/-- how many numbers, and of which kind, a function of the table gives. -/
def shapeJ : Nat → Option Nat × Option IntKind
  | 1 => (some 1, some .i64) | 2 => (some 1, some .i64) | 3 => (some 1, some .i64) | 4 => (some 1, some .i64)
  | 10 => (some 8, some .u8) | 11 => (some 32, some .u8) | 12 => (some 5, some .u64) | 13 => (some 5, some .u64) | 14 => (some 1, some .u64) | 15 => (none, some .u8) | 16 => (none, some .u8) | 17 => (none, some .u8) | 19 => (some 1, none) | 20 => (some 1, some .i64)
  | 21 => (some 1, some .i64) | 22 => (some 1, none) | 25 => (some 1, none) | 28 => (some 1, none) | 35 => (some 1, none) | 38 => (some 1, none) | 31 => (some 1, none) | 41 => (some 1, none) | 30 => (none, some .i64)
  | 59 => (some 1, none) | 62 => (some 1, some .i64) | 64 => (none, some .i64) | 77 => (some 32, some .u8)
  | 50 => (none, some .i64) | 52 => (some 5, some .u64) | 53 => (some 5, some .u64) | 55 => (some 5, some .u64) | 101 => (some 1, some .i64) | 102 => (some 1, some .i64) | 103 => (none, some .u8) | 104 => (none, some .u8) | 105 => (some 1, none) | 106 => (none, some .u8) | 107 => (some 2, some .i64) | 108 => (some 1, none) | 109 => (some 32, some .u8) | 110 => (some 32, some .u8) | 111 => (some 4, some .u8) | 112 => (some 32, some .u8) | 51 => (some 1, some .i64) | 90 => (some 35, some .i64) | 91 => (some 8, none) | 92 => (some 32, some .u8) | 94 => (some 32, some .u8) | 95 => (some 1, none)
  | 80 => (some 8, some .i64) | 81 => (some 32, some .u8) | 84 => (some 1, none)
  | _ => (none, none)
def J0 (f : Nat) (a : List Int) (as : List (List Int)) : List Int := match f with
  | 1 => [mulM (a.getD 0 0) (a.getD 1 0)]
  | 2 => [powM (a.getD 0 0) (a.getD 1 0)]
  | 3 => [powL 62 (a.getD 0 0) (a.getD 1 0).toNat (a.getD 2 0)]
  | 4 => [isM (a.getD 0 0)]
  | 10 => numM (a.getD 0 0)
  | 11 => sumM a
  | 12 => w5L (turnN (w5 a))
  | 13 => w5L (roundN (kR (a.getD 0 0)) (w5 (a.drop 1)))
  | 52 => w5L (turnR (12 - a.getD 0 0).toNat (a.getD 0 0) (w5 (a.drop 1)))
  | 14 => [(wordN (a.map wU) 0 : Nat)]
  | 53 => w5L (absorbN ((a.length - 5) / 8) ((a.drop 5).map wU) (w5 a))
  | 54 => padI a
  | 101 => [scalM a]
  | 102 => [numbM a]
  | 103 => mixM (a.take 32) (a.drop 32)
  | 104 => boxM (a.getD 0 0) ((a.drop 1).take 32) (a.drop 33)
  | 105 => [fl (openOk (a.getD 0 0) (a.drop 1))]
  | 106 => openM (a.getD 0 0) (a.drop 1)
  | 107 => signM (a.getD 0 0) (a.drop 1)
  | 108 => [fl (verM (a.getD 0 0) (a.getD 1 0) (a.getD 2 0) (a.drop 3))]
  | 109 => viewHashM a
  | 110 => treeHashM a
  | 111 => fourM (a.getD 0 0)
  | 112 => shareM (a.getD 0 0) (a.getD 1 0)
  | 55 => w5L (absorbN (a.length / 8) (a.map wU) (turnN ⟨32, 0, 0, 0, 0⟩))
  | 15 => numsM a
  | 16 => opsM as
  | 17 => votesM as
  | 18 => boxesM as
  | 19 => [bigN (a.getD 0 0) as]
  | 20 => [toNumI a]
  | 21 => [(rrN (a.getD 0 0) (rdOf (a.getD 1 0) (a.drop 2))).1]
  | 22 => [fl (rrN (a.getD 0 0) (rdOf (a.getD 1 0) (a.drop 2))).2.1]
  | 23 => (rrN (a.getD 0 0) (rdOf (a.getD 1 0) (a.drop 2))).2.2
  | 25 => [fl (rrRows (as.getD 0 []) (a.getD 0 0).toNat (rdOf (a.getD 1 0) (a.drop 2))).2.1]
  | 26 => (rrRows (as.getD 0 []) (a.getD 0 0).toNat (rdOf (a.getD 1 0) (a.drop 2))).2.2
  | 28 => [fl (rrBoxes 300 (a.getD 0 0).toNat (rdOf (a.getD 1 0) (a.drop 2))).2.1]
  | 29 => (rrBoxes 300 (a.getD 0 0).toNat (rdOf (a.getD 1 0) (a.drop 2))).2.2
  | 30 => (rrRow (as.getD 0 []) (rdOf (a.getD 0 0) (a.drop 1))).1
  | 31 => [fl (rrRow (as.getD 0 []) (rdOf (a.getD 0 0) (a.drop 1))).2.1]
  | 32 => (rrRow (as.getD 0 []) (rdOf (a.getD 0 0) (a.drop 1))).2.2
  | 40 => (rrBox (a.getD 0 0) (rdOf (a.getD 1 0) (a.drop 2))).1
  | 41 => [fl (rrBox (a.getD 0 0) (rdOf (a.getD 1 0) (a.drop 2))).2.1]
  | 42 => (rrBox (a.getD 0 0) (rdOf (a.getD 1 0) (a.drop 2))).2.2
  | 35 => [fl (crRows (as.getD 0 []) (a.getD 0 0).toNat (rdOf (a.getD 1 0) (a.drop 2))).2.1]
  | 36 => (crRows (as.getD 0 []) (a.getD 0 0).toNat (rdOf (a.getD 1 0) (a.drop 2))).2.2
  | 38 => [fl (crBoxes 9223372036854775807 (a.getD 0 0).toNat (rdOf (a.getD 1 0) (a.drop 2))).2.1]
  | 39 => (crBoxes 9223372036854775807 (a.getD 0 0).toNat (rdOf (a.getD 1 0) (a.drop 2))).2.2
  | 59 => [a.getD 0 0]
  | 60 => a.drop 1
  | 61 => stS (rrN (a.getD 0 0) (rdS (a.drop 1))).2
  | 62 => [(rrN (a.getD 0 0) (rdS (a.drop 1))).1]
  | 63 => stS (rrRow (as.getD 0 []) (rdS a)).2
  | 64 => (rrRow (as.getD 0 []) (rdS a)).1
  | 66 => stS (rrRows (as.getD 0 []) (a.getD 0 0).toNat (rdS (a.drop 1))).2
  | 68 => stS (crRows (as.getD 0 []) (a.getD 0 0).toNat (rdS (a.drop 1))).2
  | 70 => stS (rrBoxes 300 (a.getD 0 0).toNat (rdS (a.drop 1))).2
  | 72 => stS (crBoxes 9223372036854775807 (a.getD 0 0).toNat (rdS (a.drop 1))).2
  | 73 => (rrBox (a.getD 0 0) (rdS (a.drop 1))).1
  | 74 => stS (rrBox (a.getD 0 0) (rdS (a.drop 1))).2
  | 75 => stS (rrT (a.getD 0 0) (rdS (a.drop 1))).2
  | 76 => (rrT (a.getD 0 0) (rdS (a.drop 1))).1
  | 77 => (rrT 32 (rdS a)).1
  | 80 => let c := (dec limP a).1; [c.e, c.f, c.p, c.p0, c.p1, c.p2, c.sE, c.sS]
  | 81 => (dec limP a).1.tag
  | 84 => [fl (decOk a)]
  | 50 => resM (a.getD 0 0).toNat (a.drop 1)
  | 51 => [cntU (a.getD 0 0) (a.getD 1 0) (a.drop 2)]
  | 90 => numsW (decW limWP a).1
  | 91 => (decW limWP a).1.fl
  | 92 => (decW limWP a).1.chain
  | 93 => (decW limWP a).1.box
  | 94 => (decW limWP a).1.tag
  | 95 => [fl (decW limWP a).2.1]
  | _ => []
def J (f : Nat) (a : List Int) (as : List (List Int)) : List Int :=
  let r := match (shapeJ f).2 with
    | some k => (J0 f a as).map k.wrap
    | none => J0 f a as
  match (shapeJ f).1 with
  | some n => cutJ n r
  | none => r
def JJ (f : Nat) (a : List Int) (as : List (List Int)) : List (List Int) := match f with
  | 24 => (rrRows (as.getD 0 []) (a.getD 0 0).toNat (rdOf (a.getD 1 0) (a.drop 2))).1
  | 27 => (rrBoxes 300 (a.getD 0 0).toNat (rdOf (a.getD 1 0) (a.drop 2))).1
  | 34 => (crRows (as.getD 0 []) (a.getD 0 0).toNat (rdOf (a.getD 1 0) (a.drop 2))).1
  | 37 => (crBoxes 9223372036854775807 (a.getD 0 0).toNat (rdOf (a.getD 1 0) (a.drop 2))).1
  | 65 => (rrRows (as.getD 0 []) (a.getD 0 0).toNat (rdS (a.drop 1))).1
  | 67 => (crRows (as.getD 0 []) (a.getD 0 0).toNat (rdS (a.drop 1))).1
  | 69 => (rrBoxes 300 (a.getD 0 0).toNat (rdS (a.drop 1))).1
  | 71 => (crBoxes 9223372036854775807 (a.getD 0 0).toNat (rdS (a.drop 1))).1
  | 82 => (dec limP a).1.ops
  | 83 => (dec limP a).1.vos
  | 85 => (dec limP a).1.bxs
  | _ => []
theorem J_len {f n : Nat} (h : (shapeJ f).1 = some n) (a : List Int) (as : List (List Int)) : (J f a as).length = n := by
  unfold J; simp only [h, cutJ, List.length_map, List.length_range]
theorem J_mem {f : Nat} {k : IntKind} (h : (shapeJ f).2 = some k) (a : List Int) (as : List (List Int)) (i : Nat) : ∃ x, (J f a as).getD i 0 = k.wrap x := by
  have hz : k.wrap 0 = 0 := by cases k <;> rfl
  have hr : ∀ i, ∃ x, ((J0 f a as).map k.wrap).getD i 0 = k.wrap x := fun i => by
    rw [List.getD, List.getElem?_map]
    cases (J0 f a as)[i]? with
    | none => exact ⟨0, hz.symm⟩
    | some y => exact ⟨y, rfl⟩
  unfold J
  simp only [h]
  cases (shapeJ f).1 with
  | none => exact hr i
  | some n =>
    simp only [cutJ]
    rw [List.getD, List.getElem?_map]
    by_cases hi : i < n
    · rw [List.getElem?_range hi]; exact hr i
    · rw [List.getElem?_eq_none (by simpa using hi)]; exact ⟨0, hz.symm⟩
/-- a key's cells: its secret; was it asked for? lock; public key, or nought; made, uses. -/
def keyCs (s d p m u : Int) : List Value := [.int .i64 s, .int .u32 d, .int .i32 0, .int .u32 0, .int .i64 p, .int .u32 m, .int .i64 u]
def keyRule (s d p : Int) : Prop := (d = 0 ∧ p = 0) ∨ (d = 1 ∧ p = powM 4 s)
/-- what stands in a block that keeps a rule of its own: a key. -/
def KI (kv : Nat → Option (Nat × Int)) (c : Nat) (s : Int) (o : Obj) : Prop := ∃ d p m u cur rest, o = .cells cur c (0, 0) ∧ cur.toList = keyCs s d p m u ++ rest ∧ keyRule s d p
theorem KI.mono {kv kv' : Nat → Option (Nat × Int)} (h : ∀ b x, kv b = some x → kv' b = some x) {c : Nat} {s : Int} {o : Obj} (hk : KI kv c s o) : KI kv' c s o := hk
end Go.Proofs.YtmckhoaekbeijaaGreat.E
/- Letters: expressions of numbers, rows of numbers, rows of rows, truths; what they mean. Plain Lean over the kit's model; no program. -/
namespace Go.Proofs.YtmckhoaekbeijaaGreat.E
open Go Go.RowKit
set_option linter.unusedVariables false

mutual
inductive E where
  | lit (n : Int)
  | var (i : Nat)
  | ix
  | bin (o : BinOp) (k : IntKind) (a b : E)
  | un (o : UnOp) (k : IntKind) (a : E)
  | conv (k : IntKind) (a : E)
  | get (l : L) (i : E)
  | len (l : L)
  | cnt (l : LL)
  | ofB (b : B)
  | ite (b : B) (x y : E)
  | find (n : E) (p : B)
  deriving Inhabited
inductive L where
  | nil
  | cons (e : E) (l : L)
  | var (i : Nat)
  | at (l : LL) (i : E)
  | cat (a b : L)
  | cut (l : L) (lo hi : E)
  | sub (l : L) (off n : Nat)
  | set (l : L) (i x : E)
  | rep (n x : E)
  | byt (l : L)
  | app (f : Nat) (a : L) (as : LL)
  | ite (b : B) (x y : L)
  | join (ls : LL)
  deriving Inhabited
inductive LL where
  | nil
  | cons (l : L) (ls : LL)
  | var (i : Nat)
  | cat (a b : LL)
  | app (f : Nat) (a : L) (as : LL)
  | ite (b : B) (x y : LL)
  | set (ls : LL) (i : E) (l : L)
  | cut (ls : LL) (lo hi : E)
  | chunk (k : Nat) (l : L)
  deriving Inhabited
inductive B where
  | lit (b : Bool)
  | var (i : Nat)
  | lt (a b : E)
  | eq (a b : E)
  | leq (a b : L)
  | seq (a b : L)
  | not (a : B)
  | and (a b : B)
  deriving Inhabited
end

/-- what letters stand for. -/
structure Env where
  e : Nat → Int
  l : Nat → List Int
  ll : Nat → List (List Int)
  b : Nat → Bool
  ix : Int

/-- less, equal: in a form that reckons well. -/
def ltb : Int → Int → Bool
  | .ofNat a, .ofNat b => Nat.blt a b
  | .ofNat _, .negSucc _ => false
  | .negSucc _, .ofNat _ => true
  | .negSucc a, .negSucc b => Nat.blt b a
def eqb : Int → Int → Bool
  | .ofNat a, .ofNat b => Nat.beq a b
  | .negSucc a, .negSucc b => Nat.beq a b
  | _, _ => false
theorem ltb_eq (a b : Int) : ltb a b = decide (a < b) := by
  cases a <;> cases b <;> simp only [ltb] <;> (rw [Bool.eq_iff_iff]; simp [Nat.blt]; try omega)
theorem eqb_eq (a b : Int) : eqb a b = (a == b) := by
  cases a <;> cases b <;> simp only [eqb] <;> (rw [Bool.eq_iff_iff]; simp; try omega)
def eqL (a b : List Int) : Bool := decide (a = b)
/-- as bytes. -/
def byte (i : Int) : Int := ((UInt8.ofNat i.toNat).toNat : Nat)
def eqS (a b : List Int) : Bool := decide (a.map byte = b.map byte)

/-- what an operation gives of two numbers. -/
def binI (o : BinOp) (k : IntKind) (a b : Int) : Int := match o with
  | .add => k.wrap (a + b)
  | .sub => k.wrap (a - b)
  | .mul => k.wrap (a * b)
  | .quo => k.wrap (a.tdiv b)
  | .rem => a.tmod b
  | .and => k.wrap (BitVec.ofInt k.bits a &&& BitVec.ofInt k.bits b).toNat
  | .or => k.wrap (BitVec.ofInt k.bits a ||| BitVec.ofInt k.bits b).toNat
  | .xor => k.wrap (BitVec.ofInt k.bits a ^^^ BitVec.ofInt k.bits b).toNat
  | .andNot => k.wrap (BitVec.ofInt k.bits a &&& ~~~BitVec.ofInt k.bits b).toNat
  | .shl => k.wrap (a * 2 ^ (min b.toNat k.bits))
  | .shr => a.fdiv (2 ^ (min b.toNat k.bits))
  | _ => 0
def unI (o : UnOp) (k : IntKind) (a : Int) : Int := match o with
  | .neg => k.wrap (0 - a)
  | .xor => k.wrap (BitVec.ofInt k.bits (if k.signed then -1 else k.max) ^^^ BitVec.ofInt k.bits a).toNat
  | _ => a
def b2i (b : Bool) : Int := bif b then 1 else 0
def Env.at (ρ : Env) (i : Int) : Env := { ρ with ix := i }
/-- the first one from 'j' on of which it is so; behind so many: none. -/
def findI (p : Nat → Bool) : Nat → Nat → Nat
  | 0, j => j
  | k + 1, j => bif p j then j else findI p k (j + 1)
def subL (l : List Int) (off n : Nat) : List Int := (List.range n).map fun i => l.getD (off + i) 0

/-- so many at a time. -/
def chunkL (k : Nat) (l : List Int) : List (List Int) := (List.range (l.length / k)).map fun i => subL l (i * k) k
mutual
def E.den (ρ : Env) (a : E) : Int := match a with
  | .lit n => n
  | .var i => ρ.e i
  | .ix => ρ.ix
  | .bin o k a b => binI o k (a.den ρ) (b.den ρ)
  | .un o k a => unI o k (a.den ρ)
  | .conv k a => k.wrap (a.den ρ)
  | .get l i => (l.den ρ).getD (i.den ρ).toNat 0
  | .len l => ((l.den ρ).length : Nat)
  | .cnt l => ((l.den ρ).length : Nat)
  | .ofB b => b2i (b.den ρ)
  | .ite b x y => bif b.den ρ then x.den ρ else y.den ρ
  | .find n p => (findI (fun i => p.den (ρ.at i)) (n.den ρ).toNat 0 : Nat)
termination_by structural a
def L.den (ρ : Env) (a : L) : List Int := match a with
  | .nil => []
  | .cons e l => e.den ρ :: l.den ρ
  | .var i => ρ.l i
  | .at l i => (l.den ρ).getD (i.den ρ).toNat []
  | .cat a b => a.den ρ ++ b.den ρ
  | .cut l lo hi => ((l.den ρ).take (hi.den ρ).toNat).drop (lo.den ρ).toNat
  | .sub l off n => subL (l.den ρ) off n
  | .set l i x => (l.den ρ).set (i.den ρ).toNat (x.den ρ)
  | .rep n x => List.replicate (n.den ρ).toNat (x.den ρ)
  | .byt l => (l.den ρ).map byte
  | .app f a as => J f (a.den ρ) (as.den ρ)
  | .ite b x y => bif b.den ρ then x.den ρ else y.den ρ
  | .join ls => (ls.den ρ).flatten
termination_by structural a
def LL.den (ρ : Env) (a : LL) : List (List Int) := match a with
  | .nil => []
  | .cons l ls => l.den ρ :: ls.den ρ
  | .var i => ρ.ll i
  | .cat a b => a.den ρ ++ b.den ρ
  | .app f a as => JJ f (a.den ρ) (as.den ρ)
  | .ite b x y => bif b.den ρ then x.den ρ else y.den ρ
  | .set l i x => (l.den ρ).set (i.den ρ).toNat (x.den ρ)
  | .cut l lo hi => ((l.den ρ).take (hi.den ρ).toNat).drop (lo.den ρ).toNat
  | .chunk k l => chunkL k (l.den ρ)
termination_by structural a
def B.den (ρ : Env) (a : B) : Bool := match a with
  | .lit b => b
  | .var i => ρ.b i
  | .lt a b => ltb (a.den ρ) (b.den ρ)
  | .eq a b => eqb (a.den ρ) (b.den ρ)
  | .leq a b => eqL (a.den ρ) (b.den ρ)
  | .seq a b => eqS (a.den ρ) (b.den ρ)
  | .not a => !a.den ρ
  | .and a b => a.den ρ && b.den ρ
termination_by structural a
end

/-! ### alike in writing -/
def opN : BinOp → Nat
  | .add => 0 | .sub => 1 | .mul => 2 | .quo => 3 | .rem => 4 | .and => 5 | .or => 6 | .xor => 7 | .shl => 8 | .shr => 9 | .andNot => 10
  | .eql => 11 | .neq => 12 | .lss => 13 | .leq => 14 | .gtr => 15 | .geq => 16
theorem opN_inj {a b : BinOp} (h : Nat.beq (opN a) (opN b) = true) : a = b := by cases a <;> cases b <;> first | rfl | (exact absurd h (by decide))
def unN : UnOp → Nat
  | .neg => 0 | .xor => 1 | .not => 2 | .plus => 3
theorem unN_inj {a b : UnOp} (h : Nat.beq (unN a) (unN b) = true) : a = b := by cases a <;> cases b <;> first | rfl | (exact absurd h (by decide))
def kN : IntKind → Nat
  | .i8 => 0 | .i16 => 1 | .i32 => 2 | .i64 => 3 | .u8 => 4 | .u16 => 5 | .u32 => 6 | .u64 => 7
theorem kN_inj {a b : IntKind} (h : Nat.beq (kN a) (kN b) = true) : a = b := by cases a <;> cases b <;> first | rfl | (exact absurd h (by decide))
def iN : Int → Int → Bool := eqb
theorem iN_inj {a b : Int} (h : iN a b = true) : a = b := by unfold iN at h; rw [eqb_eq] at h; exact eq_of_beq h
def bN : Bool → Bool → Bool
  | true, b => b
  | false, b => !b
theorem bN_inj {a b : Bool} (h : bN a b = true) : a = b := by cases a <;> cases b <;> first | rfl | cases h

mutual
def E.same (a b : E) : Bool := match a, b with
  | .lit a, .lit b => iN a b
  | .var a, .var b => Nat.beq a b
  | .ix, .ix => true
  | .bin o k a b, .bin o' k' a' b' => Nat.beq (opN o) (opN o') && Nat.beq (kN k) (kN k') && a.same a' && b.same b'
  | .un o k a, .un o' k' a' => Nat.beq (unN o) (unN o') && Nat.beq (kN k) (kN k') && a.same a'
  | .conv k a, .conv k' a' => Nat.beq (kN k) (kN k') && a.same a'
  | .get l i, .get l' i' => l.same l' && i.same i'
  | .len l, .len l' => l.same l'
  | .cnt l, .cnt l' => l.same l'
  | .ofB b, .ofB b' => b.same b'
  | .ite b x y, .ite b' x' y' => b.same b' && x.same x' && y.same y'
  | .find n p, .find n' p' => n.same n' && p.same p'
  | _, _ => false
termination_by structural a
def L.same (a b : L) : Bool := match a, b with
  | .nil, .nil => true
  | .cons e l, .cons e' l' => e.same e' && l.same l'
  | .var a, .var b => Nat.beq a b
  | .at l i, .at l' i' => l.same l' && i.same i'
  | .cat a b, .cat a' b' => a.same a' && b.same b'
  | .cut a b c, .cut a' b' c' => a.same a' && b.same b' && c.same c'
  | .sub a b c, .sub a' b' c' => a.same a' && Nat.beq b b' && Nat.beq c c'
  | .set a b c, .set a' b' c' => a.same a' && b.same b' && c.same c'
  | .rep a b, .rep a' b' => a.same a' && b.same b'
  | .byt a, .byt a' => a.same a'
  | .app f a as, .app f' a' as' => Nat.beq f f' && a.same a' && as.same as'
  | .ite b x y, .ite b' x' y' => b.same b' && x.same x' && y.same y'
  | .join a, .join a' => a.same a'
  | _, _ => false
termination_by structural a
def LL.same (a b : LL) : Bool := match a, b with
  | .nil, .nil => true
  | .cons e l, .cons e' l' => e.same e' && l.same l'
  | .var a, .var b => Nat.beq a b
  | .cat a b, .cat a' b' => a.same a' && b.same b'
  | .app f a as, .app f' a' as' => Nat.beq f f' && a.same a' && as.same as'
  | .ite b x y, .ite b' x' y' => b.same b' && x.same x' && y.same y'
  | .set a b c, .set a' b' c' => a.same a' && b.same b' && c.same c'
  | .cut a b c, .cut a' b' c' => a.same a' && b.same b' && c.same c'
  | .chunk k a, .chunk k' a' => Nat.beq k k' && a.same a'
  | _, _ => false
termination_by structural a
def B.same (a b : B) : Bool := match a, b with
  | .lit a, .lit b => bN a b
  | .var a, .var b => Nat.beq a b
  | .lt a b, .lt a' b' => a.same a' && b.same b'
  | .eq a b, .eq a' b' => a.same a' && b.same b'
  | .leq a b, .leq a' b' => a.same a' && b.same b'
  | .seq a b, .seq a' b' => a.same a' && b.same b'
  | .not a, .not a' => a.same a'
  | .and a b, .and a' b' => a.same a' && b.same b'
  | _, _ => false
termination_by structural a
end

set_option maxHeartbeats 1000000 in
mutual
theorem E.same_ok : ∀ {a b : E}, a.same b = true → a = b := by
  intro a b h
  cases a <;> cases b <;> first
    | (simp only [E.same] at h; cases h; done)
    | (simp only [E.same, Bool.and_eq_true] at h)
  · rw [iN_inj h]
  · rw [Nat.eq_of_beq_eq_true h]
  · rfl
  · rw [opN_inj h.1.1.1, kN_inj h.1.1.2, E.same_ok h.1.2, E.same_ok h.2]
  · rw [unN_inj h.1.1, kN_inj h.1.2, E.same_ok h.2]
  · rw [kN_inj h.1, E.same_ok h.2]
  · rw [L.same_ok h.1, E.same_ok h.2]
  · rw [L.same_ok h]
  · rw [LL.same_ok h]
  · rw [B.same_ok h]
  · rw [B.same_ok h.1.1, E.same_ok h.1.2, E.same_ok h.2]
  · rw [E.same_ok h.1, B.same_ok h.2]
theorem L.same_ok : ∀ {a b : L}, a.same b = true → a = b := by
  intro a b h
  cases a <;> cases b <;> first
    | (simp only [L.same] at h; cases h; done)
    | (simp only [L.same, Bool.and_eq_true] at h)
  · rfl
  · rw [E.same_ok h.1, L.same_ok h.2]
  · rw [Nat.eq_of_beq_eq_true h]
  · rw [LL.same_ok h.1, E.same_ok h.2]
  · rw [L.same_ok h.1, L.same_ok h.2]
  · rw [L.same_ok h.1.1, E.same_ok h.1.2, E.same_ok h.2]
  · rw [L.same_ok h.1.1, Nat.eq_of_beq_eq_true h.1.2, Nat.eq_of_beq_eq_true h.2]
  · rw [L.same_ok h.1.1, E.same_ok h.1.2, E.same_ok h.2]
  · rw [E.same_ok h.1, E.same_ok h.2]
  · rw [L.same_ok h]
  · rw [Nat.eq_of_beq_eq_true h.1.1, L.same_ok h.1.2, LL.same_ok h.2]
  · rw [B.same_ok h.1.1, L.same_ok h.1.2, L.same_ok h.2]
  · rw [LL.same_ok h]
theorem LL.same_ok : ∀ {a b : LL}, a.same b = true → a = b := by
  intro a b h
  cases a <;> cases b <;> first
    | (simp only [LL.same] at h; cases h; done)
    | (simp only [LL.same, Bool.and_eq_true] at h)
  · rfl
  · rw [L.same_ok h.1, LL.same_ok h.2]
  · rw [Nat.eq_of_beq_eq_true h]
  · rw [LL.same_ok h.1, LL.same_ok h.2]
  · rw [Nat.eq_of_beq_eq_true h.1.1, L.same_ok h.1.2, LL.same_ok h.2]
  · rw [B.same_ok h.1.1, LL.same_ok h.1.2, LL.same_ok h.2]
  · rw [LL.same_ok h.1.1, E.same_ok h.1.2, L.same_ok h.2]
  · rw [LL.same_ok h.1.1, E.same_ok h.1.2, E.same_ok h.2]
  · rw [Nat.eq_of_beq_eq_true h.1, L.same_ok h.2]
theorem B.same_ok : ∀ {a b : B}, a.same b = true → a = b := by
  intro a b h
  cases a <;> cases b <;> first
    | (simp only [B.same] at h; cases h; done)
    | (simp only [B.same, Bool.and_eq_true] at h)
  · rw [bN_inj h]
  · rw [Nat.eq_of_beq_eq_true h]
  · rw [E.same_ok h.1, E.same_ok h.2]
  · rw [E.same_ok h.1, E.same_ok h.2]
  · rw [L.same_ok h.1, L.same_ok h.2]
  · rw [L.same_ok h.1, L.same_ok h.2]
  · rw [B.same_ok h]
  · rw [B.same_ok h.1, B.same_ok h.2]
end

/-! ### another index -/
mutual
def E.inst (a : E) (x : E) : E := match a with
  | .lit n => .lit n
  | .var i => .var i
  | .ix => x
  | .bin o k a b => .bin o k (a.inst x) (b.inst x)
  | .un o k a => .un o k (a.inst x)
  | .conv k a => .conv k (a.inst x)
  | .get l i => .get (l.inst x) (i.inst x)
  | .len l => .len (l.inst x)
  | .cnt l => .cnt (l.inst x)
  | .ofB b => .ofB (b.inst x)
  | .ite b u v => .ite (b.inst x) (u.inst x) (v.inst x)
  | .find n p => .find (n.inst x) p
termination_by structural a
def L.inst (a : L) (x : E) : L := match a with
  | .nil => .nil
  | .cons e l => .cons (e.inst x) (l.inst x)
  | .var i => .var i
  | .at l i => .at (l.inst x) (i.inst x)
  | .cat a b => .cat (a.inst x) (b.inst x)
  | .cut l lo hi => .cut (l.inst x) (lo.inst x) (hi.inst x)
  | .sub l off n => .sub (l.inst x) off n
  | .set l i u => .set (l.inst x) (i.inst x) (u.inst x)
  | .rep n u => .rep (n.inst x) (u.inst x)
  | .byt l => .byt (l.inst x)
  | .app f a as => .app f (a.inst x) (as.inst x)
  | .ite b u v => .ite (b.inst x) (u.inst x) (v.inst x)
  | .join ls => .join (ls.inst x)
termination_by structural a
def LL.inst (a : LL) (x : E) : LL := match a with
  | .nil => .nil
  | .cons l ls => .cons (l.inst x) (ls.inst x)
  | .var i => .var i
  | .cat a b => .cat (a.inst x) (b.inst x)
  | .app f a as => .app f (a.inst x) (as.inst x)
  | .ite b u v => .ite (b.inst x) (u.inst x) (v.inst x)
  | .set l i u => .set (l.inst x) (i.inst x) (u.inst x)
  | .cut l lo hi => .cut (l.inst x) (lo.inst x) (hi.inst x)
  | .chunk k l => .chunk k (l.inst x)
termination_by structural a
def B.inst (a : B) (x : E) : B := match a with
  | .lit b => .lit b
  | .var i => .var i
  | .lt a b => .lt (a.inst x) (b.inst x)
  | .eq a b => .eq (a.inst x) (b.inst x)
  | .leq a b => .leq (a.inst x) (b.inst x)
  | .seq a b => .seq (a.inst x) (b.inst x)
  | .not a => .not (a.inst x)
  | .and a b => .and (a.inst x) (b.inst x)
termination_by structural a
end
mutual
theorem E.inst_den (ρ : Env) (x : E) : ∀ a : E, (a.inst x).den ρ = a.den (ρ.at (x.den ρ))
  | .lit _ | .var _ | .ix => by simp [E.inst, E.den, Env.at]
  | .bin _ _ a b => by simp [E.inst, E.den, E.inst_den ρ x a, E.inst_den ρ x b]
  | .un _ _ a | .conv _ a => by simp [E.inst, E.den, E.inst_den ρ x a]
  | .get l i => by simp [E.inst, E.den, L.inst_den ρ x l, E.inst_den ρ x i]
  | .len l => by simp [E.inst, E.den, L.inst_den ρ x l]
  | .cnt l => by simp [E.inst, E.den, LL.inst_den ρ x l]
  | .ofB b => by simp [E.inst, E.den, B.inst_den ρ x b]
  | .ite b u v => by simp [E.inst, E.den, B.inst_den ρ x b, E.inst_den ρ x u, E.inst_den ρ x v]
  | .find n p => by simp only [E.inst, E.den, E.inst_den ρ x n]; rfl
theorem L.inst_den (ρ : Env) (x : E) : ∀ a : L, (a.inst x).den ρ = a.den (ρ.at (x.den ρ))
  | .nil | .var _ => by simp [L.inst, L.den, Env.at]
  | .cons e l => by simp [L.inst, L.den, E.inst_den ρ x e, L.inst_den ρ x l]
  | .at l i => by simp [L.inst, L.den, LL.inst_den ρ x l, E.inst_den ρ x i]
  | .cat a b => by simp [L.inst, L.den, L.inst_den ρ x a, L.inst_den ρ x b]
  | .cut l lo hi => by simp [L.inst, L.den, L.inst_den ρ x l, E.inst_den ρ x lo, E.inst_den ρ x hi]
  | .sub l _ _ => by simp [L.inst, L.den, L.inst_den ρ x l]
  | .set l i u => by simp [L.inst, L.den, L.inst_den ρ x l, E.inst_den ρ x i, E.inst_den ρ x u]
  | .rep n u => by simp [L.inst, L.den, E.inst_den ρ x n, E.inst_den ρ x u]
  | .byt l => by simp [L.inst, L.den, L.inst_den ρ x l]
  | .app _ a as => by simp [L.inst, L.den, L.inst_den ρ x a, LL.inst_den ρ x as]
  | .ite b u v => by simp [L.inst, L.den, B.inst_den ρ x b, L.inst_den ρ x u, L.inst_den ρ x v]
  | .join ls => by simp [L.inst, L.den, LL.inst_den ρ x ls]
theorem LL.inst_den (ρ : Env) (x : E) : ∀ a : LL, (a.inst x).den ρ = a.den (ρ.at (x.den ρ))
  | .nil | .var _ => by simp [LL.inst, LL.den, Env.at]
  | .cons l ls => by simp [LL.inst, LL.den, L.inst_den ρ x l, LL.inst_den ρ x ls]
  | .cat a b => by simp [LL.inst, LL.den, LL.inst_den ρ x a, LL.inst_den ρ x b]
  | .app _ a as => by simp [LL.inst, LL.den, L.inst_den ρ x a, LL.inst_den ρ x as]
  | .ite b u v => by simp [LL.inst, LL.den, B.inst_den ρ x b, LL.inst_den ρ x u, LL.inst_den ρ x v]
  | .set l i u => by simp [LL.inst, LL.den, LL.inst_den ρ x l, E.inst_den ρ x i, L.inst_den ρ x u]
  | .cut l lo hi => by simp [LL.inst, LL.den, LL.inst_den ρ x l, E.inst_den ρ x lo, E.inst_den ρ x hi]
  | .chunk k l => by simp [LL.inst, LL.den, L.inst_den ρ x l]
theorem B.inst_den (ρ : Env) (x : E) : ∀ a : B, (a.inst x).den ρ = a.den (ρ.at (x.den ρ))
  | .lit _ | .var _ => by simp [B.inst, B.den, Env.at]
  | .lt a b | .eq a b => by simp [B.inst, B.den, E.inst_den ρ x a, E.inst_den ρ x b]
  | .leq a b | .seq a b => by simp [B.inst, B.den, L.inst_den ρ x a, L.inst_den ρ x b]
  | .not a => by simp [B.inst, B.den, B.inst_den ρ x a]
  | .and a b => by simp [B.inst, B.den, B.inst_den ρ x a, B.inst_den ρ x b]
end
end Go.Proofs.YtmckhoaekbeijaaGreat.E
/- Values and stores without addresses, and what they say of a world. Plain Lean over the kit's model; no program. -/
namespace Go.Proofs.YtmckhoaekbeijaaGreat.E
open Go Go.RowKit
set_option linter.unusedVariables false

mutual
/-- A value: letters for numbers; its own memory by names of objects; memory that nobody writes any more by what stands there. -/
inductive V where
  | und
  | sc (x : Value)
  | int (k : IntKind) (e : E)
  | bool (b : B)
  | str (l : L)
  | ptr (id : Nat) (i : E) (z c : Nat)
  | sl (id : Nat) (c : Nat) (off len : E) (z : Nat) (top : Bool)
  | fs (z : Nat) (r : Row)
  | fe (r : Row) (i : E) (z c : Nat)
  | key (c : Nat) (s : E)
  | opt (b : B) (v : V)
  | agg (cs : List V)
  | tup (vs : List V)
  | fn (f : Fn) (first captured : List V)
/-- a row of cells: whichever; numbers of one kind; so many records of a pattern. -/
inductive Row where
  | any (l : List V)
  | ints (k : IntKind) (l : L)
  | recs (z : Nat) (n : E) (t : List V)
end
instance : Inhabited V := ⟨.und⟩
instance : Inhabited Row := ⟨.any []⟩

/-- what letters stand for; blocks that stay, blocks that keep a rule. -/
structure Gm where
  env : Env
  fz : Nat → Option (Array Value)
  kv : Nat → Option (Nat × Int)
def Gm.at (γ : Gm) (i : Int) : Gm := { γ with env := γ.env.at i }
structure Bl where
  b : Nat
  s : Nat
/-- and where objects lie; 'some none': nowhere, it has no cells. -/
structure Bt where
  g : Gm
  nm : Nat → Option (Option Bl)

def strOf (l : List Int) : ByteArray := ⟨(l.map fun i => UInt8.ofNat i.toNat).toArray⟩

mutual
/-- one cell, no names. -/
def F1 (v : V) (γ : Gm) (x : Value) : Prop := match v with
  | .sc y => x = y ∧ y.oneCell' = true
  | .int k e => x = .int k (e.den γ.env)
  | .bool b => x = .bool (b.den γ.env)
  | .str l => x = .string (strOf (l.den γ.env))
  | .fs z r => ∃ xs n c a, x = .slice a n c ∧ n * z = xs.length ∧ n ≤ c ∧ Fr r γ xs ∧ ((n = 0 ∧ c = 0) ∨ ∃ b d, a = some ⟨b, d, none⟩ ∧ (n = 0 ∨ ∃ cs, γ.fz b = some cs ∧ (cs.toList.drop d).take xs.length = xs))
  | .fe r i z c => ∃ xs b d full, x = .pointer (some ⟨b, d + (i.den γ.env).toNat * z + c, none⟩) ∧ Fr r γ xs ∧ γ.fz b = some full ∧ (full.toList.drop d).take xs.length = xs
  | .key c s => ∃ b, x = .pointer (some ⟨b, 0, none⟩) ∧ γ.kv b = some (c, s.den γ.env)
  | .opt b v => (b.den γ.env = true → F1 v γ x) ∧ (b.den γ.env = false → x = .pointer none)
  | _ => False
termination_by structural v
def Fs (vs : List V) (γ : Gm) (xs : List Value) : Prop := match vs, xs with
  | [], [] => True
  | v :: vs, x :: xs => F1 v γ x ∧ Fs vs γ xs
  | _, _ => False
termination_by structural vs
def Fr (r : Row) (γ : Gm) (xs : List Value) : Prop := match r with
  | .any cs => Fs cs γ xs
  | .ints k l => xs = (l.den γ.env).map (.int k)
  | .recs z n t => 0 ≤ n.den γ.env ∧ xs.length = (n.den γ.env).toNat * z ∧ ∀ i : Nat, i < (n.den γ.env).toNat → Fs t (γ.at i) ((xs.drop (i * z)).take z)
termination_by structural r
end

theorem Fs.length : ∀ {vs : List V} {γ : Gm} {xs : List Value}, Fs vs γ xs → vs.length = xs.length
  | [], _, [], _ => rfl
  | _ :: _, _, _ :: _, h => by unfold Fs at h; simp [Fs.length h.2]
  | [], _, _ :: _, h => by unfold Fs at h; exact h.elim
  | _ :: _, _, [], h => by unfold Fs at h; exact h.elim
def F2 (r : V → Value → Prop) : List V → List Value → Prop
  | [], [] => True
  | a :: as, x :: xs => r a x ∧ F2 r as xs
  | _, _ => False

theorem F2.nil {r : V → Value → Prop} : F2 r [] [] := trivial
theorem F2.cons {r : V → Value → Prop} {a x as xs} (h : r a x) (t : F2 r as xs) : F2 r (a :: as) (x :: xs) := ⟨h, t⟩
theorem F2.length {r : V → Value → Prop} : ∀ {as xs}, F2 r as xs → as.length = xs.length
  | [], [], _ => rfl
  | _ :: _, _ :: _, h => by simp [F2.length h.2]
theorem F2.mono {r r' : V → Value → Prop} (hr : ∀ a x, r a x → r' a x) : ∀ {as xs}, F2 r as xs → F2 r' as xs
  | [], [], _ => trivial
  | _ :: _, _ :: _, h => ⟨hr _ _ h.1, F2.mono hr h.2⟩
theorem F2.app {r : V → Value → Prop} : ∀ {as xs bs ys}, F2 r as xs → F2 r bs ys → F2 r (as ++ bs) (xs ++ ys)
  | [], [], _, _, _, h => h
  | _ :: _, _ :: _, _, _, h, h' => ⟨h.1, F2.app h.2 h'⟩
theorem F2.take {r : V → Value → Prop} : ∀ (n : Nat) {as xs}, F2 r as xs → F2 r (as.take n) (xs.take n)
  | 0, _, _, _ => by simp [F2]
  | _ + 1, [], [], _ => trivial
  | n + 1, _ :: _, _ :: _, h => ⟨h.1, F2.take n h.2⟩
theorem F2.drop {r : V → Value → Prop} : ∀ (n : Nat) {as xs}, F2 r as xs → F2 r (as.drop n) (xs.drop n)
  | 0, _, _, h => by simpa using h
  | _ + 1, [], [], _ => trivial
  | n + 1, _ :: _, _ :: _, h => by simpa using F2.drop n h.2
theorem F2.get {r : V → Value → Prop} : ∀ {as xs}, F2 r as xs → ∀ (i : Nat) (v : V), as[i]? = some v → ∃ x, xs[i]? = some x ∧ r v x
  | [], [], _, i, v, h => by simp at h
  | a :: as, x :: xs, h, 0, v, hv => ⟨x, by simp, by simp at hv; exact hv ▸ h.1⟩
  | a :: as, x :: xs, h, i + 1, v, hv => by simpa using F2.get h.2 i v (by simpa using hv)
theorem F2.getx {r : V → Value → Prop} : ∀ {as xs}, F2 r as xs → ∀ (i : Nat) (x : Value), xs[i]? = some x → ∃ v, as[i]? = some v ∧ r v x
  | [], [], _, i, v, h => by simp at h
  | a :: as, x :: xs, h, 0, v, hv => ⟨a, by simp, by simp at hv; exact hv ▸ h.1⟩
  | a :: as, x :: xs, h, i + 1, v, hv => by simpa using F2.getx h.2 i v (by simpa using hv)
theorem F2.set {r : V → Value → Prop} : ∀ {as xs} (i : Nat) {v x}, F2 r as xs → r v x → F2 r (as.set i v) (xs.set i x)
  | [], [], _, _, _, _, _ => by simp [F2]
  | _ :: _, _ :: _, 0, _, _, h, hv => ⟨hv, h.2⟩
  | _ :: _, _ :: _, i + 1, _, _, h, hv => ⟨h.1, F2.set i h.2 hv⟩
theorem F2.of_get {r : V → Value → Prop} : ∀ {as : List V} {xs : List Value}, as.length = xs.length → (∀ (i : Nat) (v : V) (x : Value), as[i]? = some v → xs[i]? = some x → r v x) → F2 r as xs
  | [], [], _, _ => trivial
  | a :: as, x :: xs, hl, h => ⟨h 0 a x (by simp) (by simp), F2.of_get (by simpa using hl) fun i v y hv hy => h (i + 1) v y (by simpa using hv) (by simpa using hy)⟩


theorem Fs_iff : ∀ {vs : List V} {γ : Gm} {xs : List Value}, Fs vs γ xs ↔ F2 (fun v x => F1 v γ x) vs xs
  | [], _, [] => by unfold Fs; simp [F2]
  | _ :: _, _, _ :: _ => by unfold Fs; simp only [F2]; rw [Fs_iff]
  | [], _, _ :: _ => by unfold Fs; simp [F2]
  | _ :: _, _, [] => by unfold Fs; simp [F2]
theorem F2.mono_mem {r r' : V → Value → Prop} : ∀ {as xs}, F2 r as xs → (∀ v x, v ∈ as → r v x → r' v x) → F2 r' as xs
  | [], [], _, _ => trivial
  | _ :: _, _ :: _, h, hr => ⟨hr _ _ (by simp) h.1, F2.mono_mem h.2 fun v x hv => hr v x (by simp [hv])⟩
theorem F2.map {r : V → Value → Prop} {α : Type} (g : α → V) (k : α → Value) : ∀ (l : List α), (∀ x ∈ l, r (g x) (k x)) → F2 r (l.map g) (l.map k)
  | [], _ => trivial
  | x :: l, h => ⟨h x (by simp), F2.map g k l fun y hy => h y (by simp [hy])⟩

/-- more blocks that stay, more that keep a rule. -/
structure Gm.le (γ γ' : Gm) : Prop where
  env : γ'.env = γ.env
  fz : ∀ b cs, γ.fz b = some cs → γ'.fz b = some cs
  kv : ∀ b c, γ.kv b = some c → γ'.kv b = some c
theorem Gm.le.refl (γ : Gm) : γ.le γ := ⟨rfl, fun _ _ h => h, fun _ _ h => h⟩
theorem Gm.le.trans {a b c : Gm} (h : a.le b) (h' : b.le c) : a.le c := ⟨h'.env.trans h.env, fun x y e => h'.fz x y (h.fz x y e), fun x y e => h'.kv x y (h.kv x y e)⟩
theorem Gm.le.at {γ γ' : Gm} (h : γ.le γ') (i : Int) : (γ.at i).le (γ'.at i) := ⟨by simp [Gm.at, h.env], h.fz, h.kv⟩

mutual
theorem F1.mono : ∀ (v : V) {γ γ' : Gm} {x : Value}, γ.le γ' → F1 v γ x → F1 v γ' x := by
  intro v γ γ' x h hv
  cases v with
  | sc y => simpa only [F1] using hv
  | int k e => simp only [F1] at hv ⊢; rw [h.env]; exact hv
  | bool b => simp only [F1] at hv ⊢; rw [h.env]; exact hv
  | str l => simp only [F1] at hv ⊢; rw [h.env]; exact hv
  | fs z r =>
    simp only [F1] at hv ⊢
    obtain ⟨xs, n, c, a, h1, h2, h3, h4, h5⟩ := hv
    refine ⟨xs, n, c, a, h1, h2, h3, Fr.mono r h h4, ?_⟩
    rcases h5 with h5 | ⟨b, d, h5, h6⟩
    · exact .inl h5
    · refine .inr ⟨b, d, h5, ?_⟩
      rcases h6 with h6 | ⟨cs, h6, h7⟩
      · exact .inl h6
      · exact .inr ⟨cs, h.fz _ _ h6, h7⟩
  | fe r i z c =>
    simp only [F1] at hv ⊢
    obtain ⟨xs, b, d, full, h1, h2, h3, h4⟩ := hv
    exact ⟨xs, b, d, full, by rw [h.env]; exact h1, Fr.mono r h h2, h.fz _ _ h3, h4⟩
  | key c s =>
    simp only [F1] at hv ⊢
    obtain ⟨b, h1, h2⟩ := hv
    exact ⟨b, h1, by rw [h.env]; exact h.kv _ _ h2⟩
  | opt b v =>
    simp only [F1] at hv ⊢
    rw [h.env]
    exact ⟨fun e => F1.mono v h (hv.1 e), hv.2⟩
  | _ => simp only [F1] at hv
theorem Fs.mono : ∀ (vs : List V) {γ γ' : Gm} {xs : List Value}, γ.le γ' → Fs vs γ xs → Fs vs γ' xs := by
  intro vs γ γ' xs h hv
  cases vs with
  | nil => cases xs <;> (unfold Fs at hv ⊢; exact hv)
  | cons v vs => cases xs with
    | nil => unfold Fs at hv; exact hv.elim
    | cons x xs => unfold Fs at hv ⊢; exact ⟨F1.mono v h hv.1, Fs.mono vs h hv.2⟩
theorem Fr.mono : ∀ (r : Row) {γ γ' : Gm} {xs : List Value}, γ.le γ' → Fr r γ xs → Fr r γ' xs := by
  intro r γ γ' xs h hv
  cases r with
  | any cs => simp only [Fr] at hv ⊢; exact Fs.mono cs h hv
  | ints k l => simp only [Fr] at hv ⊢; rw [h.env]; exact hv
  | recs z n t => simp only [Fr] at hv ⊢; rw [h.env]; exact ⟨hv.1, hv.2.1, fun i hi => Fs.mono t (h.at i) (hv.2.2 i hi)⟩
end

theorem F1.one : ∀ {v : V} {γ : Gm} {x : Value}, F1 v γ x → x.oneCell' = true := by
  intro v γ x h
  cases v with
  | sc y => simp only [F1] at h; obtain ⟨rfl, h⟩ := h; exact h
  | int k e => simp only [F1] at h; rw [h]; rfl
  | bool b => simp only [F1] at h; rw [h]; rfl
  | str l => simp only [F1] at h; rw [h]; rfl
  | fs z r => simp only [F1] at h; obtain ⟨xs, n, c, a, rfl, _⟩ := h; rfl
  | fe r i z c => simp only [F1] at h; obtain ⟨xs, b, d, full, rfl, _⟩ := h; rfl
  | key c s => simp only [F1] at h; obtain ⟨b, rfl, _⟩ := h; rfl
  | opt b v =>
    simp only [F1] at h
    cases hb : b.den γ.env with
    | true => exact F1.one (h.1 hb)
    | false => rw [h.2 hb]; rfl
  | _ => simp only [F1] at h

/-! ### with names -/
def Bt.env (β : Bt) : Env := β.g.env
/-- values of one cell that are no functions. -/
def R0 (β : Bt) : V → Value → Prop
  | .ptr id i z c, x => ∃ p, β.nm id = some (some p) ∧ x = .pointer (some ⟨p.b, (i.den β.g.env).toNat * z + c, none⟩)
  | .sl id co off len z top, x => ∃ q, β.nm id = some q ∧ 0 ≤ len.den β.g.env ∧
      ((∃ p d c, q = some p ∧ x = .slice (some ⟨p.b, d, none⟩) (len.den β.g.env).toNat c ∧ (d = co + (off.den β.g.env).toNat * z ∨ ((len.den β.g.env).toNat = 0 ∧ top = false)) ∧ (len.den β.g.env).toNat ≤ c ∧ (top = true → co = 0 ∧ (off.den β.g.env).toNat = 0 ∧ c * z = p.s ∧ c ≤ maxLen)) ∨
       (q = none ∧ co = 0 ∧ (off.den β.g.env).toNat = 0 ∧ (len.den β.g.env).toNat = 0 ∧ ∃ a, x = .slice a 0 0))
  | v, x => F1 v β.g x
/-- values of one cell. -/
def R1 (β : Bt) : V → Value → Prop
  | .fn f a b, x => ∃ xs ys, x = .func f xs ys ∧ F2 (R0 β) a xs.toList ∧ F2 (R0 β) b ys.toList
  | .und, x => x.oneCell' = true
  | v, x => R0 β v x
/-- values of one variable. -/
def R2 (β : Bt) : V → Value → Prop
  | .agg cs, x => ∃ xs, x = .agg xs ∧ F2 (R1 β) cs xs.toList
  | v, x => R1 β v x
/-- whatever stands in a slot. -/
def R (β : Bt) : V → Value → Prop
  | .und, _ => True
  | .tup vs, x => ∃ xs, x = .tuple xs ∧ F2 (R2 β) vs xs.toList
  | v, x => R2 β v x

/-- names below 'e' lie where they lay; what stays stays. -/
structure Bt.le (e : Nat) (β β' : Bt) : Prop where
  g : β.g.le β'.g
  nm : ∀ id q, id < e → β.nm id = some q → β'.nm id = some q
theorem Bt.le.refl (e : Nat) (β : Bt) : β.le e β := ⟨Gm.le.refl _, fun _ _ _ h => h⟩
theorem Bt.le.trans {e : Nat} {a b c : Bt} (h : a.le e b) (h' : b.le e c) : a.le e c := ⟨h.g.trans h'.g, fun id q hl e => h'.nm id q hl (h.nm id q hl e)⟩
theorem Bt.le.weaken {e e' : Nat} {a b : Bt} (h : a.le e b) (he : e' ≤ e) : a.le e' b := ⟨h.g, fun id q hl => h.nm id q (by omega)⟩

/-! ### the names of a value -/
def V.in0 (p : Nat → Bool) : V → Bool
  | .ptr id _ _ _ => p id
  | .sl id _ _ _ _ _ => p id
  | _ => true
def V.in1 (p : Nat → Bool) : V → Bool
  | .fn _ a b => a.all (V.in0 p) && b.all (V.in0 p)
  | v => v.in0 p
def V.in2 (p : Nat → Bool) : V → Bool
  | .agg cs => cs.all (V.in1 p)
  | v => v.in1 p
def V.inn (p : Nat → Bool) : V → Bool
  | .tup vs => vs.all (V.in2 p)
  | v => v.in2 p

section names
variable {β β' : Bt} {p : Nat → Bool} (hg : β.g.le β'.g) (hp : ∀ id, p id = true → ∀ b, β.nm id = some b → β'.nm id = some b)
include hg hp
theorem R0.names {v x} (h : R0 β v x) (hv : v.in0 p = true) : R0 β' v x := by
  cases v with
  | ptr id i z c => obtain ⟨q, hq, e⟩ := h; exact ⟨q, hp _ hv _ hq, by rw [hg.env]; exact e⟩
  | sl id co off len z top => obtain ⟨q, hq, r⟩ := h; exact ⟨q, hp _ hv _ hq, by rw [hg.env]; exact r⟩
  | _ => (simp only [R0] at h ⊢; exact F1.mono _ hg h)
theorem F2.names0 {vs : List V} {xs} (h : F2 (R0 β) vs xs) (hv : vs.all (V.in0 p) = true) : F2 (R0 β') vs xs := by
  rw [List.all_eq_true] at hv
  exact h.mono_mem fun v x hm hr => R0.names hg hp hr (hv v hm)
theorem R1.names {v x} (h : R1 β v x) (hv : v.in1 p = true) : R1 β' v x := by
  cases v with
  | fn f a b =>
    obtain ⟨xs, ys, e, h1, h2⟩ := h
    have hv' : a.all (V.in0 p) = true ∧ b.all (V.in0 p) = true := by simpa [V.in1] using hv
    exact ⟨xs, ys, e, F2.names0 hg hp h1 hv'.1, F2.names0 hg hp h2 hv'.2⟩
  | und => exact h
  | _ => (simp only [R1] at h ⊢; exact R0.names hg hp h hv)
theorem F2.names1 {vs : List V} {xs} (h : F2 (R1 β) vs xs) (hv : vs.all (V.in1 p) = true) : F2 (R1 β') vs xs := by
  rw [List.all_eq_true] at hv
  exact h.mono_mem fun v x hm hr => R1.names hg hp hr (hv v hm)
theorem R2.names {v x} (h : R2 β v x) (hv : v.in2 p = true) : R2 β' v x := by
  cases v with
  | agg cs => obtain ⟨xs, e, h1⟩ := h; exact ⟨xs, e, F2.names1 hg hp h1 hv⟩
  | _ => (simp only [R2] at h ⊢; exact R1.names hg hp h hv)
theorem R.names {v x} (h : R β v x) (hv : v.inn p = true) : R β' v x := by
  cases v with
  | und => trivial
  | tup vs =>
    obtain ⟨xs, e, h1⟩ := h
    have hv' : vs.all (V.in2 p) = true := hv
    rw [List.all_eq_true] at hv'
    exact ⟨xs, e, h1.mono_mem fun v x hm hr => R2.names hg hp hr (hv' v hm)⟩
  | _ => (simp only [R] at h ⊢; exact R2.names hg hp h hv)
end names

/-- all names. -/
theorem V.in0_true (v : V) : v.in0 (fun _ => true) = true := by cases v <;> rfl
theorem V.in1_true (v : V) : v.in1 (fun _ => true) = true := by
  cases v with
  | fn f a b => simp only [V.in1, Bool.and_eq_true, List.all_eq_true]; exact ⟨fun v _ => V.in0_true v, fun v _ => V.in0_true v⟩
  | _ => rfl
theorem V.in2_true (v : V) : v.in2 (fun _ => true) = true := by
  cases v with
  | agg cs => simp only [V.in2, List.all_eq_true]; exact fun v _ => V.in1_true v
  | _ => (simp only [V.in2]; exact V.in1_true _)
theorem V.inn_true (v : V) : v.inn (fun _ => true) = true := by
  cases v with
  | tup cs => simp only [V.inn, List.all_eq_true]; exact fun v _ => V.in2_true v
  | _ => (simp only [V.inn]; exact V.in2_true _)

/-- every name keeps its place. -/
structure Bt.all (β β' : Bt) : Prop where
  g : β.g.le β'.g
  nm : ∀ id q, β.nm id = some q → β'.nm id = some q
theorem Bt.all.refl (β : Bt) : β.all β := ⟨Gm.le.refl _, fun _ _ h => h⟩
theorem R0.mono {β β' : Bt} (hb : β.all β') {v x} (h : R0 β v x) : R0 β' v x := R0.names hb.g (p := fun _ => true) (fun id _ b => hb.nm id b) h (V.in0_true v)
theorem R1.mono {β β' : Bt} (hb : β.all β') {v x} (h : R1 β v x) : R1 β' v x := R1.names hb.g (p := fun _ => true) (fun id _ b => hb.nm id b) h (V.in1_true v)
theorem R2.mono {β β' : Bt} (hb : β.all β') {v x} (h : R2 β v x) : R2 β' v x := R2.names hb.g (p := fun _ => true) (fun id _ b => hb.nm id b) h (V.in2_true v)
theorem R.mono {β β' : Bt} (hb : β.all β') {v x} (h : R β v x) : R β' v x := R.names hb.g (p := fun _ => true) (fun id _ b => hb.nm id b) h (V.inn_true v)

theorem R0.one {β : Bt} {v x} (h : R0 β v x) : x.oneCell' = true := by
  cases v with
  | ptr id i z c => obtain ⟨p, _, rfl⟩ := h; rfl
  | sl id co off len z top => obtain ⟨q, _, _, ⟨p, d, c, _, rfl, _⟩ | ⟨_, _, _, _, a, rfl, _⟩⟩ := h <;> rfl
  | _ => (simp only [R0] at h; exact F1.one h)
theorem R1.one {β : Bt} {v x} (h : R1 β v x) : x.oneCell' = true := by
  cases v with
  | fn f a b => obtain ⟨xs, ys, rfl, _⟩ := h; rfl
  | und => exact h
  | _ => (simp only [R1] at h; exact R0.one h)

/-- the cells of a value. -/
def V.cells : V → List V
  | .agg cs => cs
  | v => [v]
theorem R2.of {β : Bt} {v x} (h : R β v x) (hu : v ≠ .und) (ht : ∀ vs, v ≠ .tup vs) : R2 β v x := by
  cases v with
  | und => exact (hu rfl).elim
  | tup vs => exact (ht vs rfl).elim
  | _ => (simp only [R] at h; exact h)
theorem R2.up {β : Bt} {v x} (h : R2 β v x) : R β v x := by
  cases v with
  | und => trivial
  | tup vs => simp [R2, R1, R0, F1] at h
  | _ => (simp only [R]; exact h)
theorem R1.up {β : Bt} {v x} (h : R1 β v x) : R2 β v x := by
  cases v with
  | agg cs => simp [R1, R0, F1] at h
  | _ => (simp only [R2]; exact h)
theorem R0.up {β : Bt} {v x} (h : R0 β v x) : R1 β v x := by
  cases v with
  | und => simp [R0, F1] at h
  | fn => simp [R0, F1] at h
  | _ => (simp only [R1]; exact h)
theorem F1.up {β : Bt} {v x} (h : F1 v β.g x) : R0 β v x := by
  cases v with
  | ptr => simp [F1] at h
  | sl => simp [F1] at h
  | _ => (simp only [R0]; exact h)
theorem R0.toR {β : Bt} {v x} (h : R0 β v x) : R β v x := h.up.up.up

theorem R2.cells {β : Bt} {v x} (h : R2 β v x) : F2 (R1 β) v.cells x.cells.toList := by
  have hone : ∀ y : Value, y.oneCell' = true → y.cells = #[y] := by intro y hy; cases y <;> first | rfl | (simp [Value.oneCell'] at hy)
  cases v with
  | agg cs => obtain ⟨xs, rfl, h1⟩ := h; exact h1
  | _ =>
    simp only [R2] at h
    rw [hone x (R1.one h)]
    exact ⟨h, trivial⟩
theorem F2.one {β : Bt} : ∀ {as xs}, F2 (R1 β) as xs → ∀ u ∈ xs, u.oneCell' = true
  | [], [], _, _, h => by simp at h
  | _ :: _, x :: xs, h, u, hu => by
    rcases List.mem_cons.1 hu with rfl | hu
    · exact R1.one h.1
    · exact F2.one h.2 u hu
end Go.Proofs.YtmckhoaekbeijaaGreat.E
/- Objects, worlds, steps, the frame. Plain Lean over the kit's model; no program. -/
namespace Go.Proofs.YtmckhoaekbeijaaGreat.E
open Go Go.RowKit
set_option linter.unusedVariables false

/-- an object: its cells; is it written?; the type of an element. -/
structure Ob where
  row : Row
  rw : Bool
  e : TypeId
abbrev Sto := Nat → Option Ob

/-- what stands in an object: these values. -/
def RH (β : Bt) : Row → List Value → Prop
  | .any cs, xs => F2 (R1 β) cs xs
  | r, xs => Fr r β.g xs
theorem RH.mono {β β' : Bt} (hb : β.all β') {r : Row} {xs} (h : RH β r xs) : RH β' r xs := by
  cases r with
  | any cs => exact F2.mono (fun _ _ => R1.mono hb) h
  | _ => (simp only [RH] at h ⊢; exact Fr.mono _ hb.g h)
def Row.inn (p : Nat → Bool) : Row → Bool
  | .any l => l.all (V.in1 p)
  | _ => true
theorem RH.names {β β' : Bt} {p : Nat → Bool} (hg : β.g.le β'.g) (hp : ∀ id, p id = true → ∀ b, β.nm id = some b → β'.nm id = some b) {r : Row} {xs} (h : RH β r xs) (hr : r.inn p = true) : RH β' r xs := by
  cases r with
  | any cs => exact F2.names1 hg hp h hr
  | _ => (simp only [RH] at h ⊢; exact Fr.mono _ hg h)
theorem Row.inn_mono {p q : Nat → Bool} (h : ∀ id, p id = true → q id = true) {r : Row} (hr : r.inn p = true) : r.inn q = true := by
  have h0 : ∀ v : V, v.in0 p = true → v.in0 q = true := fun v hv => by cases v <;> first | exact h _ hv | rfl
  have h1 : ∀ v : V, v.in1 p = true → v.in1 q = true := fun v hv => by
    cases v with
    | fn f a b =>
      simp only [V.in1, Bool.and_eq_true, List.all_eq_true] at hv ⊢
      exact ⟨fun v hm => h0 v (hv.1 v hm), fun v hm => h0 v (hv.2 v hm)⟩
    | _ => (simp only [V.in1] at hv ⊢; exact h0 _ hv)
  cases r with
  | any cs => simp only [Row.inn, List.all_eq_true] at hr ⊢; exact fun v hm => h1 v (hr v hm)
  | _ => rfl

def ObOk (β : Bt) (w : World) (q : Option Bl) (o : Ob) : Prop :=
  match q with
  | none => RH β o.row []
  | some p => p.b < w.heap.size ∧ ∃ cur xs rest fz, w.heap[p.b]? = some (.cells cur o.e fz) ∧ cur.size = p.s ∧ cur.toList = xs ++ rest ∧ RH β o.row xs ∧ (o.rw = true → fz = (0, 0)) ∧ (o.rw = false → β.g.fz p.b = some cur)

/-- the blocks that are ours to write. -/
def Wr (β : Bt) (σ : Sto) (b : Nat) : Prop := ∃ id o p, σ id = some o ∧ o.rw = true ∧ β.nm id = some (some p) ∧ p.b = b

structure SimL (ρ : Env) (β : Bt) (σ : Sto) (w : World) : Prop where
  env : β.g.env = ρ
  ob : ∀ id o, σ id = some o → ∃ q, β.nm id = some q ∧ ObOk β w q o
  sep : ∀ id o id' o' p p', σ id = some o → o.rw = true → σ id' = some o' → id ≠ id' → β.nm id = some (some p) → β.nm id' = some (some p') → p.b ≠ p'.b
  fzs : ∀ b cs, β.g.fz b = some cs → (∃ e f, w.heap[b]? = some (.cells cs e f)) ∧ ¬ Wr β σ b ∧ β.g.kv b = none
  kvs : ∀ b c, β.g.kv b = some c → (∃ o, w.heap[b]? = some o ∧ KI β.g.kv c.1 c.2 o) ∧ ¬ Wr β σ b
structure Sim (ρ : Env) (n : Nat) (β : Bt) (σ : Sto) (w : World) : Prop extends SimL ρ β σ w where
  fresh : ∀ id, n ≤ id → β.nm id = none

theorem Sim.none {ρ n β σ w} (h : Sim ρ n β σ w) {id : Nat} (hi : n ≤ id) : σ id = .none := by
  cases e : σ id with
  | none => rfl
  | some o => obtain ⟨p, hp, _⟩ := h.ob id o e; rw [h.fresh id hi] at hp; cases hp
theorem Sim.lt {ρ n β σ w} (h : Sim ρ n β σ w) {id : Nat} {q} (hi : β.nm id = some q) : id < n := by
  apply Classical.byContradiction; intro hc
  rw [h.fresh id (Nat.le_of_not_lt hc)] at hi; cases hi
theorem SimL.wr_lt {ρ β σ w} (h : SimL ρ β σ w) {b : Nat} (hw : Wr β σ b) : b < w.heap.size := by
  obtain ⟨id, o, p, h1, h2, h3, rfl⟩ := hw
  obtain ⟨q, hq, hok⟩ := h.ob id o h1
  rw [h3] at hq; cases hq
  exact hok.1
theorem SimL.fz_lt {ρ β σ w} (h : SimL ρ β σ w) {b : Nat} {cs} (hw : β.g.fz b = some cs) : b < w.heap.size := by
  obtain ⟨⟨e, f, h1⟩, _⟩ := h.fzs b cs hw
  rw [Array.getElem?_eq_some_iff] at h1; exact h1.1
theorem SimL.kv_lt {ρ β σ w} (h : SimL ρ β σ w) {b : Nat} {cs} (hw : β.g.kv b = some cs) : b < w.heap.size := by
  obtain ⟨⟨e, h1, _⟩, _⟩ := h.kvs b cs hw
  rw [Array.getElem?_eq_some_iff] at h1; exact h1.1

/-- What a step does to a world: nothing but to its own blocks, and within their rule to those that keep one. -/
structure Step (e : Nat) (β : Bt) (σ : Sto) (w : World) (β' : Bt) (σ' : Sto) (w' : World) : Prop where
  le : β.le e β'
  os : w'.os = w.os
  tape : w'.tape = w.tape
  output : w'.output = w.output
  size : w.heap.size ≤ w'.heap.size
  fr : ∀ b, b < w.heap.size → ¬ Wr β σ b → β.g.kv b = none → w'.heap[b]? = w.heap[b]?
  own : ∀ b, Wr β' σ' b → Wr β σ b ∨ w.heap.size ≤ b
  fzn : ∀ b cs, β'.g.fz b = some cs → β.g.fz b = some cs ∨ Wr β σ b ∨ w.heap.size ≤ b
  kvn : ∀ b c, β'.g.kv b = some c → β.g.kv b = some c ∨ Wr β σ b ∨ w.heap.size ≤ b

theorem Step.refl {e β σ w} : Step e β σ w β σ w :=
  ⟨Bt.le.refl _ β, rfl, rfl, rfl, Nat.le_refl _, fun _ _ _ _ => rfl, fun b h => .inl h, fun b c h => .inl h, fun b c h => .inl h⟩
theorem Step.weaken {e e' β σ w β' σ' w'} (h : Step e β σ w β' σ' w') (he : e' ≤ e) : Step e' β σ w β' σ' w' :=
  ⟨h.le.weaken he, h.os, h.tape, h.output, h.size, h.fr, h.own, h.fzn, h.kvn⟩
theorem Step.trans {e β σ w β1 σ1 w1 β2 σ2 w2} (h : Step e β σ w β1 σ1 w1) (k : Step e β1 σ1 w1 β2 σ2 w2) : Step e β σ w β2 σ2 w2 where
  le := h.le.trans k.le
  os := k.os.trans h.os
  tape := k.tape.trans h.tape
  output := k.output.trans h.output
  size := Nat.le_trans h.size k.size
  fr := fun b hb hw hk => by
    have hk1 : β1.g.kv b = none := by
      cases e : β1.g.kv b with
      | none => rfl
      | some c =>
        rcases h.kvn b c e with h1 | h1 | h1
        · rw [hk] at h1; cases h1
        · exact (hw h1).elim
        · omega
    have hw1 : ¬ Wr β1 σ1 b := fun hc => by
      rcases h.own b hc with h1 | h1
      · exact hw h1
      · omega
    rw [k.fr b (Nat.lt_of_lt_of_le hb h.size) hw1 hk1, h.fr b hb hw hk]
  own := fun b hb => by
    rcases k.own b hb with h1 | h1
    · exact h.own b h1
    · exact .inr (Nat.le_trans h.size h1)
  fzn := fun b c hb => by
    rcases k.fzn b c hb with h1 | h1 | h1
    · exact h.fzn b c h1
    · rcases h.own b h1 with h2 | h2
      · exact .inr (.inl h2)
      · exact .inr (.inr h2)
    · exact .inr (.inr (Nat.le_trans h.size h1))
  kvn := fun b c hb => by
    rcases k.kvn b c hb with h1 | h1 | h1
    · exact h.kvn b c h1
    · rcases h.own b h1 with h2 | h2
      · exact .inr (.inl h2)
      · exact .inr (.inr h2)
    · exact .inr (.inr (Nat.le_trans h.size h1))

/-- fewer objects. -/
def Sto.le (σ τ : Sto) : Prop := ∀ id o, σ id = some o → τ id = some o
theorem Sto.le.refl (σ : Sto) : σ.le σ := fun _ _ h => h
theorem Wr.mono {β : Bt} {σ τ : Sto} (hs : σ.le τ) {b : Nat} (h : Wr β σ b) : Wr β τ b := by
  obtain ⟨id, o, p, h1, r⟩ := h; exact ⟨id, o, p, hs _ _ h1, r⟩
theorem SimL.drop {ρ β σ τ w} (h : SimL ρ β τ w) (hs : σ.le τ) : SimL ρ β σ w :=
  ⟨h.env, fun id o e => h.ob id o (hs id o e), fun id o id' o' p p' e hr e' => h.sep id o id' o' p p' (hs _ _ e) hr (hs _ _ e'),
   fun b cs e => ⟨(h.fzs b cs e).1, fun hc => (h.fzs b cs e).2.1 (hc.mono hs), (h.fzs b cs e).2.2⟩, fun b c e => ⟨(h.kvs b c e).1, fun hc => (h.kvs b c e).2 (hc.mono hs)⟩⟩
theorem Sim.drop {ρ n β σ τ w} (h : Sim ρ n β τ w) (hs : σ.le τ) : Sim ρ n β σ w := ⟨h.toSimL.drop hs, h.fresh⟩
theorem Step.dropEnd {e β σ w β' σ' τ' w'} (h : Step e β σ w β' τ' w') (hs : σ'.le τ') : Step e β σ w β' σ' w' :=
  ⟨h.le, h.os, h.tape, h.output, h.size, h.fr, fun b hb => h.own b (hb.mono hs), h.fzn, h.kvn⟩

/-- an object whose block is not touched. -/
theorem ObOk.keep {β β' : Bt} {w w' : World} {q : Option Bl} {o : Ob} (h : ObOk β w q o) (hb : ∀ xs, RH β o.row xs → RH β' o.row xs) (hf : ∀ b cs, β.g.fz b = some cs → β'.g.fz b = some cs) (hsz : w.heap.size ≤ w'.heap.size) (hk : ∀ p, q = some p → w'.heap[p.b]? = w.heap[p.b]?) : ObOk β' w' q o := by
  cases q with
  | none => exact hb _ h
  | some p =>
    obtain ⟨hlt, cur, xs, rest, fz, h1, h2, h3, h4, h5, h6⟩ := h
    exact ⟨Nat.lt_of_lt_of_le hlt hsz, cur, xs, rest, fz, (hk p rfl).trans h1, h2, h3, hb _ h4, h5, fun hr => hf _ _ (h6 hr)⟩

/-! ### the frame -/
/-- an operation among few objects, seen among more of them. 'new': the names that it may give. -/
theorem frameL {ρ : Env} {n : Nat} {β βi βi' : Bt} {τ σs σs' : Sto} {w w' : World} {new : Nat → Bool} (hS : SimL ρ β τ w) (hs : σs.le τ) (hβi : ∀ id, (σs id).isSome = true → βi.nm id = β.nm id) (hlt : ∀ id, (σs id).isSome = true → id < n) (hg : βi.g = β.g) (hst : Step n βi σs w βi' σs' w') (h' : SimL ρ βi' σs' w')
    (hnew : ∀ id, new id = true → β.nm id = none) (hdom : ∀ id, (σs' id).isSome = true → (σs id).isSome = true ∨ new id = true) (hcells : ∀ id o, σs' id = some o → o.row.inn (fun id => (σs id).isSome || new id) = true) :
    let β' : Bt := ⟨βi'.g, fun id => if new id then βi'.nm id else β.nm id⟩
    let τ' : Sto := fun id => if (σs id).isSome || new id then σs' id else τ id
    SimL ρ β' τ' w' ∧ (∀ e, Step e β τ w β' τ' w') ∧ β.all β' ∧ (∀ v x, v.inn (fun id => (σs id).isSome || new id) = true → R βi' v x → R β' v x) := by
  intro β' τ'
  have hag : ∀ id, ((σs id).isSome || new id) = true → ∀ b, βi'.nm id = some b → β'.nm id = some b := by
    intro id hid b hb
    by_cases hn : new id = true
    · simp only [β', hn, if_true]; exact hb
    · simp only [β', hn]
      have hso : (σs id).isSome = true := by simpa [hn] using hid
      obtain ⟨o, ho⟩ := Option.isSome_iff_exists.1 hso
      obtain ⟨q, hq, _⟩ := hS.ob id o (hs _ _ ho)
      have h1 : βi.nm id = some q := by rw [hβi id hso]; exact hq
      have h2 := hst.le.nm _ _ (hlt id hso) h1
      rw [hb] at h2; cases h2
      exact hq
  have hgle : β.g.le β'.g := by have := hst.le.g; rw [hg] at this; exact this
  have hall : β.all β' := by
    refine ⟨hgle, fun id q hq => ?_⟩
    by_cases hn : new id = true
    · rw [hnew id hn] at hq; cases hq
    · simp only [β', hn]; exact hq
  have hcase : ∀ id o, τ' id = some o → (σs' id = some o ∧ ((σs id).isSome || new id) = true) ∨ (σs id = none ∧ new id = false ∧ τ id = some o) := by
    intro id o e
    simp only [τ'] at e
    split at e
    · exact .inl ⟨e, by assumption⟩
    · rename_i hc; simp only [Bool.or_eq_true, not_or, Bool.not_eq_true, Option.isSome_eq_false_iff, Option.isNone_iff_eq_none] at hc; exact .inr ⟨hc.1, hc.2, e⟩
  -- what is known of an object's place
  have hplace : ∀ id o, σs' id = some o → ((σs id).isSome || new id) = true → ∃ q, βi'.nm id = some q ∧ β'.nm id = some q ∧ ObOk β' w' q o := by
    intro id o e hid
    obtain ⟨q, hq, hok⟩ := h'.ob id o e
    exact ⟨q, hq, hag id hid q hq, hok.keep (fun xs hx => RH.names (β := βi') (β' := β') (Gm.le.refl βi'.g) hag hx (hcells id o e)) (fun _ _ h => h) (Nat.le_refl _) (fun _ _ => rfl)⟩
  have hold : ∀ id, new id = false → β'.nm id = β.nm id := fun id h2 => by simp [β', h2]
  have hWri : ∀ b, Wr βi σs b → Wr β τ b := by
    rintro b ⟨id, o, q, e, hr, hq, hb⟩
    exact ⟨id, o, q, hs _ _ e, hr, by rw [← hβi id (by rw [e]; rfl)]; exact hq, hb⟩
  -- an other object's block is not written
  have hoth : ∀ id o p, σs id = none → τ id = some o → β.nm id = some (some p) → ¬ Wr βi σs p.b := by
    rintro id o q e1 e2 e3 ⟨id0, o0, p0, f1, f2, f3, f4⟩
    refine hS.sep id0 o0 id o p0 q (hs _ _ f1) f2 e2 ?_ (by rw [← hβi id0 (by rw [f1]; rfl)]; exact f3) e3 f4
    rintro rfl; rw [e1] at f1; cases f1
  have hkv : ∀ id o p, τ id = some o → β.nm id = some (some p) → β.g.kv p.b = none := by
    intro id o p e1 e2
    cases ho : o.rw with
    | true =>
      cases e : β.g.kv p.b with
      | none => rfl
      | some c => exact ((hS.kvs _ _ e).2 ⟨id, o, p, e1, ho, e2, rfl⟩).elim
    | false =>
      obtain ⟨q, hq, hok⟩ := hS.ob id o e1
      rw [e2] at hq; cases hq
      obtain ⟨_, cur, xs, rest, fz, _, _, _, _, _, h6⟩ := hok
      exact (hS.fzs _ _ (h6 ho)).2.2
  have hsame : ∀ id o q, σs id = none → τ id = some o → β.nm id = some q → ∀ p, q = some p → w'.heap[p.b]? = w.heap[p.b]? := by
    rintro id o q e1 e2 e3 p rfl
    have hlt : p.b < w.heap.size := by
      obtain ⟨q', hq', hok⟩ := hS.ob id o e2
      rw [e3] at hq'; cases hq'
      exact hok.1
    exact hst.fr p.b hlt (hoth id o p e1 e2 e3) (by rw [hg]; exact hkv id o p e2 e3)
  have hWr' : ∀ b, Wr β' τ' b → (Wr βi' σs' b) ∨ (∃ id o p, σs id = none ∧ new id = false ∧ τ id = some o ∧ o.rw = true ∧ β.nm id = some (some p) ∧ p.b = b) := by
    rintro b ⟨id, o, p, e, hr, hp, rfl⟩
    rcases hcase id o e with ⟨e, hid⟩ | ⟨e0, en, e⟩
    · obtain ⟨q, hq1, hq2, _⟩ := hplace id o e hid
      rw [hp] at hq2; cases hq2
      exact .inl ⟨id, o, p, e, hr, hq1, rfl⟩
    · rw [hold id en] at hp
      exact .inr ⟨id, o, p, e0, en, e, hr, hp, rfl⟩
  have hown : ∀ b, Wr βi' σs' b → Wr βi σs b ∨ w.heap.size ≤ b := hst.own
  refine ⟨⟨h'.env, ?_, ?_, ?_, ?_⟩, fun e => ⟨⟨hgle, fun id q _ h => hall.nm id q h⟩, hst.os, hst.tape, hst.output, hst.size, fun b hb hw hk => hst.fr b hb (fun hc => hw (hWri b hc)) (by rw [hg]; exact hk), ?_, ?_, ?_⟩, hall, fun v x hv hR => R.names (β := βi') (β' := β') (Gm.le.refl βi'.g) hag hR hv⟩
  · intro id o e
    rcases hcase id o e with ⟨e, hid⟩ | ⟨e0, en, e⟩
    · obtain ⟨q, _, hq, hok⟩ := hplace id o e hid
      exact ⟨q, hq, hok⟩
    · obtain ⟨q, hq, hok⟩ := hS.ob id o e
      exact ⟨q, by rw [hold id en]; exact hq, hok.keep (fun xs hx => hx.mono hall) hgle.fz hst.size (hsame id o q e0 e hq)⟩
  · intro id o id' o' q q' e hr e' hne hq hq'
    rcases hcase id o e with ⟨e, hid⟩ | ⟨e0, en, e⟩ <;> rcases hcase id' o' e' with ⟨e', hid'⟩ | ⟨e0', en', e'⟩
    · obtain ⟨q1, h1, h2, _⟩ := hplace id o e hid
      obtain ⟨q2, h3, h4, _⟩ := hplace id' o' e' hid'
      rw [hq] at h2; cases h2
      rw [hq'] at h4; cases h4
      exact h'.sep id o id' o' q q' e hr e' hne h1 h3
    · obtain ⟨q1, h1, h2, _⟩ := hplace id o e hid
      rw [hq] at h2; cases h2
      rw [hold id' en'] at hq'
      rcases hown q.b ⟨id, o, q, e, hr, h1, rfl⟩ with hw | hge
      · intro hc
        exact hoth id' o' q' e0' e' hq' (by rw [← hc]; exact hw)
      · obtain ⟨q2, h3, hok'⟩ := hS.ob id' o' e'
        rw [hq'] at h3; cases h3
        have := hok'.1; omega
    · obtain ⟨q2, h3, h4, _⟩ := hplace id' o' e' hid'
      rw [hq'] at h4; cases h4
      rw [hold id en] at hq
      have hWq : Wr β τ q.b := ⟨id, o, q, e, hr, hq, rfl⟩
      have hlt : q.b < w.heap.size := hS.wr_lt hWq
      intro hc
      cases ho' : o'.rw with
      | true =>
        rcases hown q'.b ⟨id', o', q', e', ho', h3, rfl⟩ with hw | hge
        · exact hoth id o q e0 e hq (by rw [hc]; exact hw)
        · omega
      | false =>
        obtain ⟨q3, hq3, hok'⟩ := h'.ob id' o' e'
        rw [h3] at hq3; cases hq3
        obtain ⟨_, cur, xs, rest, fz, _, _, _, _, _, h6⟩ := hok'
        rcases hst.fzn _ _ (h6 ho') with k1 | k1 | k1
        · rw [hg] at k1; exact (hS.fzs _ _ k1).2.1 (by rw [← hc]; exact hWq)
        · exact hoth id o q e0 e hq (by rw [hc]; exact k1)
        · omega
    · rw [hold id en] at hq
      rw [hold id' en'] at hq'
      exact hS.sep id o id' o' q q' e hr e' hne hq hq'
  · intro b cs hb
    have h1 := h'.fzs b cs hb
    refine ⟨h1.1, fun hc => ?_, h1.2.2⟩
    rcases hWr' b hc with hc | ⟨id, o, p, e0, en, e, hr, hp, rfl⟩
    · exact h1.2.1 hc
    · have hWq : Wr β τ p.b := ⟨id, o, p, e, hr, hp, rfl⟩
      rcases hst.fzn _ _ hb with k1 | k1 | k1
      · rw [hg] at k1; exact (hS.fzs _ _ k1).2.1 hWq
      · exact hoth id o p e0 e hp k1
      · have := hS.wr_lt hWq; omega
  · intro b c hb
    have h1 := h'.kvs b c hb
    refine ⟨h1.1, fun hc => ?_⟩
    rcases hWr' b hc with hc | ⟨id, o, p, e0, en, e, hr, hp, rfl⟩
    · exact h1.2 hc
    · have hWq : Wr β τ p.b := ⟨id, o, p, e, hr, hp, rfl⟩
      rcases hst.kvn _ _ hb with k1 | k1 | k1
      · rw [hg] at k1; exact (hS.kvs _ _ k1).2 hWq
      · exact hoth id o p e0 e hp k1
      · have := hS.wr_lt hWq; omega
  · intro b hb
    rcases hWr' b hb with hc | ⟨id, o, p, e0, en, e, hr, hp, rfl⟩
    · rcases hown b hc with h1 | h1
      · exact .inl (hWri b h1)
      · exact .inr h1
    · exact .inl ⟨id, o, p, e, hr, hp, rfl⟩
  · intro b c hb
    rcases hst.fzn b c hb with h1 | h1 | h1
    · rw [hg] at h1; exact .inl h1
    · exact .inr (.inl (hWri b h1))
    · exact .inr (.inr h1)
  · intro b c hb
    rcases hst.kvn b c hb with h1 | h1 | h1
    · rw [hg] at h1; exact .inl h1
    · exact .inr (.inl (hWri b h1))
    · exact .inr (.inr h1)
end Go.Proofs.YtmckhoaekbeijaaGreat.E
/- Between which bounds a number lies. Plain Lean over the kit's model; no program. -/
namespace Go.Proofs.YtmckhoaekbeijaaGreat.E
open Go Go.RowKit
set_option linter.unusedVariables false

def kMin : IntKind → Int
  | .i8 => .negSucc 127 | .i16 => .negSucc 32767 | .i32 => .negSucc 2147483647 | .i64 => .negSucc 9223372036854775807
  | .u8 | .u16 | .u32 | .u64 => .ofNat 0
def kMax : IntKind → Int
  | .i8 => .ofNat 127 | .i16 => .ofNat 32767 | .i32 => .ofNat 2147483647 | .i64 => .ofNat 9223372036854775807
  | .u8 => .ofNat 255 | .u16 => .ofNat 65535 | .u32 => .ofNat 4294967295 | .u64 => .ofNat 18446744073709551615
theorem wrap_rg (k : IntKind) (x : Int) : kMin k ≤ k.wrap x ∧ k.wrap x ≤ kMax k := by
  cases k <;> simp [IntKind.wrap, IntKind.bits, IntKind.signed, kMin, kMax] <;> (try split) <;> omega
theorem wrap_id (k : IntKind) (x : Int) (h1 : kMin k ≤ x) (h2 : x ≤ kMax k) : k.wrap x = x := by
  cases k <;> simp [kMin, kMax] at h1 h2 <;> simp [IntKind.wrap, IntKind.bits, IntKind.signed] <;> (try split) <;> omega
theorem has_min (k : IntKind) : k.min = kMin k := by cases k <;> rfl
theorem has_max (k : IntKind) : k.max = kMax k := by cases k <;> rfl
theorem wrap_has {k : IntKind} {x : Int} (h : k.has x) : k.wrap x = x := wrap_id k x (by rw [← has_min]; exact h.1) (by rw [← has_max]; exact h.2)

abbrev Rg := Option Int × Option Int
def inRg (r : Rg) (x : Int) : Prop := (∀ a, r.1 = some a → a ≤ x) ∧ (∀ b, r.2 = some b → x ≤ b)
/-- not above, in a form that reckons well. -/
def leb (a b : Int) : Bool := !ltb b a
theorem leb_ok {a b : Int} (h : leb a b = true) : a ≤ b := by
  unfold leb at h; rw [ltb_eq] at h; simp at h; exact h
theorem ltb_ok {a b : Int} (h : ltb a b = true) : a < b := by rw [ltb_eq] at h; simpa using h
theorem ltb_no {a b : Int} (h : ltb a b = false) : b ≤ a := by rw [ltb_eq] at h; simpa using h
def fitR (k : IntKind) (lo hi : Int) : Rg := bif leb (kMin k) lo && leb hi (kMax k) then (some lo, some hi) else (some (kMin k), some (kMax k))
theorem inRg_k (k : IntKind) (x : Int) : inRg (some (kMin k), some (kMax k)) (k.wrap x) :=
  ⟨fun a h => by cases h; exact (wrap_rg k x).1, fun b h => by cases h; exact (wrap_rg k x).2⟩
theorem fitR_ok {k : IntKind} {lo hi x : Int} (h1 : lo ≤ x) (h2 : x ≤ hi) : inRg (fitR k lo hi) (k.wrap x) := by
  unfold fitR
  cases hc : leb (kMin k) lo && leb hi (kMax k) with
  | true =>
    simp only [Bool.and_eq_true] at hc
    rw [wrap_id k x (Int.le_trans (leb_ok hc.1) h1) (Int.le_trans h2 (leb_ok hc.2))]
    exact ⟨fun a h => by cases h; exact h1, fun b h => by cases h; exact h2⟩
  | false => exact inRg_k k x
def rngT : Rg := (none, none)
theorem inRgT (x : Int) : inRg rngT x := ⟨fun _ h => (by cases h), fun _ h => (by cases h)⟩
def wraps : BinOp → Bool
  | .add | .sub | .mul | .quo | .and | .or | .xor | .andNot | .shl => true
  | _ => false
theorem wraps_ok {o : BinOp} (h : wraps o = true) (k : IntKind) (a b : Int) : ∃ x, binI o k a b = k.wrap x := by
  cases o <;> first | (cases h; done) | exact ⟨_, rfl⟩
/-- the bounds of what an operation gives, those of its numbers being known. -/
def binR (o : BinOp) (k : IntKind) (r s : Rg) : Rg := match o, r, s with
  | .add, (some l, some h), (some l', some h') => fitR k (l + l') (h + h')
  | .sub, (some l, some h), (some l', some h') => fitR k (l - h') (h - l')
  | .rem, (some (.ofNat _), h), (some (.ofNat (m + 1)), some (.ofNat m')) => (some (.ofNat 0), some (.ofNat (m' - 1)))
  | .and, _, (some (.ofNat _), some (.ofNat m)) => bif leb (.ofNat m) (kMax k) then (some (.ofNat 0), some (.ofNat m)) else (some (kMin k), some (kMax k))
  | .shr, (some (.ofNat l), some (.ofNat h)), (some (.ofNat a), some (.ofNat b)) => (some (.ofNat 0), some (.ofNat (h / 2 ^ (bif Nat.ble a k.bits then a else k.bits))))
  | .rem, _, _ => rngT
  | o, _, _ => bif wraps o then (some (kMin k), some (kMax k)) else rngT
theorem and_le (n : Nat) (a : Int) (m : Nat) : (BitVec.ofInt n a &&& BitVec.ofInt n (m : Int)).toNat ≤ m := by
  rw [BitVec.toNat_and]
  refine Nat.le_trans Nat.and_le_right ?_
  rw [BitVec.toNat_ofInt]
  have : ((m : Int) % ((2 ^ n : Nat) : Int)).toNat = m % 2 ^ n := by
    rw [← Int.natCast_emod]; exact Int.toNat_natCast _
  rw [this]; exact Nat.mod_le _ _
theorem inRg_some {l h x : Int} (hr : inRg (some l, some h) x) : l ≤ x ∧ x ≤ h := ⟨hr.1 _ rfl, hr.2 _ rfl⟩
theorem wr_ok (o : BinOp) (k : IntKind) (a b : Int) : inRg (bif wraps o then (some (kMin k), some (kMax k)) else rngT) (binI o k a b) := by
  cases hw : wraps o with
  | true => obtain ⟨x, e⟩ := wraps_ok hw k a b; rw [e]; exact inRg_k k x
  | false => exact inRgT _
theorem binR_ok {o : BinOp} {k : IntKind} {r s : Rg} {a b : Int} (h1 : inRg r a) (h2 : inRg s b) : inRg (binR o k r s) (binI o k a b) := by
  unfold binR
  split
  · have := inRg_some h1; have := inRg_some h2; exact fitR_ok (by omega) (by omega)
  · have := inRg_some h1; have := inRg_some h2; exact fitR_ok (by omega) (by omega)
  · rename_i l h m m'
    have h0 := h1.1 _ rfl
    have := inRg_some h2
    simp only [Int.ofNat_eq_natCast] at *
    have ha : 0 ≤ a := by omega
    have hb : 0 < b := by omega
    simp only [binI]
    have e1 : 0 ≤ a.tmod b := Int.tmod_nonneg b ha
    have e2 : a.tmod b < b := Int.tmod_lt_of_pos a hb
    exact ⟨fun x hx => by cases hx; simpa using e1, fun x hx => by cases hx; (try simp only [Int.ofNat_eq_natCast] at *); omega⟩
  · rename_i m0 m
    cases hc : leb (.ofNat m) (kMax k) with
    | false => exact inRg_k k _
    | true =>
      have := inRg_some h2
      simp only [Int.ofNat_eq_natCast] at *
      have hb : b = (b.toNat : Int) := by omega
      have hle : (BitVec.ofInt k.bits a &&& BitVec.ofInt k.bits b).toNat ≤ m := by
        rw [hb]; refine Nat.le_trans (and_le _ _ _) ?_; omega
      have hmx := leb_ok hc
      have : binI .and k a b = ((BitVec.ofInt k.bits a &&& BitVec.ofInt k.bits b).toNat : Int) := by
        simp only [binI]
        refine wrap_id k _ ?_ ?_
        · have : kMin k ≤ 0 := by cases k <;> simp [kMin]
          omega
        · (try simp only [Int.ofNat_eq_natCast] at hmx); omega
      rw [this]
      exact ⟨fun x hx => by cases hx; simp, fun x hx => by cases hx; (try simp only [Int.ofNat_eq_natCast] at *); omega⟩
  · rename_i l h a' b'
    have := inRg_some h1
    have := inRg_some h2
    simp only [Int.ofNat_eq_natCast] at *
    obtain ⟨x, rfl⟩ : ∃ x : Nat, a = x := ⟨a.toNat, by omega⟩
    obtain ⟨y, rfl⟩ : ∃ y : Nat, b = y := ⟨b.toNat, by omega⟩
    simp only [binI, Int.toNat_natCast]
    have hp : ((2 : Int) ^ (min y k.bits)) = ((2 ^ min y k.bits : Nat) : Int) := by simp
    rw [hp, Int.fdiv_eq_ediv_of_nonneg _ (Int.natCast_nonneg _), ← Int.natCast_ediv]
    refine ⟨fun z hz => by cases hz; exact Int.natCast_nonneg _, fun z hz => ?_⟩
    cases hz
    have : (bif Nat.ble a' k.bits then a' else k.bits) ≤ min y k.bits := by
      cases hq : Nat.ble a' k.bits with
      | true => have := Nat.le_of_ble_eq_true hq; simp only [cond_true]; omega
      | false =>
        have : ¬ a' ≤ k.bits := fun hc => by rw [Nat.ble_eq_true_of_le hc] at hq; cases hq
        simp only [cond_false]; omega
    have hxh : x ≤ h := by omega
    exact Int.ofNat_le.2 (Nat.le_trans (Nat.div_le_div_right hxh) (Nat.div_le_div_left (Nat.pow_le_pow_right (by omega) this) (Nat.pow_pos (by omega))))
  · exact inRgT _
  · exact wr_ok _ k a b
def hullR (r s : Rg) : Rg :=
  (match r.1, s.1 with
    | some a, some b => some (bif ltb a b then a else b)
    | _, _ => none,
   match r.2, s.2 with
    | some a, some b => some (bif ltb a b then b else a)
    | _, _ => none)
theorem hullR_l {r s : Rg} {x : Int} (h : inRg r x) : inRg (hullR r s) x := by
  obtain ⟨r1, r2⟩ := r; obtain ⟨s1, s2⟩ := s
  refine ⟨fun a ha => ?_, fun b hb => ?_⟩
  · cases r1 <;> cases s1 <;> simp only [hullR] at ha <;> cases ha
    rename_i u v
    have := h.1 _ rfl
    cases hc : ltb u v with
    | true => exact this
    | false => have := ltb_no hc; simp only [cond_false]; omega
  · cases r2 <;> cases s2 <;> simp only [hullR] at hb <;> cases hb
    rename_i u v
    have := h.2 _ rfl
    cases hc : ltb u v with
    | true => have := ltb_ok hc; simp only [cond_true]; omega
    | false => exact this
theorem hullR_r {r s : Rg} {x : Int} (h : inRg s x) : inRg (hullR r s) x := by
  obtain ⟨r1, r2⟩ := r; obtain ⟨s1, s2⟩ := s
  refine ⟨fun a ha => ?_, fun b hb => ?_⟩
  · cases r1 <;> cases s1 <;> simp only [hullR] at ha <;> cases ha
    rename_i u v
    have := h.1 _ rfl
    cases hc : ltb u v with
    | true => have := ltb_ok hc; simp only [cond_true]; omega
    | false => exact this
  · cases r2 <;> cases s2 <;> simp only [hullR] at hb <;> cases hb
    rename_i u v
    have := h.2 _ rfl
    cases hc : ltb u v with
    | true => exact this
    | false => have := ltb_no hc; simp only [cond_false]; omega
def rng : Nat → E → Rg
  | 0, _ => rngT
  | d + 1, e => match e with
    | .lit n => (some n, some n)
    | .conv k a => match rng d a with
      | (some l, some h) => fitR k l h
      | _ => (some (kMin k), some (kMax k))
    | .bin o k a b => binR o k (rng d a) (rng d b)
    | .un .neg k _ | .un .xor k _ => (some (kMin k), some (kMax k))
    | .len _ | .cnt _ | .find .. => (some (.ofNat 0), none)
    | .ofB _ => (some (.ofNat 0), some (.ofNat 1))
    | .get (.byt _) _ => (some (.ofNat 0), some (.ofNat 255))
    | .get (.app f _ _) _ => match (shapeJ f).2 with
      | some k => (some (kMin k), some (kMax k))
      | none => rngT
    | .ite _ x y => hullR (rng d x) (rng d y)
    | _ => rngT
theorem byte_rg (i : Int) : 0 ≤ byte i ∧ byte i ≤ 255 := by
  unfold byte
  have := (UInt8.ofNat i.toNat).toNat_lt
  omega
theorem rng_ok (ρ : Env) : ∀ (d : Nat) (e : E), inRg (rng d e) (e.den ρ)
  | 0, e => inRgT _
  | d + 1, e => by
    unfold rng
    split
    · exact ⟨fun _ h => by cases h; exact Int.le_refl _, fun _ h => by cases h; exact Int.le_refl _⟩
    · rename_i k a
      have ih := rng_ok ρ d a
      split
      · rename_i l h hr
        rw [hr] at ih
        obtain ⟨h1, h2⟩ := inRg_some ih
        exact fitR_ok h1 h2
      · exact inRg_k k _
    · rename_i o k a b
      exact binR_ok (rng_ok ρ d a) (rng_ok ρ d b)
    · exact inRg_k _ _
    · exact inRg_k _ _
    · exact ⟨fun _ h => by cases h; simp [E.den], fun _ h => by cases h⟩
    · exact ⟨fun _ h => by cases h; simp [E.den], fun _ h => by cases h⟩
    · exact ⟨fun _ h => by cases h; simp [E.den], fun _ h => by cases h⟩
    · rename_i b
      simp only [E.den]
      refine ⟨fun _ h => ?_, fun _ h => ?_⟩ <;> cases h <;> cases b.den ρ <;> simp [b2i]
    · rename_i l i
      simp only [E.den, L.den]
      have : ∀ (l : List Int) (n : Nat), 0 ≤ (l.map byte).getD n 0 ∧ (l.map byte).getD n 0 ≤ 255 := by
        intro l n
        rw [List.getD]
        cases hq : (l.map byte)[n]? with
        | none => simp
        | some v =>
          rw [List.getElem?_map] at hq
          obtain ⟨u, _, rfl⟩ := Option.map_eq_some_iff.1 hq
          exact byte_rg u
      exact ⟨fun _ h => by cases h; exact (this _ _).1, fun _ h => by cases h; exact (this _ _).2⟩
    · rename_i f a as i
      split
      · rename_i k hk
        obtain ⟨x, hx⟩ := J_mem hk (a.den ρ) (as.den ρ) (i.den ρ).toNat
        show inRg _ ((J f (a.den ρ) (as.den ρ)).getD (i.den ρ).toNat 0)
        rw [hx]; exact inRg_k k x
      · exact inRgT _
    · rename_i b x y
      simp only [E.den]
      cases b.den ρ with
      | true => exact hullR_l (rng_ok ρ d x)
      | false => exact hullR_r (rng_ok ρ d y)
    · exact inRgT _
/-- surely less, surely not? -/
def ltO : Option Int → Option Int → Bool
  | some a, some b => ltb a b
  | _, _ => false
def leO : Option Int → Option Int → Bool
  | some a, some b => leb a b
  | _, _ => false
def ltR (r s : Rg) : Option Bool := bif ltO r.2 s.1 then some true else bif leO s.2 r.1 then some false else none
theorem ltR_ok {r s : Rg} {a b : Int} {t : Bool} (h1 : inRg r a) (h2 : inRg s b) (h : ltR r s = some t) : ltb a b = t := by
  obtain ⟨l, hh⟩ := r
  obtain ⟨l', h'⟩ := s
  unfold ltR at h
  simp only at h
  cases hc : ltO hh l' with
  | true =>
    rw [hc] at h; cases h
    cases hh <;> cases l' <;> simp only [ltO] at hc <;> first | (cases hc; done) | skip
    have e1 := h1.2 _ rfl
    have e2 := h2.1 _ rfl
    have := ltb_ok hc
    rw [ltb_eq]; simp; omega
  | false =>
    rw [hc, cond_false] at h
    cases hd : leO h' l with
    | true =>
      rw [hd] at h; cases h
      cases h' <;> cases l <;> simp only [leO] at hd <;> first | (cases hd; done) | skip
      have e1 := h1.1 _ rfl
      have e2 := h2.2 _ rfl
      have := leb_ok hd
      rw [ltb_eq]; simp; omega
    | false => rw [hd] at h; cases h
end Go.Proofs.YtmckhoaekbeijaaGreat.E
/- Letters put together shortly; parts of rows; one operation at a time. Plain Lean over the kit's model; no program. -/
namespace Go.Proofs.YtmckhoaekbeijaaGreat.E
open Go Go.RowKit
set_option linter.unusedVariables false

/-! ### short forms -/
def mkLt0 : E → E → B
  | .lit a, .lit b => .lit (ltb a b)
  | a, b => match ltR (rng 5 a) (rng 5 b) with
    | some t => .lit t
    | none => bif a.same b then .lit false else .lt a b
def isT : Option Bool → Bool
  | some t => t
  | none => false
theorem isT_ok {o : Option Bool} (h : isT o = true) : o = some true := by
  cases o with
  | none => cases h
  | some t => cases t <;> first | rfl | cases h
def mkNot : B → B
  | .lit b => .lit (!b)
  | .not b => b
  | b => .not b
def mkAnd : B → B → B
  | .lit true, b => b
  | .lit false, _ => .lit false
  | a, .lit true => a
  | _, .lit false => .lit false
  | a, b => .and a b
/-- of numbers that hang on truths. -/
def ltIte (n : Int) : E → B
  | .lit i => .lit (ltb i n)
  | .ite c x y => match mkLt0 x (.lit n) with
    | .lit i => bif i then mkNot (mkAnd (mkNot c) (mkNot (ltIte n y))) else mkAnd (mkNot c) (ltIte n y)
    | _ => mkLt0 (.ite c x y) (.lit n)
  | a => mkLt0 a (.lit n)
def mkLt : E → E → B
  | .ite c x y, .lit n => ltIte n (.ite c x y)
  | a, b => mkLt0 a b
theorem mkNot_den (ρ : Env) (a : B) : (mkNot a).den ρ = !a.den ρ := by unfold mkNot; split <;> simp [B.den]
theorem mkAnd_den (ρ : Env) (a b : B) : (mkAnd a b).den ρ = (a.den ρ && b.den ρ) := by
  unfold mkAnd; split <;> simp [B.den]
/-- are two truths one? -/
def mkIff (a b : B) : B := match a, b with
  | .lit true, b => b
  | .lit false, b => mkNot b
  | a, .lit true => a
  | a, .lit false => mkNot a
  | a, b => mkNot (mkAnd (mkNot (mkAnd a b)) (mkNot (mkAnd (mkNot a) (mkNot b))))
theorem mkIff_den (ρ : Env) (a b : B) : (mkIff a b).den ρ = (a.den ρ == b.den ρ) := by
  unfold mkIff
  split <;> simp only [mkNot_den, mkAnd_den, B.den] <;> first | (cases B.den ρ _ <;> rfl) | (cases B.den ρ _ <;> cases B.den ρ _ <;> rfl)
theorem eqb_b2i' (a b : Bool) : eqb (b2i a) (b2i b) = (a == b) := by cases a <;> cases b <;> rfl
def mkEq : E → E → B
  | .lit a, .lit b => .lit (eqb a b)
  | .ofB a, .ofB b => bif a.same b then .lit true else mkIff a b
  | .lit (.ofNat n), .ofB b => bif Nat.beq n 0 then mkNot b else bif Nat.beq n 1 then b else .lit false
  | .ofB b, .lit (.ofNat n) => bif Nat.beq n 0 then mkNot b else bif Nat.beq n 1 then b else .lit false
  | a, b => bif a.same b then .lit true else bif isT (ltR (rng 5 a) (rng 5 b)) || isT (ltR (rng 5 b) (rng 5 a)) then .lit false else .eq a b
theorem b2i_n (n : Nat) (t : Bool) : eqb (.ofNat n) (b2i t) = bif Nat.beq n 0 then !t else bif Nat.beq n 1 then t else false := by
  match n with
  | 0 => cases t <;> rfl
  | 1 => cases t <;> rfl
  | n + 2 => cases t <;> rfl
theorem eqb_comm (a b : Int) : eqb a b = eqb b a := by rw [eqb_eq, eqb_eq, Bool.eq_iff_iff, beq_iff_eq, beq_iff_eq]; exact ⟨Eq.symm, Eq.symm⟩
theorem mkBit_den (ρ : Env) (n : Nat) (b : B) : (bif Nat.beq n 0 then mkNot b else bif Nat.beq n 1 then b else B.lit false).den ρ = eqb (.ofNat n) (b2i (b.den ρ)) := by
  rw [b2i_n]
  cases Nat.beq n 0 <;> cases Nat.beq n 1 <;> simp [mkNot_den, B.den]
theorem mkLt0_den (ρ : Env) (a b : E) : (mkLt0 a b).den ρ = ltb (a.den ρ) (b.den ρ) := by
  unfold mkLt0
  split
  · rfl
  · split
    · rename_i t ht; exact (ltR_ok (rng_ok ρ 5 _) (rng_ok ρ 5 _) ht).symm
    · cases h : E.same _ _ with
      | true => rw [E.same_ok h, ltb_eq]; simp [B.den]
      | false => rfl
theorem ltIte_den (ρ : Env) (n : Int) : ∀ a : E, (ltIte n a).den ρ = ltb (a.den ρ) n
  | .lit i => rfl
  | .ite c x y => by
    have ih := ltIte_den ρ n y
    unfold ltIte
    split
    · rename_i i hx
      have hx := congrArg (B.den ρ) hx
      rw [mkLt0_den] at hx
      have hx : ltb (x.den ρ) n = i := hx
      cases i with
      | true =>
        simp only [cond_true, mkNot_den, mkAnd_den, ih, E.den]
        cases c.den ρ <;> simp [hx]
      | false =>
        simp only [cond_false, mkNot_den, mkAnd_den, ih, E.den]
        cases c.den ρ <;> simp [hx]
    · exact mkLt0_den ρ _ _
  | .var _ | .ix | .bin .. | .un .. | .conv .. | .get .. | .len _ | .cnt _ | .ofB _ | .find .. => mkLt0_den ρ _ _
theorem mkLt_den (ρ : Env) (a b : E) : (mkLt a b).den ρ = ltb (a.den ρ) (b.den ρ) := by
  unfold mkLt
  split
  · exact ltIte_den ρ _ _
  · exact mkLt0_den ρ _ _
theorem mkEq_den (ρ : Env) (a b : E) : (mkEq a b).den ρ = eqb (a.den ρ) (b.den ρ) := by
  unfold mkEq
  split
  · rfl
  · simp only [E.den, eqb_b2i']
    cases h : B.same _ _ with
    | true => rw [B.same_ok h]; simp [B.den]
    | false => exact mkIff_den ρ _ _
  · exact mkBit_den ρ _ _
  · rw [mkBit_den, eqb_comm]; rfl
  · cases h : E.same _ _ with
    | true => rw [E.same_ok h, eqb_eq]; simp [B.den]
    | false =>
      rw [cond_false]
      cases hq : isT (ltR (rng 5 _) (rng 5 _)) || isT (ltR (rng 5 _) (rng 5 _)) with
      | false => rfl
      | true =>
        rw [cond_true, eqb_eq]
        simp only [B.den]
        rcases (Bool.or_eq_true _ _).mp hq with hq | hq
        · have := ltR_ok (rng_ok ρ 5 _) (rng_ok ρ 5 _) (isT_ok hq)
          rw [ltb_eq] at this; simp at this
          symm; simp; omega
        · have := ltR_ok (rng_ok ρ 5 _) (rng_ok ρ 5 _) (isT_ok hq)
          rw [ltb_eq] at this; simp at this
          symm; simp; omega
def andsB : List B → B
  | [] => .lit true
  | b :: l => mkAnd b (andsB l)
theorem andsB_den (ρ : Env) : ∀ l : List B, (andsB l).den ρ = true ↔ ∀ b ∈ l, b.den ρ = true
  | [] => by simp [andsB, B.den]
  | b :: l => by simp [andsB, mkAnd_den, andsB_den ρ l]

/-- how long, where that is written. -/
def lenLit : L → Option Nat
  | .nil => some 0
  | .cons _ l => match lenLit l with
    | some n => some (n + 1)
    | none => none
  | .cat a b => match lenLit a, lenLit b with
    | some n, some m => some (n + m)
    | _, _ => none
  | .sub _ _ n => some n
  | .set l _ _ => lenLit l
  | .rep (.lit (.ofNat n)) _ => some n
  | .byt l => lenLit l
  | .app f _ _ => (shapeJ f).1
  | _ => none
theorem lenLit_ok (ρ : Env) : ∀ {l : L} {n : Nat}, lenLit l = some n → (l.den ρ).length = n
  | .nil, n, h => by cases h; rfl
  | .cons e l, n, h => by
    unfold lenLit at h
    split at h
    · rename_i m hm; cases h; simp [L.den, lenLit_ok ρ hm]
    · cases h
  | .cat a b, n, h => by
    unfold lenLit at h
    split at h
    · rename_i m k hm hk; cases h; simp [L.den, lenLit_ok ρ hm, lenLit_ok ρ hk]
    · cases h
  | .sub l o m, n, h => by unfold lenLit at h; cases h; simp [L.den, subL]
  | .set l i x, n, h => by unfold lenLit at h; simp [L.den, lenLit_ok ρ h]
  | .rep (.lit (.ofNat m)) x, n, h => by unfold lenLit at h; cases h; simp [L.den, E.den]
  | .byt l, n, h => by unfold lenLit at h; simp [L.den, lenLit_ok ρ h]
  | .app f a as, n, h => by unfold lenLit at h; exact J_len h _ _
  | .rep (.lit (.negSucc m)) x, n, h => by unfold lenLit at h; cases h
  | .rep (.var _) _, n, h | .rep .ix _, n, h | .rep (.bin ..) _, n, h | .rep (.un ..) _, n, h | .rep (.conv ..) _, n, h | .rep (.get ..) _, n, h | .rep (.len _) _, n, h | .rep (.cnt _) _, n, h | .rep (.ofB _) _, n, h | .rep (.ite ..) _, n, h | .rep (.find ..) _, n, h => by unfold lenLit at h; cases h
  | .var _, n, h | .at .., n, h | .cut .., n, h | .ite .., n, h | .join _, n, h => by unfold lenLit at h; cases h
def mkLen (l : L) : E := match lenLit l with
  | some n => .lit (.ofNat n)
  | none => .len l
theorem mkLen_den (ρ : Env) (l : L) : (mkLen l).den ρ = ((l.den ρ).length : Nat) := by
  unfold mkLen
  split
  · rename_i n h; rw [lenLit_ok ρ h]; rfl
  · rfl

/-- an element whose place is written. -/
def getN : L → Nat → E
  | .cons e _, 0 => e
  | .cons _ l, i + 1 => getN l i
  | .cat a b, i => match lenLit a with
    | some n => if Nat.blt i n then getN a i else getN b (i - n)
    | none => .get (.cat a b) (.lit (.ofNat i))
  | .sub l o n, i => if Nat.blt i n then getN l (o + i) else .lit 0
  | .set l (.lit (.ofNat j)) x, i => if Nat.beq i j then (match lenLit l with | some n => if Nat.blt i n then x else .lit 0 | none => .get (.set l (.lit (.ofNat j)) x) (.lit (.ofNat i))) else getN l i
  | .rep (.lit (.ofNat n)) x, i => if Nat.blt i n then x else .lit 0
  | l, i => .get l (.lit (.ofNat i))
theorem getN_den (ρ : Env) : ∀ (l : L) (i : Nat), (getN l i).den ρ = (l.den ρ).getD i 0
  | .cons e _, 0 => by simp [getN, L.den]
  | .cons _ l, i + 1 => by simp [getN, L.den, getN_den ρ l i]
  | .cat a b, i => by
    unfold getN
    split
    · rename_i n hn
      have hl := lenLit_ok ρ hn
      split
      · rename_i h
        have h : i < n := Nat.le_of_ble_eq_true h
        rw [getN_den ρ a i]
        simp [L.den, List.getD, List.getElem?_append, hl, h]
      · rename_i h
        have h : ¬ i < n := fun hc => h (Nat.ble_eq_true_of_le hc)
        rw [getN_den ρ b (i - n)]
        simp [L.den, List.getD, List.getElem?_append, hl, h]
    · rfl
  | .sub l o n, i => by
    unfold getN
    split
    · rename_i h
      have h : i < n := Nat.le_of_ble_eq_true h
      rw [getN_den ρ l (o + i)]
      simp [L.den, subL, List.getD, h]
    · rename_i h
      have h : ¬ i < n := fun hc => h (Nat.ble_eq_true_of_le hc)
      simp [L.den, E.den, subL, List.getD, h]
  | .set l (.lit (.ofNat j)) x, i => by
    unfold getN
    split
    · rename_i h
      obtain rfl := Nat.eq_of_beq_eq_true h
      split
      · rename_i n hn
        have hl := lenLit_ok ρ hn
        split
        · rename_i h
          have h : i < n := Nat.le_of_ble_eq_true h
          simp [L.den, E.den, List.getD, hl, h]
        · rename_i h
          have h : ¬ i < n := fun hc => h (Nat.ble_eq_true_of_le hc)
          simp [L.den, E.den, List.getD, hl, h]
      · simp [E.den]
    · rename_i h
      have h : ¬ i = j := fun hc => h (by rw [hc]; exact Nat.beq_refl j)
      rw [getN_den ρ l i]
      simp [L.den, E.den, List.getD, Ne.symm h]
  | .rep (.lit (.ofNat n)) x, i => by
    unfold getN
    split
    · rename_i h
      have h : i < n := Nat.le_of_ble_eq_true h
      simp [L.den, E.den, List.getD, h]
    · rename_i h
      have h : ¬ i < n := fun hc => h (Nat.ble_eq_true_of_le hc)
      simp [L.den, E.den, List.getD, h]
  | .set l (.lit (.negSucc m)) x, i => by simp [getN, E.den]
  | .set l (.var _) x, i | .set l .ix x, i | .set l (.bin ..) x, i | .set l (.un ..) x, i | .set l (.conv ..) x, i | .set l (.get ..) x, i | .set l (.len _) x, i | .set l (.cnt _) x, i | .set l (.ofB _) x, i | .set l (.ite ..) x, i | .set l (.find ..) x, i => by simp [getN, E.den]
  | .rep (.lit (.negSucc m)) x, i => by simp [getN, E.den]
  | .rep (.var _) x, i | .rep .ix x, i | .rep (.bin ..) x, i | .rep (.un ..) x, i | .rep (.conv ..) x, i | .rep (.get ..) x, i | .rep (.len _) x, i | .rep (.cnt _) x, i | .rep (.ofB _) x, i | .rep (.ite ..) x, i | .rep (.find ..) x, i => by simp [getN, E.den]
  | .nil, i | .var _, i | .at .., i | .cut .., i | .app .., i | .ite .., i | .byt .., i | .join _, i => by simp [getN, E.den]
def mkGet (l : L) : E → E
  | .lit (.ofNat i) => getN l i
  | i => .get l i
theorem mkGet_den (ρ : Env) (l : L) (i : E) : (mkGet l i).den ρ = (l.den ρ).getD (i.den ρ).toNat 0 := by
  unfold mkGet
  split
  · rw [getN_den]; rfl
  · rfl

/-- is a number the place of one of so many? -/
def inB (i n : E) : B := mkAnd (mkNot (mkLt i (.lit 0))) (mkLt i n)
theorem inB_den {ρ : Env} {i n : E} (h : (inB i n).den ρ = true) : 0 ≤ i.den ρ ∧ i.den ρ < n.den ρ := by
  simp only [inB, mkAnd_den, mkNot_den, mkLt_den, ltb_eq, Bool.and_eq_true, Bool.not_eq_true', decide_eq_false_iff_not, decide_eq_true_eq, E.den] at h
  exact ⟨by omega, h.2⟩

/-! ### another index -/
mutual
def V.inst (v : V) (x : E) : V := match v with
  | .int k e => .int k (e.inst x)
  | .bool b => .bool (b.inst x)
  | .str l => .str (l.inst x)
  | .fs z r => .fs z (Row.inst r x)
  | .fe r i z c => .fe (Row.inst r x) (i.inst x) z c
  | .key c s => .key c (s.inst x)
  | .opt b v => .opt (b.inst x) (V.inst v x)
  | v => v
termination_by structural v
def V.insts (vs : List V) (x : E) : List V := match vs with
  | [] => []
  | v :: vs => V.inst v x :: V.insts vs x
termination_by structural vs
def Row.inst (r : Row) (x : E) : Row := match r with
  | .any cs => .any (V.insts cs x)
  | .ints k l => .ints k (l.inst x)
  | .recs z n t => .recs z (n.inst x) t
termination_by structural r
end
theorem V.insts_map (x : E) : ∀ vs : List V, V.insts vs x = vs.map (V.inst · x)
  | [] => rfl
  | v :: vs => by unfold V.insts; rw [V.insts_map x vs]; rfl
mutual
theorem F1.inst : ∀ (v : V) (γ : Gm) (x : E) (y : Value), F1 v (γ.at (x.den γ.env)) y → F1 (v.inst x) γ y := by
  intro v γ x y h
  cases v with
  | int k e => simp only [V.inst, F1] at h ⊢; rw [E.inst_den]; exact h
  | bool b => simp only [V.inst, F1] at h ⊢; rw [B.inst_den]; exact h
  | str l => simp only [V.inst, F1] at h ⊢; rw [L.inst_den]; exact h
  | fs z r =>
    simp only [V.inst, F1] at h ⊢
    obtain ⟨xs, n, c, a, h1, h2, h3, h4, h5⟩ := h
    exact ⟨xs, n, c, a, h1, h2, h3, Fr.inst r γ x xs h4, h5⟩
  | fe r i z c =>
    simp only [V.inst, F1] at h ⊢
    obtain ⟨xs, b, d, full, h1, h2, h3, h4⟩ := h
    exact ⟨xs, b, d, full, by rw [E.inst_den]; exact h1, Fr.inst r γ x xs h2, h3, h4⟩
  | key c s => simp only [V.inst, F1] at h ⊢; rw [E.inst_den]; exact h
  | opt b v => simp only [V.inst, F1] at h ⊢; rw [B.inst_den]; exact ⟨fun e => F1.inst v γ x y (h.1 e), h.2⟩
  | sc y => simpa only [V.inst, F1] using h
  | _ => simp only [F1] at h
theorem Fs.inst : ∀ (vs : List V) (γ : Gm) (x : E) (ys : List Value), Fs vs (γ.at (x.den γ.env)) ys → Fs (V.insts vs x) γ ys := by
  intro vs γ x ys h
  cases vs with
  | nil => cases ys <;> (unfold Fs at h; unfold V.insts Fs; exact h)
  | cons v vs => cases ys with
    | nil => unfold Fs at h; exact h.elim
    | cons y ys => unfold Fs at h; unfold V.insts Fs; exact ⟨F1.inst v γ x y h.1, Fs.inst vs γ x ys h.2⟩
theorem Fr.inst : ∀ (r : Row) (γ : Gm) (x : E) (ys : List Value), Fr r (γ.at (x.den γ.env)) ys → Fr (r.inst x) γ ys := by
  intro r γ x ys h
  cases r with
  | any cs => simp only [Row.inst, Fr] at h ⊢; exact Fs.inst cs γ x ys h
  | ints k l => simp only [Row.inst, Fr] at h ⊢; rw [L.inst_den]; exact h
  | recs z n t => simp only [Row.inst, Fr] at h ⊢; rw [E.inst_den]; exact h
end

/-! ### parts of a row -/
def idxE (i : E) (z c : Nat) : Option E := match i with
  | .lit (.ofNat m) => some (.lit (.ofNat (m * z + c)))
  | i => if Nat.beq z 1 && Nat.beq c 0 then some i else none
theorem idxE_ok {ρ : Env} {i e : E} {z c : Nat} (h : idxE i z c = some e) : (e.den ρ).toNat = (i.den ρ).toNat * z + c := by
  unfold idxE at h
  split at h
  · cases h; rfl
  · split at h
    · rename_i hc
      simp only [Bool.and_eq_true] at hc
      cases h
      rw [Nat.eq_of_beq_eq_true hc.1, Nat.eq_of_beq_eq_true hc.2]; omega
    · cases h
/-- the numbers from a place on. -/
def segI (k : IntKind) (l : L) (i : E) (z c : Nat) : Nat → Option (List V × List B)
  | 0 => some ([], [])
  | m + 1 => match idxE i z c, segI k l i z (c + 1) m with
    | some e, some (cs, bs) => some (.int k (mkGet l e) :: cs, inB e (mkLen l) :: bs)
    | _, _ => none
/-- so many cells from a place on; what must hold. -/
def Row.seg (r : Row) (i : E) (z c k : Nat) : Option (List V × List B) := match r with
  | .any cs => match i with
    | .lit (.ofNat m) => if Nat.ble (m * z + c + k) cs.length then some ((cs.drop (m * z + c)).take k, []) else none
    | _ => if Nat.beq z 0 && Nat.ble (c + k) cs.length then some ((cs.drop c).take k, []) else none
  | .ints kd l => segI kd l i z c k
  | .recs z' n t => if Nat.beq z z' && Nat.ble (c + k) z && Nat.beq t.length z then some (V.insts ((t.drop c).take k) i, [inB i n]) else none

theorem F2.up1 {β : Bt} {vs : List V} {xs : List Value} (h : Fs vs β.g xs) : F2 (R1 β) vs xs := (Fs_iff.1 h).mono fun _ _ h => (F1.up h).up
theorem RH.ofFr {β : Bt} {r : Row} {xs : List Value} (h : Fr r β.g xs) : RH β r xs := by
  cases r with
  | any cs => simp only [Fr] at h; exact F2.up1 h
  | _ => exact h

theorem segI_ok {β : Bt} {kd : IntKind} {l : L} {i : E} {z : Nat} : ∀ {k c : Nat} {cs : List V} {bs : List B}, segI kd l i z c k = some (cs, bs) → (∀ b ∈ bs, b.den β.g.env = true) →
    F2 (R1 β) cs (((((l.den β.g.env).map (Value.int kd)).drop ((i.den β.g.env).toNat * z + c)).take k)) ∧ (0 < k → (i.den β.g.env).toNat * z + c + k ≤ (l.den β.g.env).length)
  | 0, c, cs, bs, h, _ => by cases h; simp [F2]
  | k + 1, c, cs, bs, h, hb => by
    unfold segI at h
    split at h
    · rename_i e cs' bs' he hr
      cases h
      have h0 := idxE_ok (ρ := β.g.env) he
      have h1 := inB_den (hb _ (List.mem_cons_self ..))
      rw [mkLen_den] at h1
      have hlt : (i.den β.g.env).toNat * z + c < (l.den β.g.env).length := by omega
      obtain ⟨r1, r2⟩ := segI_ok hr fun b hm => hb b (List.mem_cons_of_mem _ hm)
      have hd : List.drop ((i.den β.g.env).toNat * z + c) ((l.den β.g.env).map (Value.int kd)) = Value.int kd ((l.den β.g.env).getD ((i.den β.g.env).toNat * z + c) 0) :: List.drop ((i.den β.g.env).toNat * z + (c + 1)) ((l.den β.g.env).map (Value.int kd)) := by
        rw [List.drop_eq_getElem_cons (by simpa using hlt)]
        simp [List.getD, hlt, Nat.add_assoc]
      rw [hd, List.take_succ_cons]
      refine ⟨⟨?_, r1⟩, fun _ => ?_⟩
      · show F1 (.int kd (mkGet l e)) β.g _
        simp only [F1, mkGet_den, h0]
      · cases k with
        | zero => omega
        | succ k => have := r2 (by omega); omega
    · cases h

theorem RH.seg {β : Bt} {r : Row} {xs : List Value} {i : E} {z c k : Nat} {cs : List V} {bs : List B} (h : RH β r xs) (hs : r.seg i z c k = some (cs, bs)) (hb : ∀ b ∈ bs, b.den β.g.env = true) :
    F2 (R1 β) cs ((xs.drop ((i.den β.g.env).toNat * z + c)).take k) ∧ (0 < k → (i.den β.g.env).toNat * z + c + k ≤ xs.length) := by
  cases r with
  | any vs =>
    have hf : F2 (R1 β) vs xs := h
    unfold Row.seg at hs
    simp only at hs
    split at hs
    · rename_i m
      split at hs
      · rename_i hle
        cases hs
        have hle := Nat.le_of_ble_eq_true hle
        have hl := hf.length
        simp only [E.den, Int.ofNat_eq_natCast, Int.toNat_natCast]
        exact ⟨(hf.drop _).take _, fun _ => by omega⟩
      · cases hs
    · split at hs
      · rename_i hc
        simp only [Bool.and_eq_true] at hc
        cases hs
        have hle := Nat.le_of_ble_eq_true hc.2
        have hz := Nat.eq_of_beq_eq_true hc.1
        have hl := hf.length
        subst hz
        simp only [Nat.mul_zero, Nat.zero_add]
        exact ⟨(hf.drop _).take _, fun _ => by omega⟩
      · cases hs
  | ints kd l =>
    have hx : xs = (l.den β.g.env).map (.int kd) := by simpa only [RH, Fr] using h
    subst hx
    obtain ⟨h1, h2⟩ := segI_ok hs hb
    exact ⟨h1, fun hk => by simpa using h2 hk⟩
  | recs z' n t =>
    have h' : 0 ≤ n.den β.g.env ∧ xs.length = (n.den β.g.env).toNat * z' ∧ ∀ i : Nat, i < (n.den β.g.env).toNat → Fs t (β.g.at i) ((xs.drop (i * z')).take z') := by simpa only [RH, Fr] using h
    unfold Row.seg at hs
    simp only at hs
    split at hs
    · rename_i hc
      simp only [Bool.and_eq_true] at hc
      cases hs
      obtain rfl := Nat.eq_of_beq_eq_true hc.1.1
      have hle := Nat.le_of_ble_eq_true hc.1.2
      have ht := Nat.eq_of_beq_eq_true hc.2
      have hi := inB_den (hb _ (List.mem_singleton.2 rfl))
      have hi' : (i.den β.g.env).toNat < (n.den β.g.env).toNat := by omega
      have hF := h'.2.2 _ hi'
      have hto : (((i.den β.g.env).toNat : Nat) : Int) = i.den β.g.env := Int.toNat_of_nonneg hi.1
      rw [hto] at hF
      have hmul : (i.den β.g.env).toNat * z + z ≤ xs.length := by
        rw [h'.2.1]
        have := Nat.mul_le_mul_right z (Nat.succ_le_of_lt hi')
        rwa [Nat.succ_mul] at this
      refine ⟨?_, fun _ => by omega⟩
      have hG := F2.up1 (Fs.inst t β.g i _ hF)
      rw [V.insts_map] at hG ⊢
      have := (hG.drop c).take k
      rw [← List.map_drop, ← List.map_take] at this
      have e : ((xs.drop ((i.den β.g.env).toNat * z + c)).take k) = (((xs.drop ((i.den β.g.env).toNat * z)).take z).drop c).take k := by
        rw [List.drop_take, List.take_take, List.drop_drop, Nat.min_eq_left (by omega)]
      rw [e]; exact this
    · cases hs
end Go.Proofs.YtmckhoaekbeijaaGreat.E
/- One operation at a time. Plain Lean over the kit's model; no program. -/
namespace Go.Proofs.YtmckhoaekbeijaaGreat.E
open Go Go.RowKit
set_option linter.unusedVariables false

abbrev Fm := Nat → V

def litL : List Int → L
  | [] => .nil
  | i :: l => .cons (.lit i) (litL l)
theorem litL_den (ρ : Env) : ∀ l : List Int, (litL l).den ρ = l
  | [] => rfl
  | i :: l => by simp [litL, L.den, E.den, litL_den ρ l]
theorem strOf_self (s : ByteArray) : strOf (s.data.toList.map fun b => (b.toNat : Int)) = s := by
  unfold strOf
  rw [List.map_map]
  have : ((fun i : Int => UInt8.ofNat i.toNat) ∘ fun b : UInt8 => (b.toNat : Int)) = id := by funext b; simp
  rw [this]; simp

/-- one cell without addresses. -/
def ofC1 : Value → V
  | .int k n => .int k (.lit n)
  | .bool b => .bool (.lit b)
  | .string s => .str (litL (s.data.toList.map fun b => (b.toNat : Int)))
  | v => .sc v
/-- a value without addresses, as a slot's. -/
def ofC : Value → V
  | .agg cs => if cs.toList.all (·.oneCell') then .agg (cs.toList.map ofC1) else .und
  | .tuple _ => .und
  | v => ofC1 v
theorem F1_ofC1 (γ : Gm) {x : Value} (h : x.oneCell' = true) : F1 (ofC1 x) γ x := by
  cases x with
  | int k n => simp [ofC1, F1, E.den]
  | bool b => simp [ofC1, F1, B.den]
  | string s => simp [ofC1, F1, litL_den, strOf_self]
  | _ => simpa [ofC1, F1] using h
theorem F2.ofCs (β : Bt) : ∀ (l : List Value), l.all (·.oneCell') = true → F2 (R1 β) (l.map ofC1) l
  | [], _ => trivial
  | x :: l, h => by
    simp only [List.all_cons, Bool.and_eq_true] at h
    exact ⟨(F1.up (F1_ofC1 β.g h.1)).up, F2.ofCs β l h.2⟩
theorem R_ofC (β : Bt) (v : Value) : R β (ofC v) v := by
  unfold ofC
  split
  · split
    · rename_i cs h
      exact ⟨cs, rfl, F2.ofCs β _ h⟩
    · trivial
  · trivial
  · rename_i h1 h2
    refine (F1.up (F1_ofC1 β.g ?_)).toR
    cases v <;> first | rfl | (exact (h1 _ rfl).elim) | (exact (h2 _ rfl).elim)

def opd (fr : Fm) : Operand → V
  | .tmp t => fr t
  | .const v => ofC v
  | .func f => .fn (.func f) [] []
  | .global _ => .und

/-- an operation that asks of no object. -/
def POp (P : Program) (ρ : Env) (o : Oper) (fr : Fm) (v : V) : Prop :=
  ∀ (β : Bt) (a : Act) (w : World), β.g.env = ρ → (∀ x ∈ o.op.operands, R β (opd fr x) (a.eval x)) → ∃ x, (execOp a.eval o).run P w = .ok (.value x) w ∧ R β v x
/-- One operation: slots, first free name and objects before; value, first free name and objects behind it. -/
def TOp (P : Program) (ρ : Env) (o : Oper) (fr : Fm) (n : Nat) (σ : Sto) (v : V) (n' : Nat) (σ' : Sto) : Prop :=
  ∀ (β : Bt) (a : Act) (w : World) (K : Act → World → Prop) (Q : Exit → Act → World → Prop), Sim ρ n β σ w → (∀ x ∈ o.op.operands, R β (opd fr x) (a.eval x)) →
    (∀ x β' w', R β' v x → Sim ρ n' β' σ' w' → Step n β σ w β' σ' w' → K (a.put o.dst x) w') → o.wp P a w K Q

theorem Sim.all {ρ : Env} {n : Nat} {β β' : Bt} {σ σ' : Sto} {w w' : World} (h : Sim ρ n β σ w) (hs : Step n β σ w β' σ' w') : β.all β' :=
  ⟨hs.le.g, fun id q hq => hs.le.nm id q (h.lt hq) hq⟩

section
variable {P : Program} {ρ : Env} {o : Oper} {fr : Fm} {n : Nat} {σ : Sto}

theorem wp_val {a : Act} {w w' : World} {K : Act → World → Prop} {Q : Exit → Act → World → Prop} {x : Value} (h : (execOp a.eval o).run P w = .ok (.value x) w') (hk : K (a.put o.dst x) w') : o.wp P a w K Q := by
  unfold Oper.wp; rw [h]; exact hk
theorem wp_skp {a : Act} {w w' : World} {K : Act → World → Prop} {Q : Exit → Act → World → Prop} (h : (execOp a.eval o).run P w = .ok .skip w') (hk : K (a.put o.dst undef) w') : o.wp P a w K Q := by
  unfold Oper.wp; rw [h]; exact hk

/-- an operation that leaves the world alone. -/
theorem TOp.still {v : V} (h : ∀ (β : Bt) (a : Act) (w : World), Sim ρ n β σ w → (∀ x ∈ o.op.operands, R β (opd fr x) (a.eval x)) → ∃ x, (execOp a.eval o).run P w = .ok (.value x) w ∧ R β v x) : TOp P ρ o fr n σ v n σ := by
  intro β a w K Q hS ho hk
  obtain ⟨x, hr, hR⟩ := h β a w hS ho
  exact wp_val hr (hk x β w hR hS Step.refl)
theorem POp.op {v : V} (h : POp P ρ o fr v) : TOp P ρ o fr n σ v n σ := TOp.still fun β a w hS ho => h β a w hS.env ho

theorem POp.move {x : Operand} (h : o.op = .move x ∨ o.op = .assign x) : POp P ρ o fr (opd fr x) :=
  fun β a w _ ho => ⟨a.eval x, by rcases h with h | h <;> (unfold execOp; rw [h]; rfl), ho x (by rcases h with h | h <;> (rw [h]; simp [Op.operands]))⟩
theorem R_int {β : Bt} {k : IntKind} {e : E} {x : Value} (h : R β (.int k e) x) : x = .int k (e.den β.g.env) := by
  simpa only [R, R2, R1, R0, F1] using h
theorem R_bool {β : Bt} {b : B} {x : Value} (h : R β (.bool b) x) : x = .bool (b.den β.g.env) := by
  simpa only [R, R2, R1, R0, F1] using h
theorem R_str {β : Bt} {l : L} {x : Value} (h : R β (.str l) x) : x = .string (strOf (l.den β.g.env)) := by
  simpa only [R, R2, R1, R0, F1] using h
theorem R_sc {β : Bt} {y x : Value} (h : R β (.sc y) x) : x = y := by
  have : x = y ∧ y.oneCell' = true := by simpa only [R, R2, R1, R0, F1] using h
  exact this.1
theorem R.mkInt (β : Bt) (k : IntKind) {e : E} {n : Int} (h : e.den β.g.env = n) : R β (.int k e) (.int k n) := by
  simp only [R, R2, R1, R0, F1, h]
theorem R.mkBool (β : Bt) {b : B} {n : Bool} (h : b.den β.g.env = n) : R β (.bool b) (.bool n) := by
  simp only [R, R2, R1, R0, F1, h]
theorem R.mkStr (β : Bt) {l : L} {s : ByteArray} (h : strOf (l.den β.g.env) = s) : R β (.str l) (.string s) := by
  simp only [R, R2, R1, R0, F1, h]

theorem POp.pick {c x y : Operand} {b : B} {t : Bool} (h : o.op = .pick c x y) (hc : opd fr c = .bool b) (hb : b.den ρ = t) : POp P ρ o fr (bif t then opd fr x else opd fr y) :=
  fun β a w hρ ho => by
    have h1 : a.eval c = .bool t := by
      have := ho c (by rw [h]; simp [Op.operands]); rw [hc] at this
      rw [R_bool this, hρ, hb]
    refine ⟨if t then a.eval x else a.eval y, ?_, ?_⟩
    · unfold execOp; rw [h]; simp only [h1]; cases t <;> simp [asBool]
    · cases t
      · exact ho y (by rw [h]; simp [Op.operands])
      · exact ho x (by rw [h]; simp [Op.operands])

theorem POp.extract {x : Operand} {i : Nat} {vs : List V} {v : V} (h : o.op = .extract x i) (hx : opd fr x = .tup vs) (hv : vs[i]? = some v) : POp P ρ o fr v :=
  fun β a w _ ho => by
    have h1 := ho x (by rw [h]; simp [Op.operands])
    rw [hx] at h1
    obtain ⟨xs, e, hf⟩ := h1
    obtain ⟨y, hy, hR⟩ := hf.get i v hv
    have hy' : xs[i]? = some y := by simpa using hy
    exact ⟨y, by unfold execOp; rw [h]; simp [Instr.extract, e, hy'], hR.up⟩

/-- a pointer that is none to nothing. -/
def V.isPtr : V → Bool
  | .ptr .. => true
  | .fe .. => true
  | .key .. => true
  | _ => false
theorem R.isPtr {β : Bt} {v : V} {x : Value} (h : R β v x) (hv : v.isPtr = true) : ∃ a, x = .pointer (some a) := by
  cases v with
  | ptr id i z c => obtain ⟨p, _, rfl⟩ := (show R0 β (.ptr id i z c) x from h); exact ⟨_, rfl⟩
  | fe r i z c =>
    have h : F1 (.fe r i z c) β.g x := h
    simp only [F1] at h
    obtain ⟨xs, b, d, full, rfl, _⟩ := h; exact ⟨_, rfl⟩
  | key c s =>
    have h : F1 (.key c s) β.g x := h
    simp only [F1] at h
    obtain ⟨b, rfl, _⟩ := h; exact ⟨_, rfl⟩
  | _ => cases hv
theorem POp.nilCheck {x : Operand} (h : o.op = .nilCheck x) (hx : (opd fr x).isPtr = true) : POp P ρ o fr (opd fr x) :=
  fun β a w _ ho => by
    have h1 := ho x (by rw [h]; simp [Op.operands])
    obtain ⟨ad, e⟩ := h1.isPtr hx
    exact ⟨a.eval x, by unfold execOp; rw [h]; simp [e], h1⟩

/-! ### sizes -/
def sz (P : Program) (t : TypeId) : Option Nat := (P.info? t).map (·.size)
def isAg : Option TypeDesc → Bool
  | some (.struct _) | some (.array _ _) => true
  | _ => false
theorem run_sz {t k : Nat} (h : sz P t = some k) (w : World) : (sizeOf t).run P w = .ok k w := by
  unfold sz at h
  obtain ⟨i, hi, rfl⟩ := Option.map_eq_some_iff.1 h
  simp [sizeOf, typeInfo, hi]
theorem run_isAg {t : Nat} {d : TypeDesc} (h : P.underlying t = some d) (w : World) : (Go.isAgg t).run P w = .ok (isAg (some d)) w := by
  unfold Go.isAgg
  rw [Sem.run_bind, run_underlying h w]
  cases d <;> rfl

/-! ### loads -/
/-- a value of a type, of its cells. -/
def ofSeg (P : Program) (t : TypeId) (cs : List V) : Option V := match P.underlying t with
  | some d => if isAg (some d) then some (.agg cs) else match cs with
    | [v] => some v
    | _ => none
  | none => none
theorem run_seg {β : Bt} {w : World} {b off k t : Nat} {cur : Array Value} {e : TypeId} {fz : Nat × Nat} {cs : List V} {v : V} (hg : w.heap[b]? = some (.cells cur e fz)) (hk : sz P t = some k) (hcl : cs.length = k) (hF : F2 (R1 β) cs ((cur.toList.drop off).take k)) (hv : ofSeg P t cs = some v) :
    ∃ x, (loadVar t ⟨b, off, none⟩).run P w = .ok x w ∧ R2 β v x := by
  have hl := hF.length
  have hcell : ∀ j u, ((cur.toList.drop off).take k)[j]? = some u → w.cell? (Addr.add ⟨b, off, none⟩ j) = some u := by
    intro j u hu
    rw [List.getElem?_take] at hu
    split at hu
    · rw [List.getElem?_drop] at hu
      rw [Addr.add_lit, cell_of_row w b (off + j) cur e fz hg]
      simpa using hu
    · cases hu
  unfold ofSeg at hv
  split at hv
  · rename_i d hd
    split at hv
    · rename_i hag
      cases hv
      have hld := run_loadCells_list (P := P) w ⟨b, off, none⟩ _ hcell
      rw [← hl, hcl] at hld
      refine ⟨.agg (List.take k (List.drop off cur.toList)).toArray, ?_, _, rfl, by simpa using hF⟩
      simp [loadVar, run_isAg hd, hag, run_sz hk, hld]
    · rename_i hag
      split at hv
      · rename_i v'
        cases hv
        obtain ⟨x, hx, hR⟩ := hF.get 0 _ rfl
        have hc := hcell 0 x hx
        rw [Addr.add_lit] at hc
        have hag' : isAg (some d) = false := by simpa using hag
        refine ⟨x, ?_, hR.up⟩
        simp only [Nat.add_zero] at hc
        simp [loadVar, run_isAg hd, hag', hc]
      · cases hv
  · cases hv

theorem List.drop_take_pre {α : Type} {l xs rest : List α} (h : l = xs ++ rest) (off k : Nat) (hf : 0 < k → off + k ≤ xs.length) : (l.drop off).take k = (xs.drop off).take k := by
  subst h
  cases k with
  | zero => simp
  | succ k =>
    have := hf (by omega)
    rw [List.drop_append_of_le_length (by omega), List.take_append_of_le_length (by simp; omega)]

theorem TOp.load {t k : Nat} {x : Operand} {id z c : Nat} {i : E} {ob : Ob} {cs : List V} {bs : List B} {v : V} (h : o.op = .load t x) (hx : opd fr x = .ptr id i z c) (hob : σ id = some ob) (hk : sz P t = some k) (hs : ob.row.seg i z c k = some (cs, bs)) (hb : ∀ b ∈ bs, b.den ρ = true) (hcl : cs.length = k) (hv : ofSeg P t cs = some v) : TOp P ρ o fr n σ v n σ :=
  TOp.still fun β a w hS ho => by
    have h1 := ho x (by rw [h]; simp [Op.operands])
    rw [hx] at h1
    obtain ⟨p, hp, e⟩ := (show R0 β (.ptr id i z c) (a.eval x) from h1)
    obtain ⟨q, hq, hok⟩ := hS.ob id ob hob
    obtain rfl : some p = q := Option.some.inj (hp.symm.trans hq)
    obtain ⟨hlt, cur, xs, rest, fz, hg, hsz, hcur, hRH, _⟩ := hok
    obtain ⟨hF, hle⟩ := hRH.seg hs (by rw [hS.env]; exact hb)
    rw [← List.drop_take_pre hcur _ k hle] at hF
    obtain ⟨y, hy, hR⟩ := run_seg (P := P) hg hk hcl hF hv
    exact ⟨y, by unfold execOp; rw [h]; simp [Instr.loadAt, e, Instr.sureAddr, hy], hR.up⟩

theorem TOp.loadF {t k : Nat} {x : Operand} {z c : Nat} {i : E} {r : Row} {cs : List V} {bs : List B} {v : V} (h : o.op = .load t x) (hx : opd fr x = .fe r i z c) (hk : sz P t = some k) (hs : r.seg i z c k = some (cs, bs)) (hb : ∀ b ∈ bs, b.den ρ = true) (hcl : cs.length = k) (hv : ofSeg P t cs = some v) : TOp P ρ o fr n σ v n σ :=
  TOp.still fun β a w hS ho => by
    have h1 := ho x (by rw [h]; simp [Op.operands])
    rw [hx] at h1
    have h1 : F1 (.fe r i z c) β.g (a.eval x) := h1
    simp only [F1] at h1
    obtain ⟨xs, b, d, full, e, hr, hfz, hxs⟩ := h1
    obtain ⟨⟨et, f, hg⟩, _⟩ := hS.fzs b full hfz
    obtain ⟨hF, hle⟩ := (RH.ofFr hr).seg hs (by rw [hS.env]; exact hb)
    have hF' : F2 (R1 β) cs ((full.toList.drop (d + ((i.den β.g.env).toNat * z + c))).take k) := by
      have : (full.toList.drop (d + ((i.den β.g.env).toNat * z + c))).take k = (xs.drop ((i.den β.g.env).toNat * z + c)).take k := by
        cases k with
        | zero => simp
        | succ k =>
          have h2 := hle (by omega)
          rw [← hxs, List.drop_take, List.take_take, List.drop_drop, Nat.min_eq_left (by omega)]
      rw [this]; exact hF
    obtain ⟨y, hy, hR⟩ := run_seg (P := P) hg hk hcl hF' hv
    rw [← Nat.add_assoc] at hy
    exact ⟨y, by unfold execOp; rw [h]; simp [Instr.loadAt, e, Instr.sureAddr, hy], hR.up⟩
end
end Go.Proofs.YtmckhoaekbeijaaGreat.E
/- Objects are made, written, moved, kept for good. Plain Lean over the kit's model; no program. -/
namespace Go.Proofs.YtmckhoaekbeijaaGreat.E
open Go Go.RowKit
set_option linter.unusedVariables false

def Sto.put (σ : Sto) (id : Nat) (o : Ob) : Sto := fun j => if j = id then some o else σ j
def Sto.del (σ : Sto) (id : Nat) : Sto := fun j => if j = id then none else σ j
theorem put_cases {σ : Sto} {m id : Nat} {ob o : Ob} (h : σ.put m ob id = some o) : (id = m ∧ o = ob) ∨ (id ≠ m ∧ σ id = some o) := by
  unfold Sto.put at h
  split at h
  · exact .inl ⟨by assumption, by cases h; rfl⟩
  · exact .inr ⟨by assumption, h⟩
theorem del_cases {σ : Sto} {m id : Nat} {o : Ob} (h : σ.del m id = some o) : id ≠ m ∧ σ id = some o := by
  unfold Sto.del at h
  split at h
  · cases h
  · exact ⟨by assumption, h⟩
theorem del_le (σ : Sto) (m : Nat) : (σ.del m).le σ := fun _ _ h => (del_cases h).2

section
variable {P : Program} {ρ : Env} {o : Oper} {fr : Fm} {n : Nat} {σ : Sto}
theorem Sim.mono {β σ w} {n n' : Nat} (h : Sim ρ n β σ w) (hn : n ≤ n') : Sim ρ n' β σ w := ⟨h.toSimL, fun id hi => h.fresh id (Nat.le_trans hn hi)⟩

/-- a new name, at a block beyond all or nowhere, among objects some of which may be forgotten. -/
theorem new_in {β : Bt} {w w' : World} {τ : Sto} (hS : Sim ρ n β σ w) (hτ : τ.le σ) (e : TypeId) (r : Row) (q : Option Bl)
    (hq : ∀ β' : Bt, β.all β' → ObOk β' w' q ⟨r, true, e⟩) (hg : ∀ p, q = some p → w.heap.size ≤ p.b ∨ (∃ id o p0, σ id = some o ∧ o.rw = true ∧ β.nm id = some (some p0) ∧ p0.b = p.b ∧ τ id = none)) (hsz : w.heap.size ≤ w'.heap.size)
    (hblk : ∀ b, b < w.heap.size → (∀ p, q = some p → b ≠ p.b) → w'.heap[b]? = w.heap[b]?) (h1 : w'.os = w.os) (h2 : w'.tape = w.tape) (h3 : w'.output = w.output) :
    ∃ β', β'.g = β.g ∧ β'.nm n = some q ∧ Sim ρ (n + 1) β' (τ.put n ⟨r, true, e⟩) w' ∧ Step n β σ w β' (τ.put n ⟨r, true, e⟩) w' := by
  let β' : Bt := ⟨β.g, fun j => if j = n then some q else β.nm j⟩
  have hnew : β'.nm n = some q := by simp [β']
  have hold : ∀ j, j ≠ n → β'.nm j = β.nm j := fun j h => by simp [β', h]
  have hall : β.all β' := ⟨Gm.le.refl _, fun j q0 hq0 => by
    rw [hold j (by rintro rfl; rw [hS.fresh j (Nat.le_refl _)] at hq0; cases hq0)]; exact hq0⟩
  -- an other object's block is not this one
  have hoth : ∀ j o p p', τ j = some o → β.nm j = some (some p') → q = some p → p'.b ≠ p.b ∧ p'.b < w.heap.size := by
    intro j o p p' hj hp' hp
    obtain ⟨q', hq', hok⟩ := hS.ob j o (hτ _ _ hj)
    rw [hp'] at hq'; cases hq'
    refine ⟨?_, hok.1⟩
    rcases hg p hp with h | ⟨id, o0, p0, g1, g2, g3, g4, g5⟩
    · have := hok.1; omega
    · intro hc
      refine hS.sep id o0 j o p0 p' g1 g2 (hτ _ _ hj) ?_ g3 hp' (g4.trans hc.symm)
      rintro rfl; rw [g5] at hj; cases hj
  have hfree : ∀ p, q = some p → β.g.kv p.b = none ∧ ∀ cs, β.g.fz p.b ≠ some cs := by
    intro p hp
    rcases hg p hp with h | ⟨id, o0, p0, g1, g2, g3, g4, g5⟩
    · refine ⟨?_, fun cs hc => ?_⟩
      · cases hk : β.g.kv p.b with
        | none => rfl
        | some c => have := hS.kv_lt hk; omega
      · have := hS.fz_lt hc; omega
    · have hW : Wr β σ p.b := ⟨id, o0, p0, g1, g2, g3, g4⟩
      refine ⟨?_, fun cs hc => (hS.fzs _ _ hc).2.1 hW⟩
      cases hk : β.g.kv p.b with
      | none => rfl
      | some c => exact ((hS.kvs _ _ hk).2 hW).elim
  have hWr' : ∀ b, Wr β' (τ.put n ⟨r, true, e⟩) b → (∃ p, q = some p ∧ p.b = b) ∨ Wr β τ b := by
    rintro b ⟨j, o, p, hj, hr, hp, rfl⟩
    rcases put_cases hj with ⟨rfl, rfl⟩ | ⟨hne, hj⟩
    · rw [hnew] at hp; cases hp; exact .inl ⟨p, rfl, rfl⟩
    · rw [hold j hne] at hp; exact .inr ⟨j, o, p, hj, hr, hp, rfl⟩
  refine ⟨β', rfl, hnew, ⟨⟨hS.env, ?_, ?_, ?_, ?_⟩, ?_⟩, ⟨⟨Gm.le.refl _, fun j q0 _ h => hall.nm j q0 h⟩, h1, h2, h3, hsz, fun b hb hw hk => hblk b hb ?_, ?_, fun b cs h => .inl h, fun b c h => .inl h⟩⟩
  · intro j o hj
    rcases put_cases hj with ⟨rfl, rfl⟩ | ⟨hne, hj⟩
    · exact ⟨q, hnew, hq β' hall⟩
    · obtain ⟨q', hq', hok⟩ := hS.ob j o (hτ _ _ hj)
      refine ⟨q', by rw [hold j hne]; exact hq', hok.keep (fun xs h => h.mono hall) (fun _ _ h => h) hsz ?_⟩
      rintro p' rfl
      exact hblk p'.b hok.1 fun p hp => (hoth j o p p' hj hq' hp).1
  · intro j o j' o' p p' hj hr hj' hne hp hp'
    rcases put_cases hj with ⟨rfl, rfl⟩ | ⟨hn1, k1⟩ <;> rcases put_cases hj' with ⟨rfl, rfl⟩ | ⟨hn2, k2⟩
    · exact (hne rfl).elim
    · rw [hnew] at hp; cases hp
      rw [hold _ hn2] at hp'
      exact fun hc => (hoth j' o' p p' k2 hp' rfl).1 hc.symm
    · rw [hnew] at hp'; cases hp'
      rw [hold _ hn1] at hp
      exact (hoth j o p' p k1 hp rfl).1
    · rw [hold _ hn1] at hp; rw [hold _ hn2] at hp'
      exact hS.sep j o j' o' p p' (hτ _ _ k1) hr (hτ _ _ k2) hne hp hp'
  · intro b cs hb
    obtain ⟨⟨et, f, k1⟩, k2, k3⟩ := hS.fzs b cs hb
    refine ⟨⟨et, f, (hblk b (hS.fz_lt hb) fun p hp hc => (hfree p hp).2 cs (by rw [← hc]; exact hb)).trans k1⟩, fun hc => ?_, k3⟩
    rcases hWr' b hc with ⟨p, hp, rfl⟩ | hc
    · exact (hfree p hp).2 cs hb
    · exact k2 (hc.mono hτ)
  · intro b c hb
    obtain ⟨⟨ob, k1, k2⟩, k3⟩ := hS.kvs b c hb
    have hne : ∀ p, q = some p → b ≠ p.b := fun p hp hc => by
      have h := (hfree p hp).1
      rw [← hc] at h
      have hb' : β.g.kv b = some c := hb
      rw [hb'] at h; cases h
    refine ⟨⟨ob, (hblk b (hS.kv_lt hb) hne).trans k1, k2⟩, fun hc => ?_⟩
    rcases hWr' b hc with ⟨p, hp, rfl⟩ | hc
    · exact hne p hp rfl
    · exact k3 (hc.mono hτ)
  · intro j hj
    rw [hold j (by omega)]; exact hS.fresh j (by omega)
  · intro p hp hc
    rcases hg p hp with h | ⟨id, o0, p0, g1, g2, g3, g4, g5⟩
    · omega
    · exact hw ⟨id, o0, p0, g1, g2, g3, g4.trans hc.symm⟩
  · intro b hb
    rcases hWr' b hb with ⟨p, hp, rfl⟩ | hc
    · rcases hg p hp with h | ⟨id, o0, p0, g1, g2, g3, g4, g5⟩
      · exact .inr h
      · exact .inl ⟨id, o0, p0, g1, g2, g3, g4⟩
    · exact .inl (hc.mono hτ)

/-- a new block. -/
theorem new_row {β : Bt} {w : World} (hS : Sim ρ n β σ w) (e : TypeId) (r : Row) (xs : Array Value) (hr : RH β r xs.toList) (w' : World) (hw : w'.heap = w.heap.push (.cells xs e (0, 0))) (h1 : w'.os = w.os) (h2 : w'.tape = w.tape) (h3 : w'.output = w.output) :
    ∃ β', β'.g = β.g ∧ β'.nm n = some (some ⟨w.heap.size, xs.size⟩) ∧ Sim ρ (n + 1) β' (σ.put n ⟨r, true, e⟩) w' ∧ Step n β σ w β' (σ.put n ⟨r, true, e⟩) w' := by
  have hsize : w'.heap.size = w.heap.size + 1 := by rw [hw]; simp
  refine new_in hS (Sto.le.refl σ) e r (some ⟨w.heap.size, xs.size⟩) (fun β' hb => ⟨by simp [hsize], xs, xs.toList, [], (0, 0), by rw [hw]; simp, rfl, by simp, hr.mono hb, fun _ => rfl, fun h => by cases h⟩)
    (fun p hp => .inl (by cases hp; exact Nat.le_refl _)) (by omega) (fun b hb _ => by rw [hw, Array.getElem?_push, if_neg (by omega)]) h1 h2 h3

/-- the cells of a type's zero value. -/
def zro (P : Program) (t : TypeId) : Option (List V) :=
  match P.info? t with
  | some i => match i.zero with
    | some z => if z.cells.toList.all (·.oneCell') then some (z.cells.toList.map ofC1) else none
    | none => none
  | none => none
theorem run_zro {t : TypeId} {cs : List V} (h : zro P t = some cs) : ∃ z : Value, (∀ w, (zeroValue t).run P w = .ok z w) ∧ cs = z.cells.toList.map ofC1 ∧ z.cells.toList.all (·.oneCell') = true := by
  unfold zro at h
  split at h
  · rename_i i hi
    split at h
    · rename_i z hz
      split at h
      · rename_i hall
        cases h
        exact ⟨z, fun w => by simp [zeroValue, typeInfo, hi, hz], rfl, hall⟩
      · cases h
    · cases h
  · cases h

theorem R_ptr0 {β : Bt} {id b s : Nat} (h : β.nm id = some (some ⟨b, s⟩)) : R β (.ptr id (.lit 0) 0 0) (.pointer (some ⟨b, 0, none⟩)) :=
  ⟨⟨b, s⟩, h, by simp⟩
theorem TOp.alloc {t : TypeId} {cs : List V} (h : o.op = .alloc t) (hz : zro P t = some cs) : TOp P ρ o fr n σ (.ptr n (.lit 0) 0 0) (n + 1) (σ.put n ⟨.any cs, true, t⟩) := by
  intro β a w K Q hS ho hk
  obtain ⟨z, hzr, rfl, hall⟩ := run_zro (P := P) hz
  obtain ⟨β', _, hn, hS', hst⟩ := new_row hS t (.any (z.cells.toList.map ofC1)) z.cells (F2.ofCs β _ hall) { w with heap := w.heap.push (.cells z.cells t) } rfl rfl rfl rfl
  refine wp_val (x := .pointer (some ⟨w.heap.size, 0, none⟩)) (w' := { w with heap := w.heap.push (.cells z.cells t) }) ?_ (hk _ β' _ (R_ptr0 hn) hS' hst)
  unfold execOp; rw [h]; simp [Instr.alloc, hzr, newVar, newRow]

/-- is it what a variable holds? -/
def V.var : V → Bool
  | .und | .tup _ => false
  | _ => true
theorem R.var {β : Bt} {v x} (h : R β v x) (hv : v.var = true) : R2 β v x := by
  refine R2.of h ?_ ?_
  · rintro rfl; cases hv
  · rintro vs rfl; cases hv
theorem TOp.box {t : TypeId} {x : Operand} (h : o.op = .box t x) (hv : (opd fr x).var = true) : TOp P ρ o fr n σ (.ptr n (.lit 0) 0 0) (n + 1) (σ.put n ⟨.any (opd fr x).cells, true, t⟩) := by
  intro β a w K Q hS ho hk
  have h1 := (ho x (by rw [h]; simp [Op.operands])).var hv
  obtain ⟨β', _, hn, hS', hst⟩ := new_row hS t (.any (opd fr x).cells) (a.eval x).cells h1.cells { w with heap := w.heap.push (.cells (a.eval x).cells t) } rfl rfl rfl rfl
  refine wp_val (x := .pointer (some ⟨w.heap.size, 0, none⟩)) (w' := { w with heap := w.heap.push (.cells (a.eval x).cells t) }) ?_ (hk _ β' _ (R_ptr0 hn) hS' hst)
  unfold execOp; rw [h]; simp [Instr.box, newVar, newRow]

/-! ### an own object is written anew; its name stays -/
theorem same_row {β : Bt} {w w' : World} (hS : Sim ρ n β σ w) {id : Nat} {ob : Ob} {p : Bl} (hob : σ id = some ob) (hrw : ob.rw = true) (hp : β.nm id = some (some p)) (r : Row) (cur : Array Value) (xs rest : List Value)
    (hh : w'.heap[p.b]? = some (.cells cur ob.e (0, 0))) (hs : cur.size = p.s) (hc : cur.toList = xs ++ rest) (hr : RH β r xs) (hsz : w'.heap.size = w.heap.size)
    (hoth : ∀ k, k ≠ p.b → w'.heap[k]? = w.heap[k]?) (h1 : w'.os = w.os) (h2 : w'.tape = w.tape) (h3 : w'.output = w.output) :
    Sim ρ n β (σ.put id ⟨r, true, ob.e⟩) w' ∧ Step n β σ w β (σ.put id ⟨r, true, ob.e⟩) w' := by
  have hWp : Wr β σ p.b := ⟨id, ob, p, hob, hrw, hp, rfl⟩
  have hlt := hS.wr_lt hWp
  have hWr' : ∀ b, Wr β (σ.put id ⟨r, true, ob.e⟩) b → Wr β σ b := by
    rintro b ⟨j, o, p', hj, hr', hp', rfl⟩
    rcases put_cases hj with ⟨rfl, rfl⟩ | ⟨hne, hj⟩
    · rw [hp] at hp'; cases hp'; exact hWp
    · exact ⟨j, o, p', hj, hr', hp', rfl⟩
  refine ⟨⟨⟨hS.env, ?_, ?_, ?_, ?_⟩, hS.fresh⟩, ⟨Bt.le.refl _ β, h1, h2, h3, by omega, fun b hb hw _ => hoth b (by rintro rfl; exact hw hWp), fun b hb => .inl (hWr' b hb), fun b cs h => .inl h, fun b c h => .inl h⟩⟩
  · intro j o h
    rcases put_cases h with ⟨rfl, rfl⟩ | ⟨hne, g⟩
    · exact ⟨some p, hp, by omega, cur, xs, rest, (0, 0), hh, hs, hc, hr, fun _ => rfl, fun h => by cases h⟩
    · obtain ⟨q, hq, hok⟩ := hS.ob j o g
      refine ⟨q, hq, hok.keep (fun _ h => h) (fun _ _ h => h) (by omega) ?_⟩
      rintro p' rfl
      exact hoth p'.b fun e => hS.sep id ob j o p p' hob hrw g (Ne.symm hne) hp hq e.symm
  · intro j o j' o' q q' h hr h' hne k1 k2
    rcases put_cases h with ⟨e1, e2⟩ | ⟨hn1, g⟩ <;> rcases put_cases h' with ⟨f1, f2⟩ | ⟨hn2, g'⟩
    · exact (hne (e1.trans f1.symm)).elim
    · rw [e1] at k1 hne; exact hS.sep _ ob j' o' q q' hob hrw g' hne k1 k2
    · rw [f1] at k2 hne; exact fun e => hS.sep _ ob j o q' q hob hrw g (Ne.symm hne) k2 k1 e.symm
    · exact hS.sep j o j' o' q q' g hr g' hne k1 k2
  · intro b cs hb
    obtain ⟨⟨et, f, k1⟩, k2, k3⟩ := hS.fzs b cs hb
    exact ⟨⟨et, f, (hoth b (by rintro rfl; exact k2 hWp)).trans k1⟩, fun hc => k2 (hWr' b hc), k3⟩
  · intro b c hb
    obtain ⟨⟨ob', k1, k2⟩, k3⟩ := hS.kvs b c hb
    exact ⟨⟨ob', (hoth b (by rintro rfl; exact k3 hWp)).trans k1, k2⟩, fun hc => k3 (hWr' b hc)⟩

/-! ### stores -/
def splice {α : Type} (l : List α) (off : Nat) (new : List α) : List α := l.take off ++ new ++ l.drop (off + new.length)
/-- numbers of one kind, or none. -/
def intsOf (k : IntKind) : List V → Option (List E)
  | [] => some []
  | .int k' i :: r => if k = k' then match intsOf k r with
      | some l => some (i :: l)
      | none => none
    else none
  | _ => none
def mkSet (l : L) (i x : E) : L := match i, l with
  | .lit (.ofNat m), l => setN l m x
  | i, l => .set l i x
where
  setN : L → Nat → E → L
    | .cons e l, 0, x => .cons x l
    | .cons e l, m + 1, x => .cons e (setN l m x)
    | l, m, x => .set l (.lit (.ofNat m)) x
theorem setN_den (ρ : Env) (x : E) : ∀ (l : L) (m : Nat), (mkSet.setN l m x).den ρ = (l.den ρ).set m (x.den ρ)
  | .cons e l, 0 => by simp [mkSet.setN, L.den]
  | .cons e l, m + 1 => by simp [mkSet.setN, L.den, setN_den ρ x l m]
  | .nil, m | .var _, m | .at .., m | .cat .., m | .cut .., m | .sub .., m | .set .., m | .rep .., m | .byt .., m | .app .., m | .ite .., m | .join _, m => by simp [mkSet.setN, L.den, E.den]
theorem mkSet_den (ρ : Env) (l : L) (i x : E) : (mkSet l i x).den ρ = (l.den ρ).set (i.den ρ).toNat (x.den ρ) := by
  unfold mkSet
  split
  · rw [setN_den]; rfl
  · rfl
/-- a row with other cells from a place on; what must hold. -/
def Row.store (r : Row) (i : E) (z c : Nat) (new : List V) : Option (Row × List B) := match r with
  | .any cs => match i with
    | .lit (.ofNat m) => if Nat.ble (m * z + c + new.length) cs.length then some (.any (splice cs (m * z + c) new), []) else none
    | _ => if Nat.beq z 0 && Nat.ble (c + new.length) cs.length then some (.any (splice cs c new), []) else none
  | .ints k l => match idxE i z c, new with
    | some e, [.int k' x] => if k = k' then some (.ints k (mkSet l e x), [inB e (mkLen l)]) else none
    | _, _ => none
  | .recs _ _ _ => none

theorem F2.splice {r : V → Value → Prop} {as : List V} {xs : List Value} {new : List V} {ys : List Value} (h : F2 r as xs) (hn : F2 r new ys) (off : Nat) : F2 r (splice as off new) (splice xs off ys) := by
  unfold E.splice
  rw [hn.length]
  exact ((h.take off).app hn).app (h.drop _)
theorem RH.store {β : Bt} {r r' : Row} {xs ys : List Value} {i : E} {z c : Nat} {new : List V} {bs : List B} (h : RH β r xs) (hn : F2 (R1 β) new ys) (hs : r.store i z c new = some (r', bs)) (hb : ∀ b ∈ bs, b.den β.g.env = true) :
    RH β r' (splice xs ((i.den β.g.env).toNat * z + c) ys) ∧ (i.den β.g.env).toNat * z + c + ys.length ≤ xs.length := by
  have hl := hn.length
  cases r with
  | any vs =>
    have hf : F2 (R1 β) vs xs := h
    have hvl := hf.length
    unfold Row.store at hs
    simp only at hs
    split at hs
    · rename_i m
      split at hs
      · rename_i hle
        have hle := Nat.le_of_ble_eq_true hle
        cases hs
        simp only [E.den, Int.ofNat_eq_natCast, Int.toNat_natCast]
        exact ⟨hf.splice hn _, by omega⟩
      · cases hs
    · split at hs
      · rename_i hc
        simp only [Bool.and_eq_true] at hc
        have hle := Nat.le_of_ble_eq_true hc.2
        have hz := Nat.eq_of_beq_eq_true hc.1
        cases hs
        subst hz
        simp only [Nat.mul_zero, Nat.zero_add]
        exact ⟨hf.splice hn _, by omega⟩
      · cases hs
  | ints k l =>
    have hx : xs = (l.den β.g.env).map (.int k) := by simpa only [RH, Fr] using h
    subst hx
    unfold Row.store at hs
    simp only at hs
    split at hs
    · rename_i e k' x he
      split at hs
      · rename_i hk
        subst hk
        cases hs
        have h0 := idxE_ok (ρ := β.g.env) he
        have h1 := inB_den (hb _ (List.mem_singleton.2 rfl))
        rw [mkLen_den] at h1
        rw [← h0]
        match ys, hl with
        | [y], _ =>
          have hy : y = .int k (x.den β.g.env) := by have := hn.1; simpa only [R1, R0, F1] using this
          subst hy
          refine ⟨?_, by simp; omega⟩
          simp only [RH, Fr, mkSet_den, List.map_set]
          unfold E.splice
          rw [List.set_eq_take_append_cons_drop, if_pos (by simp; omega)]
          simp
      · cases hs
    · cases hs
  | recs => cases hs

theorem TOp.store {t k : Nat} {x y : Operand} {id z c : Nat} {i : E} {ob : Ob} {r : Row} {bs : List B} (h : o.op = .store t x y) (hx : opd fr x = .ptr id i z c) (hob : σ id = some ob) (hrw : ob.rw = true) (hy : (opd fr y).var = true)
    (hk : sz P t = some k) (hcl : (opd fr y).cells.length = k) (hs : ob.row.store i z c (opd fr y).cells = some (r, bs)) (hb : ∀ b ∈ bs, b.den ρ = true) : TOp P ρ o fr n σ .und n (σ.put id ⟨r, true, ob.e⟩) := by
  intro β a w K Q hS ho hK
  have h1 := ho x (by rw [h]; simp [Op.operands])
  rw [hx] at h1
  obtain ⟨p, hp, e⟩ := (show R0 β (.ptr id i z c) (a.eval x) from h1)
  obtain ⟨q, hq, hok⟩ := hS.ob id ob hob
  obtain rfl : some p = q := Option.some.inj (hp.symm.trans hq)
  obtain ⟨hlt, cur, xs, rest, fz, hg, hsz, hcur, hRH, hfz, _⟩ := hok
  obtain rfl := hfz hrw
  have hc := ((ho y (by rw [h]; simp [Op.operands])).var hy).cells
  have hcl' := hc.length
  obtain ⟨hRH', hle⟩ := hRH.store hc hs (by rw [hS.env]; exact hb)
  generalize hoff : (i.den β.g.env).toNat * z + c = off at *
  have hxl : xs.length ≤ cur.size := by have := congrArg List.length hcur; simp at this; omega
  have hst := run_storeCells_at P p.b off ob.e (a.eval y).cells.toList 0 cur w hg (by omega) (F2.one hc)
  simp only [Nat.add_zero] at hst
  have hspl : cur.toList.take off ++ (a.eval y).cells.toList ++ cur.toList.drop (off + (a.eval y).cells.toList.length) = splice xs off (a.eval y).cells.toList ++ rest := by
    unfold splice
    rw [hcur, List.take_append_of_le_length (by omega), List.drop_append_of_le_length (by omega)]
    simp
  have hlen : (splice xs off (a.eval y).cells.toList).length = xs.length := by unfold splice; simp at hle ⊢; omega
  obtain ⟨hS', hStep⟩ := same_row (w' := w.setRow p.b (cur.toList.take off ++ (a.eval y).cells.toList ++ cur.toList.drop (off + (a.eval y).cells.toList.length)).toArray) hS hob hrw hp r _ (splice xs off (a.eval y).cells.toList) rest
    (setRow_heap w p.b cur _ ob.e _ hg) (by
      rw [hspl]
      have h4 : cur.size = xs.length + rest.length := by have := congrArg List.length hcur; simpa using this
      simp [hlen, ← hsz, h4]) (by simp only [hspl]) hRH' (by simp) (fun k hk => setRow_other w p.b k _ hk) rfl rfl rfl
  refine wp_skp (w' := w.setRow p.b (cur.toList.take off ++ (a.eval y).cells.toList ++ cur.toList.drop (off + (a.eval y).cells.toList.length)).toArray) ?_ (hK _ β _ trivial hS' hStep)
  have hkc : (a.eval y).cells.size = k := by rw [← hcl, hcl']; simp
  unfold execOp
  rw [h]
  simp only [Instr.storeAt, e, Instr.sureAddr, Sem.run_bind, Sem.run_pure, Result.andThen_ok, storeVar, run_sz hk, hkc, ne_eq, not_true_eq_false, if_false, hst]
end
end Go.Proofs.YtmckhoaekbeijaaGreat.E
/- Places, parts, numbers, aggregates. Plain Lean over the kit's model; no program. -/
namespace Go.Proofs.YtmckhoaekbeijaaGreat.E
open Go Go.RowKit
set_option linter.unusedVariables false

/-! ### lengths, sums -/
def mkAdd : E → E → E
  | .lit a, .lit b => .lit (IntKind.wrap .i64 (a + b))
  | a, b => .bin .add .i64 a b
/-- how many elements a row has. -/
def Row.lenE (z : Nat) : Row → Option E
  | .any cs => if Nat.blt 0 z && Nat.beq (cs.length % z) 0 then some (.lit (.ofNat (cs.length / z))) else none
  | .ints k l => if Nat.beq z 1 then some (mkLen l) else none
  | .recs z' n t => if Nat.beq z z' && Nat.blt 0 z then some n else none
theorem Row.lenE_ok {β : Bt} {r : Row} {xs : List Value} {z : Nat} {e : E} (h : RH β r xs) (he : r.lenE z = some e) : 0 < z ∧ 0 ≤ e.den β.g.env ∧ xs.length = (e.den β.g.env).toNat * z := by
  cases r with
  | any cs =>
    have hf : F2 (R1 β) cs xs := h
    unfold Row.lenE at he
    simp only at he
    split at he
    · rename_i hc
      simp only [Bool.and_eq_true] at hc
      cases he
      have h0 : 0 < z := Nat.le_of_ble_eq_true hc.1
      have h1 := Nat.eq_of_beq_eq_true hc.2
      refine ⟨h0, Int.natCast_nonneg _, ?_⟩
      have := Nat.div_add_mod cs.length z
      rw [h1, Nat.add_zero, Nat.mul_comm] at this
      simp only [E.den, Int.ofNat_eq_natCast, Int.toNat_natCast]
      rw [this, hf.length]
    · cases he
  | ints k l =>
    have hx : xs = (l.den β.g.env).map (.int k) := by simpa only [RH, Fr] using h
    subst hx
    unfold Row.lenE at he
    simp only at he
    split at he
    · rename_i hc
      cases he
      rw [Nat.eq_of_beq_eq_true hc, mkLen_den]
      exact ⟨by omega, by omega, by simp⟩
    · cases he
  | recs z' n t =>
    have h' : 0 ≤ n.den β.g.env ∧ xs.length = (n.den β.g.env).toNat * z' ∧ ∀ i : Nat, i < (n.den β.g.env).toNat → Fs t (β.g.at i) ((xs.drop (i * z')).take z') := by simpa only [RH, Fr] using h
    unfold Row.lenE at he
    simp only at he
    split at he
    · rename_i hc
      simp only [Bool.and_eq_true] at hc
      cases he
      rw [Nat.eq_of_beq_eq_true hc.1]
      exact ⟨by have : 0 < z := Nat.le_of_ble_eq_true hc.2; have := Nat.eq_of_beq_eq_true hc.1; omega, h'.1, h'.2.1⟩
    · cases he

/-! ### places -/
def fldV (off : Nat) : V → Option V
  | .ptr id i z c => some (.ptr id i z (c + off))
  | .fe r i z c => some (.fe r i z (c + off))
  | _ => none
/-- a pointer to an array, and an element's place. -/
def idxV (m k : Nat) (e : E) : V → Option (V × List B)
  | .ptr id i z c => match e with
    | .lit (.ofNat j) => if Nat.blt j m then some (.ptr id i z (c + j * k), []) else none
    | e => match i with
      | .lit (.ofNat q) => some (.ptr id e k (q * z + c), [inB e (.lit (.ofNat m))])
      | _ => none
  | .fe r i z c => match e with
    | .lit (.ofNat j) => if Nat.blt j m then some (.fe r i z (c + j * k), []) else none
    | e => match i with
      | .lit (.ofNat q) => some (.fe r e k (q * z + c), [inB e (.lit (.ofNat m))])
      | _ => none
  | _ => none
/-- a slice, and an element's place. -/
def idxS (z : Nat) (e : E) : V → Option (V × List B)
  | .sl id co off len z' _ => if Nat.beq z z' then match off with
      | .lit (.ofNat q) => match e with
        | .lit (.ofNat j) => some (.ptr id (.lit (.ofNat (q + j))) z co, [mkLt e len])
        | e => some (.ptr id e z (co + q * z), [inB e len])
      | off => match e with
        | .lit (.ofNat j) => some (.ptr id off z (co + j * z), [mkLt e len])
        | _ => none
    else none
  | .fs z' r => if Nat.beq z z' then match r.lenE z with
      | some n => some (.fe r e z 0, [inB e n])
      | none => none
    else none
  | _ => none

section
variable {P : Program} {ρ : Env} {o : Oper} {fr : Fm} {n : Nat} {σ : Sto}

theorem fldV_ok {β : Bt} {off : Nat} {v v' : V} {x : Value} (h : fldV off v = some v') (hR : R β v x) : ∃ a : Addr, x = .pointer (some a) ∧ a.spot = none ∧ R β v' (.pointer (some ⟨a.block, a.off + off, none⟩)) := by
  unfold fldV at h
  split at h
  · rename_i id i z c
    cases h
    obtain ⟨p, hp, rfl⟩ := (show R0 β (.ptr id i z c) x from hR)
    exact ⟨_, rfl, rfl, p, hp, by rw [Nat.add_assoc]⟩
  · rename_i r i z c
    cases h
    have h1 : F1 (.fe r i z c) β.g x := hR
    simp only [F1] at h1
    obtain ⟨xs, b, d, full, rfl, h2, h3, h4⟩ := h1
    refine ⟨_, rfl, rfl, ?_⟩
    show F1 (.fe r i z (c + off)) β.g _
    simp only [F1]
    exact ⟨xs, b, d, full, by rw [Nat.add_assoc], h2, h3, h4⟩
  · cases h
theorem POp.fieldAddr {s : TypeId} {x : Operand} {f k : Nat} {fs : Array Field} {fld : Field} {v : V} (h : o.op = .fieldAddr s x f) (hv : fldV fld.offset (opd fr x) = some v) (hu : P.underlying s = some (.struct fs)) (hf : fs[f]? = some fld)
    (hk : sz P fld.type = some k) (hpos : k ≠ 0) : POp P ρ o fr v :=
  fun β a w _ ho => by
    have h1 := ho x (by rw [h]; simp [Op.operands])
    obtain ⟨ad, e, hsp, hR⟩ := fldV_ok hv h1
    refine ⟨_, ?_, hR⟩
    obtain ⟨b, off, spot⟩ := ad
    simp only at hsp
    subst hsp
    unfold execOp; rw [h]
    simp [Instr.fieldAt, run_underlying hu, hf, Instr.sureAddr, e, fieldPlace, run_sz hk, hpos, Addr.add_lit]

theorem idxV_ok {β : Bt} {m k : Nat} {e : E} {v v' : V} {x : Value} {bs : List B} (h : idxV m k e v = some (v', bs)) (hb : ∀ b ∈ bs, b.den β.g.env = true) (hR : R β v x) :
    ∃ a : Addr, x = .pointer (some a) ∧ a.spot = none ∧ 0 ≤ e.den β.g.env ∧ e.den β.g.env < m ∧ R β v' (.pointer (some ⟨a.block, a.off + (e.den β.g.env).toNat * k, none⟩)) := by
  have lit : ∀ {j : Nat}, Nat.blt j m = true → 0 ≤ (E.lit (.ofNat j)).den β.g.env ∧ (E.lit (.ofNat j)).den β.g.env < m ∧ ((E.lit (.ofNat j)).den β.g.env).toNat = j := fun {j} hj => by
    have hj : j < m := Nat.le_of_ble_eq_true hj
    simp only [E.den, Int.ofNat_eq_natCast]
    omega
  unfold idxV at h
  split at h
  · rename_i id i z c
    obtain ⟨p, hp, rfl⟩ := (show R0 β (.ptr id i z c) x from hR)
    split at h
    · rename_i j
      split at h
      · rename_i hj
        cases h
        obtain ⟨l1, l2, l3⟩ := lit hj
        exact ⟨_, rfl, rfl, l1, l2, p, hp, by rw [l3, Nat.add_assoc]⟩
      · cases h
    · split at h
      · rename_i q
        cases h
        have hi := inB_den (hb _ (List.mem_singleton.2 rfl))
        refine ⟨_, rfl, rfl, hi.1, by simpa [E.den] using hi.2, p, hp, ?_⟩
        simp only [E.den, Int.ofNat_eq_natCast, Int.toNat_natCast]
        rw [Nat.add_comm (q * z + c)]
      · cases h
  · rename_i r i z c
    have h1 : F1 (.fe r i z c) β.g x := hR
    simp only [F1] at h1
    obtain ⟨xs, b, d, full, rfl, h2, h3, h4⟩ := h1
    split at h
    · rename_i j
      split at h
      · rename_i hj
        cases h
        obtain ⟨l1, l2, l3⟩ := lit hj
        refine ⟨_, rfl, rfl, l1, l2, ?_⟩
        show F1 (.fe r i z (c + j * k)) β.g _
        simp only [F1]
        exact ⟨xs, b, d, full, by rw [l3, Nat.add_assoc], h2, h3, h4⟩
      · cases h
    · split at h
      · rename_i e' _ _ q
        cases h
        have hi := inB_den (hb _ (List.mem_singleton.2 rfl))
        refine ⟨_, rfl, rfl, hi.1, by simpa [E.den] using hi.2, ?_⟩
        show F1 (.fe r e k (q * z + c)) β.g _
        simp only [F1]
        refine ⟨xs, b, d, full, ?_, h2, h3, h4⟩
        simp only [E.den, Int.ofNat_eq_natCast, Int.toNat_natCast, Value.pointer.injEq, Option.some.injEq, Addr.mk.injEq, true_and, and_true]
        omega
      · cases h
  · cases h
theorem POp.indexArr {t : TypeId} {x i : Operand} {m k : Nat} {el : TypeId} {kd : IntKind} {e e0 : E} {v : V} {bs : List B} (h : o.op = .indexAddr t x i) (hi : opd fr i = .int kd e0) (he0 : e0.den ρ = e.den ρ) (hu : P.underlying t = some (.array m el))
    (hk : sz P el = some k) (hv : idxV m k e (opd fr x) = some (v, bs)) (hb : ∀ b ∈ bs, b.den ρ = true) : POp P ρ o fr v :=
  fun β a w hρ ho => by
    have g1 := ho x (by rw [h]; simp [Op.operands])
    have g2 : a.eval i = .int kd (e.den β.g.env) := by have := ho i (by rw [h]; simp [Op.operands]); rw [hi] at this; rw [hρ, ← he0, ← hρ]; exact R_int this
    obtain ⟨ad, e1, hsp, h0, h1, hR⟩ := idxV_ok hv (by rw [hρ]; exact hb) g1
    obtain ⟨b, off, spot⟩ := ad
    simp only at hsp
    subst hsp
    refine ⟨_, ?_, hR⟩
    unfold execOp; rw [h]
    simp [Instr.indexAt, run_underlying hu, g2, asIntOf, Instr.sureAddr, e1, run_sz hk, h0, h1, Addr.add_lit]

theorem idxS_ok {β : Bt} {z : Nat} {e : E} {v v' : V} {x : Value} {bs : List B} (h : idxS z e v = some (v', bs)) (hb : ∀ b ∈ bs, b.den β.g.env = true) (hR : R β v x) :
    ∃ (a : Addr) (n c : Nat), x = .slice (some a) n c ∧ a.spot = none ∧ 0 ≤ e.den β.g.env ∧ e.den β.g.env < n ∧ R β v' (.pointer (some ⟨a.block, a.off + (e.den β.g.env).toNat * z, none⟩)) := by
  unfold idxS at h
  split at h
  · rename_i id co off len z' top
    split at h
    · rename_i hz
      obtain rfl := Nat.eq_of_beq_eq_true hz
      obtain ⟨q0, hq0, hl0, hcase⟩ := (show R0 β (.sl id co off len z top) x from hR)
      have key : 0 ≤ e.den β.g.env → e.den β.g.env < len.den β.g.env → ∃ p c, β.nm id = some (some p) ∧ x = .slice (some ⟨p.b, co + (off.den β.g.env).toNat * z, none⟩) (len.den β.g.env).toNat c := by
        intro k0 k1
        rcases hcase with ⟨p, d, c, rfl, hx, hd, _⟩ | ⟨_, _, _, h5, _⟩
        · rcases hd with rfl | ⟨hd, _⟩
          · exact ⟨p, c, hq0, hx⟩
          · omega
        · omega
      split at h
      · rename_i q
        split at h
        · rename_i j
          cases h
          have hl : (E.lit (.ofNat j)).den β.g.env < len.den β.g.env := by have := hb _ (List.mem_singleton.2 rfl); rw [mkLt_den, ltb_eq] at this; simpa using this
          have h0 : 0 ≤ (E.lit (.ofNat j)).den β.g.env := Int.natCast_nonneg _
          obtain ⟨p, c, hp, rfl⟩ := key h0 hl
          refine ⟨_, _, _, rfl, rfl, h0, by omega, p, hp, ?_⟩
          simp only [E.den, Int.ofNat_eq_natCast, Int.toNat_natCast, Value.pointer.injEq, Option.some.injEq, Addr.mk.injEq, true_and, and_true]
          rw [Nat.add_mul]; omega
        · cases h
          have hi := inB_den (hb _ (List.mem_singleton.2 rfl))
          obtain ⟨p, c, hp, rfl⟩ := key hi.1 hi.2
          refine ⟨_, _, _, rfl, rfl, hi.1, by omega, p, hp, ?_⟩
          simp only [E.den, Int.ofNat_eq_natCast, Int.toNat_natCast, Value.pointer.injEq, Option.some.injEq, Addr.mk.injEq, true_and, and_true]
          omega
      · split at h
        · rename_i j
          cases h
          have hl : (E.lit (.ofNat j)).den β.g.env < len.den β.g.env := by have := hb _ (List.mem_singleton.2 rfl); rw [mkLt_den, ltb_eq] at this; simpa using this
          have h0 : 0 ≤ (E.lit (.ofNat j)).den β.g.env := Int.natCast_nonneg _
          obtain ⟨p, c, hp, rfl⟩ := key h0 hl
          refine ⟨_, _, _, rfl, rfl, h0, by omega, p, hp, ?_⟩
          simp only [E.den, Int.ofNat_eq_natCast, Int.toNat_natCast, Value.pointer.injEq, Option.some.injEq, Addr.mk.injEq, true_and, and_true]
          omega
        · cases h
    · cases h
  · rename_i z' r
    split at h
    · rename_i hz
      obtain rfl := Nat.eq_of_beq_eq_true hz
      split at h
      · rename_i ne hne
        cases h
        have hi := inB_den (hb _ (List.mem_singleton.2 rfl))
        have h1 : F1 (.fs z r) β.g x := hR
        simp only [F1] at h1
        obtain ⟨xs, m, c, a, rfl, h2, h3, h4, h5⟩ := h1
        obtain ⟨hz0, hn0, hlen⟩ := Row.lenE_ok (RH.ofFr h4) hne
        have hm : m = (ne.den β.g.env).toNat := Nat.eq_of_mul_eq_mul_right hz0 (h2.trans hlen)
        rcases h5 with ⟨_, h6, _⟩ | ⟨b, d, rfl, h6⟩
        · omega
        · rcases h6 with h6 | ⟨cs, h6, h7⟩
          · omega
          · refine ⟨_, _, _, rfl, rfl, hi.1, by omega, ?_⟩
            show F1 (.fe r e z 0) β.g _
            simp only [F1]
            exact ⟨xs, b, d, cs, rfl, h4, h6, h7⟩
      · cases h
    · cases h
  · cases h
theorem POp.indexSl {t : TypeId} {x i : Operand} {z : Nat} {el : TypeId} {kd : IntKind} {e : E} {v : V} {bs : List B} (h : o.op = .indexAddr t x i) (hi : opd fr i = .int kd e) (hu : P.underlying t = some (.slice el))
    (hk : sz P el = some z) (hv : idxS z e (opd fr x) = some (v, bs)) (hb : ∀ b ∈ bs, b.den ρ = true) : POp P ρ o fr v :=
  fun β a w hρ ho => by
    have g1 := ho x (by rw [h]; simp [Op.operands])
    have g2 : a.eval i = .int kd (e.den β.g.env) := by have := ho i (by rw [h]; simp [Op.operands]); rw [hi] at this; exact R_int this
    obtain ⟨ad, m, c, e1, hsp, h0, h1, hR⟩ := idxS_ok hv (by rw [hρ]; exact hb) g1
    obtain ⟨b, off, spot⟩ := ad
    simp only at hsp
    subst hsp
    refine ⟨_, ?_, hR⟩
    unfold execOp; rw [h]
    simp [Instr.indexAt, run_underlying hu, g2, asIntOf, e1, run_sz hk, h0, h1, Addr.add_lit]

/-! ### parts of a value -/
theorem run_part {β : Bt} {w : World} {t off k : Nat} {cs : List V} {xs : Array Value} {v : V} (hf : F2 (R1 β) cs xs.toList) (hk : sz P t = some k) (hle : off + k ≤ cs.length) (hp : ofSeg P t ((cs.drop off).take k) = some v) : ∃ x, (Go.part t xs off).run P w = .ok x w ∧ R2 β v x := by
  unfold ofSeg at hp
  split at hp
  · rename_i d hd
    split at hp
    · rename_i hag
      cases hp
      refine ⟨.agg (xs.extract off (off + k)), by simp [Go.part, run_isAg hd, hag, run_sz hk], _, rfl, ?_⟩
      have := (hf.drop off).take k
      simpa [Array.toList_extract, List.extract_eq_take_drop, List.extract] using this
    · rename_i hag
      split at hp
      · rename_i v' hv'
        cases hp
        have h0 : cs[off]? = some v := by
          have := congrArg (fun l => l[0]?) hv'
          simp only [List.getElem?_take, List.getElem?_drop] at this
          split at this
          · simpa using this
          · simp at this
        obtain ⟨x, hx, hR⟩ := hf.get off v h0
        have hag' : isAg (some d) = false := by simpa using hag
        have hx' : xs[off]? = some x := by simpa using hx
        exact ⟨x, by simp [Go.part, run_isAg hd, hag', hx'], hR.up⟩
      · cases hp
  · cases hp
theorem POp.field {t k : TypeId} {x : Operand} {f : Nat} {fs : Array Field} {fld : Field} {cs : List V} {v : V} (h : o.op = .field t x f) (hx : opd fr x = .agg cs) (hu : P.underlying t = some (.struct fs)) (hf : fs[f]? = some fld) (hk : sz P fld.type = some k) (hle : fld.offset + k ≤ cs.length) (hv : ofSeg P fld.type ((cs.drop fld.offset).take k) = some v) :
    POp P ρ o fr v :=
  fun β a w _ ho => by
    have g1 := ho x (by rw [h]; simp [Op.operands])
    rw [hx] at g1
    obtain ⟨xs, e, hF⟩ := g1
    obtain ⟨y, hy, hR⟩ := run_part (P := P) (w := w) hF hk hle hv
    exact ⟨y, by unfold execOp; rw [h]; simp [Instr.field, run_underlying hu, hf, e, asAgg, hy], hR.up⟩
theorem POp.indexV {t : TypeId} {x i : Operand} {len k : Nat} {el : TypeId} {cs : List V} {v : V} {kd : IntKind} {j : Nat} {e0 : E} (h : o.op = .index t x i) (hx : opd fr x = .agg cs) (hi : opd fr i = .int kd e0) (he0 : e0.den ρ = (j : Int)) (hu : P.underlying t = some (.array len el))
    (hk : sz P el = some k) (h1 : j < len) (hle : j * k + k ≤ cs.length) (hv : ofSeg P el ((cs.drop (j * k)).take k) = some v) : POp P ρ o fr v :=
  fun β a w hρ ho => by
    have g1 := ho x (by rw [h]; simp [Op.operands])
    rw [hx] at g1
    obtain ⟨xs, e, hF⟩ := g1
    have g2 : a.eval i = .int kd j := by have := ho i (by rw [h]; simp [Op.operands]); rw [hi] at this; rw [← he0, ← hρ]; exact R_int this
    obtain ⟨y, hy, hR⟩ := run_part (P := P) (w := w) hF hk hle hv
    exact ⟨y, by unfold execOp; rw [h]; simp [Instr.index, run_underlying hu, g2, asIntOf, e, run_sz hk, h1, hy], hR.up⟩

/-! ### numbers -/
def isArith : BinOp → Bool
  | .add | .sub | .mul | .and | .or | .xor | .andNot => true
  | _ => false
def isDiv : BinOp → Bool
  | .quo | .rem => true
  | _ => false
def isShift : BinOp → Bool
  | .shl | .shr => true
  | _ => false
def mkBin (op : BinOp) (k : IntKind) : E → E → E
  | .lit a, .lit b => .lit (binI op k a b)
  | a, b => .bin op k a b
theorem mkBin_den (ρ : Env) (op : BinOp) (k : IntKind) (a b : E) : (mkBin op k a b).den ρ = binI op k (a.den ρ) (b.den ρ) := by unfold mkBin; split <;> rfl
def mkUn (op : UnOp) (k : IntKind) : E → E
  | .lit a => .lit (unI op k a)
  | a => .un op k a
theorem mkUn_den (ρ : Env) (op : UnOp) (k : IntKind) (a : E) : (mkUn op k a).den ρ = unI op k (a.den ρ) := by unfold mkUn; split <;> rfl
def mkConv (k : IntKind) : E → E
  | .lit a => .lit (k.wrap a)
  | a => bif leO (some (kMin k)) (rng 5 a).1 && leO (rng 5 a).2 (some (kMax k)) then a else .conv k a
theorem leO_ok {a b : Int} {o : Option Int} : (leO (some a) o = true → ∃ c, o = some c ∧ a ≤ c) ∧ (leO o (some b) = true → ∃ c, o = some c ∧ c ≤ b) := by
  constructor <;> intro h <;> cases o <;> simp only [leO] at h <;> first | (cases h; done) | exact ⟨_, rfl, leb_ok h⟩
theorem mkConv_den (ρ : Env) (k : IntKind) (a : E) : (mkConv k a).den ρ = k.wrap (a.den ρ) := by
  unfold mkConv
  split
  · rfl
  · rename_i hne
    clear hne
    cases h : leO (some (kMin k)) (rng 5 a).1 && leO (rng 5 a).2 (some (kMax k)) with
    | false => rfl
    | true =>
      simp only [Bool.and_eq_true] at h
      obtain ⟨c, h1, h2⟩ := (leO_ok (b := 0)).1 h.1
      obtain ⟨d, h3, h4⟩ := (leO_ok (a := 0)).2 h.2
      have := (rng_ok ρ 5 a).1 c h1
      have := (rng_ok ρ 5 a).2 d h3
      rw [cond_true, wrap_id k _ (by omega) (by omega)]
def mkOfB : B → E
  | .lit b => .lit (b2i b)
  | b => .ofB b
theorem mkOfB_den (ρ : Env) (b : B) : (mkOfB b).den ρ = b2i (b.den ρ) := by unfold mkOfB; split <;> rfl
def cmpB (op : BinOp) (a b : E) : Option B := match op with
  | .eql => some (mkEq a b)
  | .neq => some (mkNot (mkEq a b))
  | .lss => some (mkLt a b)
  | .leq => some (mkNot (mkLt b a))
  | .gtr => some (mkLt b a)
  | .geq => some (mkNot (mkLt a b))
  | _ => none
def litsO : L → Option (List Int)
  | .nil => some []
  | .cons (.lit i) l => match litsO l with
    | some r => some (i :: r)
    | none => none
  | _ => none
theorem litsO_ok (ρ : Env) : ∀ {l : L} {r : List Int}, litsO l = some r → l.den ρ = r
  | .nil, r, h => by cases h; rfl
  | .cons (.lit i) l, r, h => by
    unfold litsO at h
    split at h
    · rename_i r' hr; cases h; simp [L.den, E.den, litsO_ok ρ hr]
    · cases h
  | .cons (.var _) _, r, h | .cons .ix _, r, h | .cons (.bin ..) _, r, h | .cons (.un ..) _, r, h | .cons (.conv ..) _, r, h | .cons (.get ..) _, r, h | .cons (.len _) _, r, h | .cons (.cnt _) _, r, h | .cons (.ofB _) _, r, h | .cons (.ite ..) _, r, h => by cases h
  | .var _, r, h | .at .., r, h | .cat .., r, h | .cut .., r, h | .sub .., r, h | .set .., r, h | .rep .., r, h | .byt .., r, h | .app .., r, h | .ite .., r, h => by cases h
def mkSeq (a b : L) : B := match litsO a, litsO b with
  | some x, some y => .lit (eqS x y)
  | _, _ => bif a.same b then .lit true else .seq a b
theorem mkSeq_den (ρ : Env) (a b : L) : (mkSeq a b).den ρ = eqS (a.den ρ) (b.den ρ) := by
  unfold mkSeq
  split
  · rename_i x y hx hy; rw [litsO_ok ρ hx, litsO_ok ρ hy]; rfl
  · cases h : a.same b with
    | true => rw [L.same_ok h]; simp [B.den, eqS]
    | false => rfl
def dbin (op : BinOp) (x y : V) : Option (V × List B) := match x, y with
  | .int k a, .int k' b =>
    if isShift op then some (.int k (mkBin op k a b), [mkNot (mkLt b (.lit 0))])
    else if k = k' then
      if isArith op then some (.int k (mkBin op k a b), [])
      else if isDiv op then some (.int k (mkBin op k a b), [mkNot (mkEq b (.lit 0))])
      else match cmpB op a b with
        | some r => some (.bool r, [])
        | none => none
    else none
  | .bool a, .bool b => match op with
    | .eql => some (.bool (mkEq (mkOfB a) (mkOfB b)), [])
    | .neq => some (.bool (mkNot (mkEq (mkOfB a) (mkOfB b))), [])
    | _ => none
  | .str a, .str b => match op with
    | .eql => some (.bool (mkSeq a b), [])
    | .neq => some (.bool (mkNot (mkSeq a b)), [])
    | _ => none
  | _, _ => none
theorem run_cmp {op : BinOp} {k : IntKind} {a b : E} {r : B} (h : cmpB op a b = some r) (t : TypeId) (x y : Operand) (w : World) :
    ((do eqGuard op t x y (.int k (a.den ρ)) (.int k (b.den ρ)); binOp op t (.int k (a.den ρ)) (.int k (b.den ρ)) : Sem Value)).run P w = .ok (.bool (r.den ρ)) w := by
  have hg : (eqGuard op t x y (.int k (a.den ρ)) (.int k (b.den ρ))).run P w = .ok () w := by unfold eqGuard; cases op <;> rfl
  rw [Sem.run_bind, hg]
  cases op <;> simp only [cmpB] at h <;> cases h <;> simp [binOp, Op.intCmp, mkNot_den, mkLt_den, mkEq_den, ltb_eq, eqb_eq]
  · rw [Bool.eq_iff_iff]; simp
  · rw [Bool.eq_iff_iff]; simp
  · rw [Bool.eq_iff_iff]; simp
theorem strOf_bytes (l : List Int) : (strOf l).toList.map (fun b => (b.toNat : Int)) = l.map byte := by
  unfold strOf
  rw [ByteArray.toList_eq]
  simp [byte, Function.comp_def]
theorem strOf_beq (l m : List Int) : ((strOf l).toList == (strOf m).toList) = eqS l m := by
  unfold eqS
  rw [Bool.eq_iff_iff]
  simp only [beq_iff_eq, decide_eq_true_eq]
  rw [← strOf_bytes, ← strOf_bytes]
  constructor
  · intro h; rw [h]
  · intro h
    exact (List.map_inj_right fun a b h => UInt8.toNat_inj.1 (by omega)).1 h
end
end Go.Proofs.YtmckhoaekbeijaaGreat.E
/- Numbers, truths, what is nil, aggregates compared and built. Plain Lean over the kit's model; no program. -/
namespace Go.Proofs.YtmckhoaekbeijaaGreat.E
open Go Go.RowKit
set_option linter.unusedVariables false

section
variable {P : Program} {ρ : Env} {o : Oper} {fr : Fm} {n : Nat} {σ : Sto}

theorem run_shift {op : BinOp} {k k' : IntKind} {a b : Int} (hop : isShift op = true) (hb : 0 ≤ b) (w : World) (t : TypeId) (x y : Operand) :
    ((do eqGuard op t x y (.int k a) (.int k' b); binOp op t (.int k a) (.int k' b) : Sem Value)).run P w = .ok (.int k (binI op k a b)) w := by
  cases op <;> first | (cases hop; done) | skip
  · simp [eqGuard, binOp, Op.shift, binI, show ¬ b < 0 by omega]
  · simp [eqGuard, binOp, Op.shift, binI, show ¬ b < 0 by omega]
theorem run_arith {op : BinOp} {k : IntKind} {a b : Int} (hop : isArith op = true) (w : World) (t : TypeId) (x y : Operand) :
    ((do eqGuard op t x y (.int k a) (.int k b); binOp op t (.int k a) (.int k b) : Sem Value)).run P w = .ok (.int k (binI op k a b)) w := by
  cases op <;> first | (cases hop; done) | simp [eqGuard, binOp, Op.intArith, Op.intBits, binI]
theorem run_div {op : BinOp} {k : IntKind} {a b : Int} (hop : isDiv op = true) (hb : b ≠ 0) (w : World) (t : TypeId) (x y : Operand) :
    ((do eqGuard op t x y (.int k a) (.int k b); binOp op t (.int k a) (.int k b) : Sem Value)).run P w = .ok (.int k (binI op k a b)) w := by
  cases op <;> first | (cases hop; done) | simp [eqGuard, binOp, Op.intDiv, binI, hb]
theorem run_boolEq (t : TypeId) (hu : P.underlying t = some .bool) (a b ne : Bool) (x y : Operand) (w : World) :
    ((do eqGuard (if ne then .neq else .eql) t x y (.bool a) (.bool b); binOp (if ne then .neq else .eql) t (.bool a) (.bool b) : Sem Value)).run P w = .ok (.bool ((a == b) != ne)) w := by
  have h : (Op.equal t (.bool a) (.bool b)).run P w = .ok (a == b) w := run_equalIn_bool' w 9999 t a b hu
  cases ne
  · simp [eqGuard, binOp, h]
  · simp [eqGuard, binOp, h]
theorem run_strEq (t : TypeId) (a b : List Int) (ne : Bool) (x y : Operand) (w : World) :
    ((do eqGuard (if ne then .neq else .eql) t x y (.string (strOf a)) (.string (strOf b)); binOp (if ne then .neq else .eql) t (.string (strOf a)) (.string (strOf b)) : Sem Value)).run P w = .ok (.bool (eqS a b != ne)) w := by
  cases ne
  · simp [eqGuard, binOp, Op.stringOp, strOf_beq]
  · simp [eqGuard, binOp, Op.stringOp, strOf_beq]
theorem eqb_b2i (a b : Bool) : eqb (b2i a) (b2i b) = (a == b) := by cases a <;> cases b <;> rfl

theorem dbin_ok {op : BinOp} {t u : TypeId} {x y : Operand} {v : V} {bs : List B} (h : o.op = .binOp op t x y u) (hv : dbin op (opd fr x) (opd fr y) = some (v, bs)) (hb : ∀ b ∈ bs, b.den ρ = true) (hbool : (∃ a b, opd fr x = .bool a ∧ opd fr y = .bool b) → P.underlying t = some .bool) : POp P ρ o fr v :=
  fun β a w hρ ho => by
    have g1 := ho x (by rw [h]; simp [Op.operands])
    have g2 := ho y (by rw [h]; simp [Op.operands])
    subst hρ
    have fin : ∀ {r : Value}, ((do eqGuard op t x y (a.eval x) (a.eval y); binOp op t (a.eval x) (a.eval y) : Sem Value)).run P w = .ok r w → (execOp a.eval o).run P w = .ok (.value r) w := by
      intro r hr
      unfold execOp; rw [h]
      rw [Sem.run_bind] at hr
      simp only [Sem.run_bind, hr, Result.andThen_ok, Sem.run_pure]
    unfold dbin at hv
    split at hv
    · rename_i k e k' e' hx hy
      rw [hx] at g1; rw [hy] at g2
      rw [R_int g1, R_int g2] at fin
      split at hv
      · rename_i hs
        cases hv
        have h0 := hb _ (List.mem_singleton.2 rfl)
        rw [mkNot_den, mkLt_den, ltb_eq] at h0
        have h0 : 0 ≤ e'.den β.g.env := by
          simp only [E.den, Bool.not_eq_true'] at h0
          have := of_decide_eq_false h0
          omega
        exact ⟨_, fin (run_shift hs h0 w t x y), R.mkInt β k (mkBin_den _ _ _ _ _)⟩
      · split at hv
        · rename_i hk
          subst hk
          split at hv
          · rename_i ha
            cases hv
            exact ⟨_, fin (run_arith ha w t x y), R.mkInt β k (mkBin_den _ _ _ _ _)⟩
          · split at hv
            · rename_i hd
              cases hv
              have h0 := hb _ (List.mem_singleton.2 rfl)
              rw [mkNot_den, mkEq_den, eqb_eq] at h0
              have h0 : e'.den β.g.env ≠ 0 := by simpa [E.den] using h0
              exact ⟨_, fin (run_div hd h0 w t x y), R.mkInt β k (mkBin_den _ _ _ _ _)⟩
            · split at hv
              · rename_i r hr
                cases hv
                exact ⟨_, fin (run_cmp hr t x y w), R.mkBool β rfl⟩
              · cases hv
        · cases hv
    · rename_i b b' hx hy
      have hu := hbool ⟨_, _, hx, hy⟩
      rw [hx] at g1; rw [hy] at g2
      rw [R_bool g1, R_bool g2] at fin
      split at hv
      · cases hv
        exact ⟨_, fin (run_boolEq t hu _ _ false x y w), R.mkBool β (by rw [mkEq_den, mkOfB_den, mkOfB_den, eqb_b2i]; simp)⟩
      · cases hv
        exact ⟨_, fin (run_boolEq t hu _ _ true x y w), R.mkBool β (by rw [mkNot_den, mkEq_den, mkOfB_den, mkOfB_den, eqb_b2i]; simp)⟩
      · cases hv
    · rename_i b b' hx hy
      rw [hx] at g1; rw [hy] at g2
      rw [R_str g1, R_str g2] at fin
      split at hv
      · cases hv
        exact ⟨_, fin (run_strEq t _ _ false x y w), R.mkBool β (by simp [mkSeq_den])⟩
      · cases hv
        exact ⟨_, fin (run_strEq t _ _ true x y w), R.mkBool β (by simp [mkNot_den, mkSeq_den])⟩
      · cases hv
    · cases hv

def dun (op : UnOp) (x : V) : Option V := match op, x with
  | .not, .bool b => some (.bool (mkNot b))
  | .neg, .int k e => some (.int k (mkUn .neg k e))
  | .xor, .int k e => some (.int k (mkUn .xor k e))
  | _, _ => none
theorem dun_ok {op : UnOp} {t : TypeId} {x : Operand} {v : V} (h : o.op = .unOp op t x) (hv : dun op (opd fr x) = some v) : POp P ρ o fr v :=
  fun β a w hρ ho => by
    have g1 := ho x (by rw [h]; simp [Op.operands])
    unfold dun at hv
    split at hv
    · rename_i b hx
      cases hv
      rw [hx] at g1
      exact ⟨.bool (!b.den β.g.env), by unfold execOp; rw [h]; simp [R_bool g1, Op.unary], R.mkBool β (mkNot_den _ _)⟩
    · rename_i k e hx
      cases hv
      rw [hx] at g1
      exact ⟨.int k (unI .neg k (e.den β.g.env)), by unfold execOp; rw [h]; simp [R_int g1, Op.unary, Op.intArith, unI], R.mkInt β k (mkUn_den _ _ _ _)⟩
    · rename_i k e hx
      cases hv
      rw [hx] at g1
      exact ⟨.int k (unI .xor k (e.den β.g.env)), by unfold execOp; rw [h]; simp [R_int g1, Op.unary, Op.intBits, unI], R.mkInt β k (mkUn_den _ _ _ _)⟩
    · cases hv

theorem POp.convInt {s d : TypeId} {x : Operand} {k k' : IntKind} {e : E} (h : o.op = .convert s d x) (hx : opd fr x = .int k' e) (hs : (P.underlying s).isSome = true) (hd : P.underlying d = some (.int k)) : POp P ρ o fr (.int k (mkConv k e)) :=
  fun β a w hρ ho => by
    have g1 := ho x (by rw [h]; simp [Op.operands])
    rw [hx] at g1
    obtain ⟨ds, hds⟩ := Option.isSome_iff_exists.1 hs
    exact ⟨.int k (k.wrap (e.den β.g.env)), by unfold execOp; rw [h]; simp [convert, run_underlying hds, run_underlying hd, R_int g1, Conv.intToInt], R.mkInt β k (mkConv_den _ _ _)⟩

/-! ### against nil -/
def isNilV : V → Bool
  | .sc (.slice none 0 0) => true
  | .sc (.pointer none) => true
  | _ => false
theorem POp.eqNilP {x y : Operand} {t u : TypeId} {ne : Bool} (h : o.op = .binOp (if ne then .neq else .eql) t x y u) (hx : (opd fr x).isPtr = true) (hy : opd fr y = .sc (.pointer none)) (hu : P.underlying t = some (.pointer (P.pointee t))) :
    POp P ρ o fr (.bool (.lit ne)) := fun β a w _ ho => by
  have g1 := ho x (by rw [h]; simp [Op.operands])
  have g2 := ho y (by rw [h]; simp [Op.operands])
  rw [hy] at g2
  have g2' : a.eval y = .pointer none := R_sc g2
  obtain ⟨ad, e'⟩ := g1.isPtr hx
  have hq : (Op.equal t (.pointer (some ad)) (.pointer none)).run P w = .ok false w := by rw [run_equal_pointer_nil w t _ hu]; rfl
  refine ⟨.bool ne, ?_, R.mkBool β rfl⟩
  unfold execOp
  rw [h]
  cases ne
  · have hg : (eqGuard .eql t x y (.pointer (some ad)) (.pointer none)).run P w = .ok () w := rfl
    simp only [e', g2', Bool.false_eq_true, if_false, Sem.run_bind, hg, Result.andThen_ok]
    simp only [binOp, Sem.run_bind, hq, Result.andThen_ok, Sem.run_pure]
  · have hg : (eqGuard .neq t x y (.pointer (some ad)) (.pointer none)).run P w = .ok () w := rfl
    simp only [e', g2', if_true, Sem.run_bind, hg, Result.andThen_ok]
    simp only [binOp, Sem.run_bind, hq, Result.andThen_ok, Sem.run_pure, Bool.not_false]
theorem POp.eqNilOpt {x y : Operand} {t u : TypeId} {ne : Bool} {b : B} {v : V} (h : o.op = .binOp (if ne then .neq else .eql) t x y u) (hx : opd fr x = .opt b v) (hv : v.isPtr = true) (hy : opd fr y = .sc (.pointer none)) (hu : P.underlying t = some (.pointer (P.pointee t))) :
    POp P ρ o fr (.bool (if ne then b else mkNot b)) := fun β a w hρ ho => by
  have g1 := ho x (by rw [h]; simp [Op.operands])
  have g2 := ho y (by rw [h]; simp [Op.operands])
  rw [hx] at g1; rw [hy] at g2
  have g2' : a.eval y = .pointer none := R_sc g2
  have g1' : (b.den β.g.env = true → F1 v β.g (a.eval x)) ∧ (b.den β.g.env = false → a.eval x = .pointer none) := by
    have : F1 (.opt b v) β.g (a.eval x) := g1
    simpa only [F1] using this
  have hq : ∃ p : Option Addr, a.eval x = .pointer p ∧ p.isSome = b.den β.g.env := by
    cases hb : b.den β.g.env with
    | true => obtain ⟨ad, e'⟩ := (R0.toR (F1.up (g1'.1 hb))).isPtr hv; exact ⟨some ad, e', rfl⟩
    | false => exact ⟨none, g1'.2 hb, rfl⟩
  obtain ⟨p, e', hp⟩ := hq
  have hq : (Op.equal t (.pointer p) (.pointer none)).run P w = .ok (!(b.den β.g.env)) w := by
    rw [run_equal_pointer_nil w t _ hu, ← hp]; cases p <;> rfl
  refine ⟨.bool (if ne then b.den β.g.env else !(b.den β.g.env)), ?_, R.mkBool β (by cases ne <;> simp [mkNot_den])⟩
  unfold execOp
  rw [h]
  cases ne
  · have hg : (eqGuard .eql t x y (.pointer p) (.pointer none)).run P w = .ok () w := rfl
    simp only [e', g2', Bool.false_eq_true, if_false, Sem.run_bind, hg, Result.andThen_ok]
    simp only [binOp, Sem.run_bind, hq, Result.andThen_ok, Sem.run_pure]
  · have hg : (eqGuard .neq t x y (.pointer p) (.pointer none)).run P w = .ok () w := rfl
    simp only [e', g2', if_true, Sem.run_bind, hg, Result.andThen_ok]
    simp only [binOp, Sem.run_bind, hq, Result.andThen_ok, Sem.run_pure, Bool.not_not]
theorem POp.eqNilNil {x y : Operand} {t u : TypeId} {ne : Bool} (h : o.op = .binOp (if ne then .neq else .eql) t x y u) (hx : opd fr x = .sc (.pointer none)) (hy : opd fr y = .sc (.pointer none)) (hu : P.underlying t = some (.pointer (P.pointee t))) :
    POp P ρ o fr (.bool (.lit (!ne))) := fun β a w _ ho => by
  have g1 := ho x (by rw [h]; simp [Op.operands])
  have g2 := ho y (by rw [h]; simp [Op.operands])
  rw [hx] at g1; rw [hy] at g2
  have e' : a.eval x = .pointer none := R_sc g1
  have g2' : a.eval y = .pointer none := R_sc g2
  have hq : (Op.equal t (.pointer none) (.pointer none)).run P w = .ok true w := by rw [run_equal_pointer_nil w t _ hu]; rfl
  refine ⟨.bool (!ne), ?_, R.mkBool β rfl⟩
  unfold execOp
  rw [h]
  cases ne
  · have hg : (eqGuard .eql t x y (.pointer none) (.pointer none)).run P w = .ok () w := rfl
    simp only [e', g2', Bool.false_eq_true, if_false, Sem.run_bind, hg, Result.andThen_ok]
    simp only [binOp, Sem.run_bind, hq, Result.andThen_ok, Sem.run_pure, Bool.not_false]
  · have hg : (eqGuard .neq t x y (.pointer none) (.pointer none)).run P w = .ok () w := rfl
    simp only [e', g2', if_true, Sem.run_bind, hg, Result.andThen_ok]
    simp only [binOp, Sem.run_bind, hq, Result.andThen_ok, Sem.run_pure]
end

/-! ### '==' of aggregates -/
def slc {α : Type} (xs : List α) (off k : Nat) : List α := (xs.drop off).take k
def eqFs {α β : Type} (P : Program) (eq : TypeId → List α → List α → Option β) (tt : β) (and : β → β → β) (xs ys : List α) : List Field → Option β
  | [] => some tt
  | f :: fs => if f.name = "_" then eqFs P eq tt and xs ys fs else match sz P f.type with
    | some k => match eq f.type (slc xs f.offset k) (slc ys f.offset k), eqFs P eq tt and xs ys fs with
      | some a, some b => some (and a b)
      | _, _ => none
    | none => none
def eqIs {α β : Type} (eq : List α → List α → Option β) (tt : β) (and : β → β → β) (k : Nat) (xs ys : List α) : List Nat → Option β
  | [] => some tt
  | i :: is => match eq (slc xs (i * k) k) (slc ys (i * k) k), eqIs eq tt and k xs ys is with
    | some a, some b => some (and a b)
    | _, _ => none
def eqT (P : Program) : Nat → TypeId → List Value → List Value → Option Bool
  | 0, _, _, _ => none
  | d + 1, t, xs, ys =>
    match P.underlying t with
    | some (.int _) => match xs, ys with
      | [.int k a], [.int k' b] => if k = k' then some (eqb a b) else none
      | _, _ => none
    | some .bool => match xs, ys with
      | [.bool a], [.bool b] => some (a == b)
      | _, _ => none
    | some (.struct fs) => if P.stoodInHeld t then none else eqFs P (eqT P d) true (· && ·) xs ys fs.toList
    | some (.array n e) => match sz P e with
      | some k => eqIs (eqT P d e) true (· && ·) k xs ys (List.range n)
      | none => none
    | _ => none
/-- the numbers of cells, and as one row. -/
def intsAll : List V → Option (List E)
  | [] => some []
  | .int _ i :: r => match intsAll r with
    | some l => some (i :: l)
    | none => none
  | _ => none
def consL : List E → L
  | [] => .nil
  | e :: l => .cons e (consL l)
/-- 'get l o', 'get l (o+1)', .. : all of one row? -/
def runOf (l : L) : Nat → List E → Bool
  | _, [] => true
  | o, .get l' (.lit (.ofNat j)) :: r => Nat.beq j o && l.same l' && runOf l (o + 1) r
  | _, _ => false
def colL (es : List E) : L := match es with
  | .get l (.lit (.ofNat o)) :: r => if runOf l o es then .sub l o es.length else consL es
  | es => consL es
theorem consL_den (ρ : Env) : ∀ es : List E, (consL es).den ρ = es.map (E.den ρ)
  | [] => rfl
  | e :: l => by simp [consL, L.den, consL_den ρ l]
theorem runOf_den (ρ : Env) (l : L) : ∀ (o : Nat) (es : List E), runOf l o es = true → es.map (E.den ρ) = (List.range es.length).map fun i => (l.den ρ).getD (o + i) 0
  | o, [], _ => by simp
  | o, .get l' (.lit (.ofNat j)) :: r, h => by
    simp only [runOf, Bool.and_eq_true] at h
    obtain rfl := Nat.eq_of_beq_eq_true h.1.1
    obtain rfl := L.same_ok h.1.2
    rw [List.map_cons, runOf_den ρ l (j + 1) r h.2, List.length_cons, List.range_succ_eq_map, List.map_cons]
    simp only [E.den, Int.ofNat_eq_natCast, Int.toNat_natCast, Nat.add_zero, List.map_map, List.cons.injEq, true_and]
    apply List.map_congr_left
    intro i _
    simp only [Function.comp]
    rw [Nat.add_right_comm, Nat.add_assoc]
  | o, .get l' (.lit (.negSucc j)) :: r, h => by simp [runOf] at h
  | o, .get l' (.var _) :: r, h | o, .get l' .ix :: r, h | o, .get l' (.bin ..) :: r, h | o, .get l' (.un ..) :: r, h | o, .get l' (.conv ..) :: r, h | o, .get l' (.get ..) :: r, h | o, .get l' (.len _) :: r, h | o, .get l' (.cnt _) :: r, h | o, .get l' (.ofB _) :: r, h | o, .get l' (.ite ..) :: r, h => by simp [runOf] at h
  | o, .lit _ :: r, h | o, .var _ :: r, h | o, .ix :: r, h | o, .bin .. :: r, h | o, .un .. :: r, h | o, .conv .. :: r, h | o, .len _ :: r, h | o, .cnt _ :: r, h | o, .ofB _ :: r, h | o, .ite .. :: r, h => by simp [runOf] at h
theorem colL_den (ρ : Env) (es : List E) : (colL es).den ρ = es.map (E.den ρ) := by
  unfold colL
  split
  · rename_i l o r
    split
    · rename_i h
      rw [runOf_den ρ l o _ h]; rfl
    · exact consL_den ρ _
  · exact consL_den ρ _

def mkLeq (a b : L) : B := match litsO a, litsO b with
  | some x, some y => .lit (eqL x y)
  | _, _ => bif a.same b then .lit true else .leq a b
theorem mkLeq_den (ρ : Env) (a b : L) : (mkLeq a b).den ρ = eqL (a.den ρ) (b.den ρ) := by
  unfold mkLeq
  split
  · rename_i x y hx hy; rw [litsO_ok ρ hx, litsO_ok ρ hy]; rfl
  · cases h : a.same b with
    | true => rw [L.same_ok h]; simp [B.den, eqL]
    | false => rfl
def eqEs : List E → List E → B
  | [], [] => .lit true
  | a :: as, b :: bs => mkAnd (mkEq a b) (eqEs as bs)
  | _, _ => .lit false
theorem eqEs_den (ρ : Env) : ∀ as bs : List E, (eqEs as bs).den ρ = eqL (as.map (E.den ρ)) (bs.map (E.den ρ))
  | [], [] => rfl
  | a :: as, b :: bs => by
    simp only [eqEs, mkAnd_den, mkEq_den, eqEs_den ρ as bs, eqb_eq, eqL, List.map_cons]
    rw [Bool.eq_iff_iff]; simp
  | [], b :: bs => by simp [eqEs, B.den, eqL]
  | a :: as, [] => by simp [eqEs, B.den, eqL]
def eqInts (as bs : List E) : B := if Nat.ble as.length 8 then eqEs as bs else mkLeq (colL as) (colL bs)
theorem eqInts_den (ρ : Env) (as bs : List E) : (eqInts as bs).den ρ = eqL (as.map (E.den ρ)) (bs.map (E.den ρ)) := by
  unfold eqInts
  split
  · exact eqEs_den ρ as bs
  · rw [mkLeq_den, colL_den, colL_den]
def isIntT : Option TypeDesc → Option IntKind
  | some (.int k) => some k
  | _ => none
/-- do all these have one kind? -/
def allKind (k : IntKind) : List V → Bool
  | [] => true
  | .int k' _ :: r => Nat.beq (kN k) (kN k') && allKind k r
  | _ => false
def eqB (P : Program) : Nat → TypeId → List V → List V → Option B
  | 0, _, _, _ => none
  | d + 1, t, xs, ys =>
    match P.underlying t with
    | some (.int _) => match xs, ys with
      | [.int k a], [.int k' b] => if k = k' then some (mkEq a b) else none
      | _, _ => none
    | some .bool => match xs, ys with
      | [.bool a], [.bool b] => some (mkEq (mkOfB a) (mkOfB b))
      | _, _ => none
    | some (.struct fs) => if P.stoodInHeld t then none else eqFs P (eqB P d) (.lit true) mkAnd xs ys fs.toList
    | some (.array n e) => match sz P e with
      | some k => match isIntT (P.underlying e) with
        | some kd => if Nat.beq k 1 && Nat.blt 0 d && allKind kd xs && allKind kd ys && Nat.beq xs.length n && Nat.beq ys.length n then match intsAll xs, intsAll ys with
            | some as, some bs => some (eqInts as bs)
            | _, _ => none
          else none
        | none => eqIs (eqB P d e) (.lit true) mkAnd k xs ys (List.range n)
      | none => none
    | _ => none

theorem slc_F2 {r : V → Value → Prop} {cs : List V} {xs : List Value} (h : F2 r cs xs) (off k : Nat) : F2 r (slc cs off k) (slc xs off k) := (h.drop off).take k
theorem ints_F2 {β : Bt} {kd : IntKind} : ∀ {cs : List V} {xs : List Value} {es : List E}, F2 (R1 β) cs xs → allKind kd cs = true → intsAll cs = some es → xs = es.map (fun e => Value.int kd (e.den β.g.env)) ∧ es.length = cs.length
  | [], [], es, _, _, h => by cases h; simp
  | c :: cs, x :: xs, es, hf, hk, h => by
    unfold intsAll at h
    split at h
    · cases h; contradiction
    · rename_i k' i r he
      cases he
      split at h
      · rename_i l hl
        cases h
        simp only [allKind, Bool.and_eq_true] at hk
        have hk' := kN_inj hk.1
        subst hk'
        obtain ⟨h1, h2⟩ := ints_F2 hf.2 hk.2 hl
        have hx : x = .int kd (i.den β.g.env) := by have := hf.1; simpa only [R1, R0, F1] using this
        rw [hx, h1]; simp [h2]
      · cases h
    · cases h
theorem eqIs_ints {P : Program} {d e : Nat} {kd : IntKind} (hu : P.underlying e = some (.int kd)) (as bs : List Int) (n : Nat) (ha : as.length = n) (hb : bs.length = n) :
    eqIs (eqT P (d + 1) e) true (· && ·) 1 (as.map (Value.int kd)) (bs.map (Value.int kd)) (List.range n) = some (eqL as bs) := by
  have key : ∀ is : List Nat, (∀ i ∈ is, i < n) → eqIs (eqT P (d + 1) e) true (· && ·) 1 (as.map (Value.int kd)) (bs.map (Value.int kd)) is = some (is.all fun i => eqb (as.getD i 0) (bs.getD i 0)) := by
    intro is
    induction is with
    | nil => intro _; rfl
    | cons i is ih =>
      intro h
      have hi := h i (by simp)
      have h1 : ∀ l : List Int, l.length = n → slc (l.map (Value.int kd)) (i * 1) 1 = [.int kd (l.getD i 0)] := by
        intro l hl
        unfold slc
        rw [Nat.mul_one, List.drop_eq_getElem_cons (by simpa [hl] using hi)]
        simp [List.getD, hl, hi]
      unfold eqIs
      rw [h1 as ha, h1 bs hb, ih fun j hj => h j (by simp [hj])]
      simp [eqT, hu]
  rw [key _ fun i hi => by simpa using hi]
  congr 1
  rw [Bool.eq_iff_iff]
  simp only [List.all_eq_true, List.mem_range, eqb_eq, beq_iff_eq, eqL, decide_eq_true_eq]
  constructor
  · intro h
    apply List.ext_getElem?
    intro i
    by_cases hi : i < n
    · have := h i hi
      simp only [List.getD, ha, hb, hi, List.getElem?_eq_getElem, Option.getD_some] at this ⊢
      rw [this]
    · rw [List.getElem?_eq_none (by omega), List.getElem?_eq_none (by omega)]
  · rintro rfl i _; rfl
theorem eqB_ok {P : Program} {β : Bt} : ∀ {d t : Nat} {cs ds : List V} {xs ys : List Value} {b : B}, eqB P d t cs ds = some b → F2 (R1 β) cs xs → F2 (R1 β) ds ys → eqT P d t xs ys = some (b.den β.g.env)
  | 0, _, _, _, _, _, _, h, _, _ => by cases h
  | d + 1, t, cs, ds, xs, ys, b, h, hx, hy => by
    unfold eqB at h
    split at h
    · rename_i hu
      split at h
      · rename_i k a k' b'
        split at h
        · rename_i hk
          subst hk; cases h
          match xs, ys, hx, hy with
          | [x], [y], hx, hy =>
            have h1 : x = .int k (a.den β.g.env) := by have := hx.1; simpa only [R1, R0, F1] using this
            have h2 : y = .int k (b'.den β.g.env) := by have := hy.1; simpa only [R1, R0, F1] using this
            simp [eqT, hu, h1, h2, mkEq_den]
        · cases h
      · cases h
    · rename_i hu
      split at h
      · rename_i a b'
        cases h
        match xs, ys, hx, hy with
        | [x], [y], hx, hy =>
          have h1 : x = .bool (a.den β.g.env) := by have := hx.1; simpa only [R1, R0, F1] using this
          have h2 : y = .bool (b'.den β.g.env) := by have := hy.1; simpa only [R1, R0, F1] using this
          simp [eqT, hu, h1, h2, mkEq_den, mkOfB_den, eqb_b2i]
      · cases h
    · rename_i fs hu
      split at h
      · cases h
      · rename_i hp
        unfold eqT
        simp only [hu]
        rw [if_neg hp]
        generalize fs.toList = l at h ⊢
        clear hu hp
        induction l generalizing b with
        | nil => cases h; simp [eqFs, B.den]
        | cons f l ih =>
          unfold eqFs at h ⊢
          split at h
          · rename_i hn; rw [if_pos hn]; exact ih _ h
          · rename_i hn
            rw [if_neg hn]
            split at h
            · rename_i k hk
              split at h
              · rename_i a b' ha hb'
                cases h
                simp only [eqB_ok ha (slc_F2 hx _ _) (slc_F2 hy _ _), ih _ hb', mkAnd_den]
              · cases h
            · cases h
    · rename_i m e hu
      split at h
      · rename_i k hk
        unfold eqT
        simp only [hu, hk]
        split at h
        · rename_i kd hkd
          split at h
          · rename_i hc
            simp only [Bool.and_eq_true] at hc
            split at h
            · rename_i as bs has hbs
              cases h
              obtain ⟨h1, h2⟩ := ints_F2 hx hc.1.1.1.2 has
              obtain ⟨h3, h4⟩ := ints_F2 hy hc.1.1.2 hbs
              have hd : 0 < d := Nat.le_of_ble_eq_true hc.1.1.1.1.2
              obtain ⟨d', rfl⟩ : ∃ d', d = d' + 1 := ⟨d - 1, by omega⟩
              have hk1 := Nat.eq_of_beq_eq_true hc.1.1.1.1.1
              subst hk1
              have hue : P.underlying e = some (.int kd) := by
                unfold isIntT at hkd; split at hkd
                · cases hkd; assumption
                · cases hkd
              have := eqIs_ints (P := P) (d := d') hue (as.map (E.den β.g.env)) (bs.map (E.den β.g.env)) m (by rw [List.length_map, h2]; exact Nat.eq_of_beq_eq_true hc.1.2) (by rw [List.length_map, h4]; exact Nat.eq_of_beq_eq_true hc.2)
              rw [h1, h3, eqInts_den]
              rw [List.map_map, List.map_map] at this
              exact this
            · cases h
          · cases h
        · generalize List.range m = l at h ⊢
          clear hu
          induction l generalizing b with
          | nil => cases h; simp [eqIs, B.den]
          | cons j l ih =>
            unfold eqIs at h ⊢
            split at h
            · rename_i a b' ha hb'
              cases h
              simp only [eqB_ok ha (slc_F2 hx _ _) (slc_F2 hy _ _), ih _ hb', mkAnd_den]
            · cases h
      · cases h
    · cases h

/-- a value of a type, of its cells. -/
def ofCells (P : Program) (t : TypeId) (xs : List Value) : Value := if isAg (P.underlying t) then .agg xs.toArray else xs.getD 0 undef
theorem run_part_slc {P : Program} (w : World) {t off k : Nat} {xs : Array Value} {d : TypeDesc} (hd : P.underlying t = some d) (hk : sz P t = some k) (h : isAg (some d) = true ∨ ∃ x, slc xs.toList off k = [x] ∧ k = 1) :
    (Go.part t xs off).run P w = .ok (ofCells P t (slc xs.toList off k)) w := by
  unfold ofCells
  rw [hd]
  cases hag : isAg (some d) with
  | true =>
    simp only [Go.part, Sem.run_bind, run_isAg hd, hag, Result.andThen_ok, if_true, run_sz hk, Sem.run_pure]
    congr 2
    apply Array.ext'
    simp [slc, List.extract_eq_take_drop]
  | false =>
    rcases h with h | ⟨x, hx, rfl⟩
    · rw [hag] at h; cases h
    · have hx' : xs[off]? = some x := by
        have := congrArg (fun l => l[0]?) hx
        simpa [slc, List.getElem?_take, List.getElem?_drop] using this
      simp [Go.part, run_isAg hd, hag, hx', hx]
/-- what 'eqT' says of a type's shape. -/
theorem eqT_shape {P : Program} {d t : Nat} {xs ys : List Value} {r : Bool} (h : eqT P d t xs ys = some r) : ∃ dd, P.underlying t = some dd ∧ (isAg (some dd) = true ∨ (∃ x y, xs = [x] ∧ ys = [y])) := by
  cases d with
  | zero => cases h
  | succ d =>
    unfold eqT at h
    split at h
    all_goals first
      | (rename_i e; refine ⟨_, e, ?_⟩; split at h <;> first | exact .inr ⟨_, _, rfl, rfl⟩ | cases h | exact .inl rfl)
      | cases h
theorem run_eqT {P : Program} (e0 : Nat) : ∀ (d t : Nat) (xs ys : List Value) (r : Bool) (w : World), eqT P d t xs ys = some r → (Op.equalIn (e0 + d) t (ofCells P t xs) (ofCells P t ys)).run P w = .ok r w
  | 0, _, _, _, _, _, h => by cases h
  | d + 1, t, xs, ys, r, w, h => by
    have ih := run_eqT (P := P) e0 d
    have inner : ∀ (t' off k : Nat) (xa ya : Array Value) (r' : Bool), sz P t' = some k → eqT P d t' (slc xa.toList off k) (slc ya.toList off k) = some r' →
        (Go.part t' xa off).run P w = .ok (ofCells P t' (slc xa.toList off k)) w ∧ (Go.part t' ya off).run P w = .ok (ofCells P t' (slc ya.toList off k)) w ∧ (Op.equalIn (e0 + d) t' (ofCells P t' (slc xa.toList off k)) (ofCells P t' (slc ya.toList off k))).run P w = .ok r' w := by
      intro t' off k xa ya r' hk he
      obtain ⟨dd, hdd, hs⟩ := eqT_shape he
      rcases hs with hs | ⟨x, y, hx, hy⟩
      · exact ⟨run_part_slc w hdd hk (.inl hs), run_part_slc w hdd hk (.inl hs), ih _ _ _ _ _ he⟩
      · by_cases hag : isAg (some dd) = true
        · exact ⟨run_part_slc w hdd hk (.inl hag), run_part_slc w hdd hk (.inl hag), ih _ _ _ _ _ he⟩
        · -- a single cell: 'part' takes the cell at 'off'
          have e1 : ∀ (za : Array Value) (z : Value), slc za.toList off k = [z] → (Go.part t' za off).run P w = .ok (ofCells P t' [z]) w := by
            intro za z hz
            have hz' : za[off]? = some z := by
              have := congrArg (fun l => l[0]?) hz
              simp only [slc, List.getElem?_take, List.getElem?_drop] at this
              split at this
              · simpa using this
              · simp at this
            have hag' : isAg (some dd) = false := by simpa using hag
            simp [Go.part, run_isAg hdd, hag', hz', ofCells, hdd]
          refine ⟨?_, ?_, ih _ _ _ _ _ he⟩
          · rw [hx]; exact e1 xa x hx
          · rw [hy]; exact e1 ya y hy
    unfold eqT at h
    rw [show e0 + (d + 1) = (e0 + d) + 1 from rfl]
    split at h
    · rename_i kk hu
      split at h
      · rename_i k a k' b
        split at h
        · rename_i hkk; subst hkk; cases h
          simp only [ofCells, hu, isAg]
          rw [eqb_eq]
          exact run_equalIn_int w (e0 + d) t k kk a b hu
        · cases h
      · cases h
    · rename_i hu
      split at h
      · rename_i a b; cases h
        simp only [ofCells, hu, isAg]
        exact run_equalIn_bool' w (e0 + d) t a b hu
      · cases h
    · rename_i fs hu
      split at h
      · cases h
      · rename_i hp
        have hfs : P.fieldsOf t = fs := by simp [Program.fieldsOf, hu]
        simp only [ofCells, hu, isAg, if_true]
        rw [run_equalIn_struct w (e0 + d) t xs.toArray ys.toArray (by rw [hfs]; exact hu) (by simpa using hp), hfs]
        generalize fs.toList = l at h
        clear hfs hu
        induction l generalizing r with
        | nil => cases h; simp [Op.eqFields]
        | cons f l ihl =>
          unfold eqFs at h
          unfold Op.eqFields
          split at h
          · rename_i hn
            rw [if_neg (by simp [hn])]
            exact ihl r h
          · rename_i hn
            rw [if_pos (by simpa using hn)]
            split at h
            · rename_i k hk
              split at h
              · rename_i a b ha hb
                cases h
                obtain ⟨p1, p2, p3⟩ := inner f.type f.offset k xs.toArray ys.toArray a hk (by simpa using ha)
                simp only [Sem.run_bind, p1, p2, p3, Result.andThen_ok]
                cases a with
                | false => simp
                | true => simpa using ihl b hb
              · cases h
            · cases h
    · rename_i m e hu
      split at h
      · rename_i k hk
        have hi : ∃ i, P.info? e = some i ∧ P.cellsOf e = k := by
          unfold sz at hk
          obtain ⟨i, hi, hk'⟩ := Option.map_eq_some_iff.1 hk
          exact ⟨i, hi, by simp [Program.cellsOf, hi, hk']⟩
        obtain ⟨i, hi, hc⟩ := hi
        simp only [ofCells, hu, isAg, if_true]
        rw [run_equalIn_array w (e0 + d) xs.toArray ys.toArray hu hi, hc]
        generalize List.range m = l at h
        induction l generalizing r with
        | nil => cases h; simp [Op.eqItems]
        | cons j l ihl =>
          unfold eqIs at h
          unfold Op.eqItems
          split at h
          · rename_i a b ha hb
            cases h
            obtain ⟨p1, p2, p3⟩ := inner e (j * k) k xs.toArray ys.toArray a hk (by simpa using ha)
            simp only [Sem.run_bind, p1, p2, p3, Result.andThen_ok]
            cases a with
            | false => simp
            | true => simpa using ihl b hb
          · cases h
      · cases h
    · cases h
/-- '==' and '!=' of two aggregates. -/
def deq (P : Program) (op : BinOp) (t : TypeId) (x y : V) : Option V :=
  match (match op with | .eql => some false | .neq => some true | _ => none), x, y with
  | some ne, .agg cs, .agg ds => if isAg (P.underlying t) && !P.eqGuardType P.depth t then match eqB P 100 t cs ds with
      | some b => some (.bool (bif ne then mkNot b else b))
      | none => none
    else none
  | _, _, _ => none
theorem deq_ok {P : Program} {ρ : Env} {o : Oper} {fr : Fm} {op : BinOp} {t u : TypeId} {x y : Operand} {v : V} (h : o.op = .binOp op t x y u) (hv : deq P op t (opd fr x) (opd fr y) = some v) : POp P ρ o fr v := by
  intro β a w hρ ho
  have g1 := ho x (by rw [h]; simp [Op.operands])
  have g2 := ho y (by rw [h]; simp [Op.operands])
  unfold deq at hv
  split at hv
  · rename_i ne cs ds hne hx hy
    rw [hx] at g1; rw [hy] at g2
    split at hv
    · rename_i hc
      simp only [Bool.and_eq_true, Bool.not_eq_true'] at hc
      split at hv
      · rename_i b hb
        cases hv
        obtain ⟨xa, e1, f1⟩ := g1
        obtain ⟨ya, e2, f2⟩ := g2
        have hrun := run_eqT (P := P) 9900 100 t _ _ _ w (eqB_ok hb f1 f2)
        simp only [ofCells, hc.1, if_true] at hrun
        refine ⟨.bool (b.den β.g.env != ne), ?_, R.mkBool β (by cases ne <;> simp [mkNot_den])⟩
        unfold execOp
        cases op <;> simp at hne <;> subst hne
        · rw [h]; simp only [e1, e2, Sem.run_bind, run_eqGuard_agg w _ _ _ _ _ _ hc.2, Result.andThen_ok, run_eql_struct, hrun, Sem.run_pure]; cases b.den β.g.env <;> rfl
        · rw [h]; simp only [e1, e2, Sem.run_bind, run_eqGuard_agg w _ _ _ _ _ _ hc.2, Result.andThen_ok, run_neq_struct, hrun, Sem.run_pure]; cases b.den β.g.env <;> rfl
      · cases hv
    · cases hv
  · cases hv
end Go.Proofs.YtmckhoaekbeijaaGreat.E
/- Aggregates and slices are built; what a slice holds; append. Plain Lean over the kit's model; no program. -/
namespace Go.Proofs.YtmckhoaekbeijaaGreat.E
open Go Go.RowKit
set_option linter.unusedVariables false

/-! ### aggregates that are built -/
theorem foldl_sets (off : Nat) : ∀ (l : List Value) (k : Nat) (cells : Array Value), off + k + l.length ≤ cells.size →
    ((l.zipIdx k).foldl (fun cs (x : Value × Nat) => cs.setIfInBounds (off + x.2) x.1) cells).toList = cells.toList.take (off + k) ++ l ++ cells.toList.drop (off + k + l.length)
  | [], k, cells, _ => by simp
  | y :: l, k, cells, h => by
    rw [List.zipIdx_cons, List.foldl_cons, foldl_sets off l (k + 1) _ (by simp at h ⊢; omega)]
    simp only [Array.toList_setIfInBounds, List.length_cons] at *
    apply List.ext_getElem?
    intro i
    have hl : (cells.toList).length = cells.size := by simp
    simp only [List.getElem?_append, List.getElem?_take, List.getElem?_drop, List.length_append, List.length_take, List.length_set, List.getElem?_set, List.length_cons, List.getElem?_cons, hl]
    repeat' split
    all_goals first | rfl | (exfalso; omega) | (congr 1; omega) | (simp_all; done) | (simp_all; omega)
def vfill (place : Nat → Option (Nat × Nat)) (cells : List V) : List (Nat × V) → Option (List V)
  | [] => some cells
  | (i, v) :: rest => match place i with
    | none => none
    | some (off, size) => if v.var && Nat.beq v.cells.length size && Nat.ble (off + size) cells.length then vfill place (cells.take off ++ v.cells ++ cells.drop (off + size)) rest else none
theorem fill_ok {β : Bt} {place : Nat → Option (Nat × Nat)} : ∀ {ps : List (Nat × V)} {cells cells' : List V} {xs : Array Value} {qs : List (Nat × Value)}, vfill place cells ps = some cells' → F2 (R1 β) cells xs.toList →
    qs.map (·.1) = ps.map (·.1) → F2 (R β) (ps.map (·.2)) (qs.map (·.2)) → ∃ xs', Instr.fill place xs qs = some xs' ∧ F2 (R1 β) cells' xs'.toList
  | [], cells, cells', xs, qs, h, hf, hq, _ => by
    cases h
    cases qs with
    | nil => exact ⟨xs, rfl, hf⟩
    | cons q qs => simp at hq
  | (i, v) :: ps, cells, cells', xs, qs, h, hf, hq, hv => by
    cases qs with
    | nil => simp at hq
    | cons q qs =>
      obtain ⟨j, x⟩ := q
      simp only [List.map_cons, List.cons.injEq] at hq
      obtain ⟨rfl, hq⟩ := hq
      unfold vfill at h
      split at h
      · cases h
      · rename_i off size hp
        split at h
        · rename_i hc
          simp only [Bool.and_eq_true] at hc
          have hvar := hc.1.1
          have hlen : v.cells.length = size := Nat.eq_of_beq_eq_true hc.1.2
          have hfit : off + size ≤ cells.length := Nat.le_of_ble_eq_true hc.2
          have hx := (hv.1.var hvar).cells
          have hxl : x.cells.size = size := by rw [← hlen, hx.length]; simp
          have hcl : cells.length = xs.size := by rw [hf.length]; simp
          have hset := foldl_sets off x.cells.toList 0 xs (by simp; omega)
          simp only [Nat.add_zero] at hset
          have hset' : (x.cells.zipIdx.foldl (fun cs (c, j) => cs.setIfInBounds (off + j) c) xs).toList = xs.toList.take off ++ x.cells.toList ++ xs.toList.drop (off + x.cells.toList.length) := by
            rw [← hset, ← Array.foldl_toList, Array.toList_zipIdx]
          have hf' : F2 (R1 β) (cells.take off ++ v.cells ++ cells.drop (off + size)) (x.cells.zipIdx.foldl (fun cs (c, j) => cs.setIfInBounds (off + j) c) xs).toList := by
            rw [hset']
            have := ((hf.take off).app hx).app (hf.drop (off + size))
            rwa [show size = x.cells.toList.length from by simpa using hxl.symm] at this ⊢
          obtain ⟨xs', h1, h2⟩ := fill_ok h hf' hq hv.2
          refine ⟨xs', ?_, h2⟩
          unfold Instr.fill
          rw [hp]
          simp only [hxl]
          rw [if_neg (by simp; omega)]
          exact h1
        · cases h
/-- places of a struct's fields. -/
def placesF (P : Program) (fs : List Field) : Option (List (Nat × Nat)) := fs.mapM fun f => (sz P f.type).map fun k => (f.offset, k)
def buildV (P : Program) (t : TypeId) (ps : List (Nat × V)) : Option (List V) :=
  match zro P t, P.underlying t with
  | some cs, some (.struct fs) => match placesF P fs.toList with
    | some pl => vfill (fun i => pl[i]?) cs ps
    | none => none
  | some cs, some (.array _ e) => match sz P e with
    | some k => vfill (fun i => some (i * k, k)) cs ps
    | none => none
  | _, _ => none
theorem run_places {P : Program} (w : World) : ∀ (fs : List Field) (pl : List (Nat × Nat)), placesF P fs = some pl → (fs.mapM fun f => (do pure (f.offset, ← sizeOf f.type) : Sem (Nat × Nat))).run P w = .ok pl w
  | [], pl, h => by simp [placesF] at h; subst h; rfl
  | f :: fs, pl, h => by
    unfold placesF at h
    rw [List.mapM_cons] at h
    cases hk : sz P f.type with
    | none => rw [hk] at h; cases h
    | some k =>
      rw [hk] at h
      cases hr : placesF P fs with
      | none => unfold placesF at hr; rw [hr] at h; cases h
      | some pl' =>
        have hr' := hr
        unfold placesF at hr'
        rw [hr'] at h
        have h' : (f.offset, k) :: pl' = pl := by simpa using h
        subst h'
        have := run_places (P := P) w fs pl' hr
        rw [List.mapM_cons]
        simp only [Sem.run_bind, run_sz hk, Result.andThen_ok, Sem.run_pure, this]
theorem parts_rel {β : Bt} {fr : Fm} {a : Act} {parts : Array (Nat × Operand)} (ho : ∀ x ∈ (parts.toList.map (·.2)).toArray, R β (opd fr x) (a.eval x)) :
    ((parts.map fun (i, x) => (i, a.eval x)).toList.map (·.1)) = ((parts.toList.map fun p => (p.1, opd fr p.2)).map (·.1)) ∧ F2 (R β) ((parts.toList.map fun p => (p.1, opd fr p.2)).map (·.2)) ((parts.map fun (i, x) => (i, a.eval x)).toList.map (·.2)) := by
  refine ⟨by simp [Function.comp_def], ?_⟩
  simp only [Array.toList_map, List.map_map]
  exact F2.map _ _ _ fun p hp => ho p.2 (by simp; exact ⟨p.1, by simpa using hp⟩)

section
variable {P : Program} {ρ : Env} {o : Oper} {fr : Fm} {n : Nat} {σ : Sto}

theorem POp.build {t : TypeId} {parts : Array (Nat × Operand)} {cs : List V} (h : o.op = .build t parts) (hb : buildV P t (parts.toList.map fun p => (p.1, opd fr p.2)) = some cs) : POp P ρ o fr (.agg cs) :=
  fun β a w _ ho => by
    obtain ⟨k1, k2⟩ := parts_rel (β := β) (fr := fr) (a := a) (parts := parts) (fun x hx => ho x (by rw [h]; exact hx))
    unfold buildV at hb
    split at hb
    · rename_i cs0 fs hz hu
      obtain ⟨z, hzr, rfl, hall⟩ := run_zro (P := P) hz
      split at hb
      · rename_i pl hpl
        obtain ⟨xs', h1, h2⟩ := fill_ok (xs := z.cells) hb (F2.ofCs β _ hall) k1 k2
        refine ⟨.agg xs', ?_, xs', rfl, h2⟩
        have hm : (fs.mapM fun f => (do pure (f.offset, ← sizeOf f.type) : Sem (Nat × Nat))).run P w = .ok pl.toArray w := by
          rw [Array.mapM_eq_mapM_toList, Sem.run_map, run_places (P := P) w fs.toList pl hpl]; rfl
        have hpl' : (fun (i : Nat) => pl.toArray[i]?) = fun (i : Nat) => pl[i]? := by funext i; simp
        unfold execOp
        rw [h]
        simp only [Instr.build, Sem.run_bind, hzr, Result.andThen_ok, run_underlying hu, hm, hpl', h1, Sem.run_pure]
      · cases hb
    · rename_i cs0 m e hz hu
      obtain ⟨z, hzr, rfl, hall⟩ := run_zro (P := P) hz
      split at hb
      · rename_i k hk
        obtain ⟨xs', h1, h2⟩ := fill_ok (xs := z.cells) hb (F2.ofCs β _ hall) k1 k2
        refine ⟨.agg xs', ?_, xs', rfl, h2⟩
        unfold execOp
        rw [h]
        simp only [Instr.build, Sem.run_bind, hzr, Result.andThen_ok, run_underlying hu, run_sz hk, h1, Sem.run_pure]
      · cases hb
    · cases hb

/-! ### a slice that is built -/
/-- a row of values: of numbers, where they all are of one kind. -/
def mkRow (cs : List V) : Row := match cs with
  | .int k _ :: _ => if allKind k cs then match intsAll cs with
      | some es => .ints k (colL es)
      | none => .any cs
    else .any cs
  | _ => .any cs
theorem mkRow_ok {β : Bt} {cs : List V} {xs : List Value} (h : F2 (R1 β) cs xs) : RH β (mkRow cs) xs := by
  unfold mkRow
  split
  · split
    · rename_i hk
      split
      · rename_i es he
        obtain ⟨h1, h2⟩ := ints_F2 h hk he
        simp only [RH, Fr, colL_den, h1, List.map_map]
        rfl
      · exact h
    · exact h
  · exact h
def buildS (P : Program) (t : TypeId) (len : Nat) (ps : List (Nat × V)) : Option (TypeId × Nat × List V) :=
  match P.underlying t with
  | some (.slice e) => match sz P e, zro P e with
    | some k, some zc => if Nat.beq zc.length k && Nat.blt 0 k && Nat.ble (len * k) 16777216 then
        match vfill (fun i => some (i * k, k)) ((List.range (len * k)).map fun i => zc.getD (i % k) .und) ps with
        | some cs => some (e, k, cs)
        | none => none
      else none
    | _, _ => none
  | _ => none
theorem vfill_len : ∀ {ps : List (Nat × V)} {place : Nat → Option (Nat × Nat)} {cells cells' : List V}, vfill place cells ps = some cells' → cells'.length = cells.length
  | [], _, _, _, h => by cases h; rfl
  | (i, v) :: ps, place, cells, cells', h => by
    unfold vfill at h
    split at h
    · cases h
    · split at h
      · rename_i off size hp hc
        simp only [Bool.and_eq_true] at hc
        have h1 : v.cells.length = size := Nat.eq_of_beq_eq_true hc.1.2
        have h2 : off + size ≤ cells.length := Nat.le_of_ble_eq_true hc.2
        rw [vfill_len h]; simp; omega
      · cases h
theorem madeRow (β : Bt) {z : Value} {k len : Nat} (hall : z.cells.toList.all (·.oneCell') = true) (hzs : z.cells.size = k) (hpos : 0 < k) (zero : Array Value) (hzero : len * k = 0 ∨ zero = z.cells) :
    F2 (R1 β) ((List.range (len * k)).map fun i => (z.cells.toList.map ofC1).getD (i % k) .und) ((Array.range (len * k)).map (zero[· % zero.size]!)).toList := by
  rw [Array.toList_map, Array.toList_range]
  refine F2.map _ _ _ fun i hi => ?_
  have hi' : i < len * k := by simpa using hi
  have hzero : zero = z.cells := by rcases hzero with h | h; omega; exact h
  have hm : i % k < k := Nat.mod_lt _ hpos
  rw [hzero, hzs]
  have e1 : z.cells[i % k]! = z.cells[i % k]'(by omega) := by rw [getElem!_pos]
  have e2 : (z.cells.toList.map ofC1).getD (i % k) .und = ofC1 (z.cells[i % k]'(by omega)) := by simp [List.getD, hzs, hm]
  rw [e1, e2]
  rw [List.all_eq_true] at hall
  exact (F1.up (F1_ofC1 β.g (hall _ (by simp)))).up
theorem TOp.buildSlice {t : TypeId} {len : Nat} {parts : Array (Nat × Operand)} {e k : Nat} {cs : List V} (h : o.op = .buildSlice t len parts) (hb : buildS P t len (parts.toList.map fun p => (p.1, opd fr p.2)) = some (e, k, cs)) :
    TOp P ρ o fr n σ (.sl n 0 (.lit 0) (.lit (.ofNat len)) k true) (n + 1) (σ.put n ⟨mkRow cs, true, e⟩) := by
  intro β a w K Q hS ho hk
  obtain ⟨k1, k2⟩ := parts_rel (β := β) (fr := fr) (a := a) (parts := parts) (fun x hx => ho x (by rw [h]; exact hx))
  unfold buildS at hb
  split at hb
  · rename_i e' hu
    split at hb
    · rename_i k' zc hkk hz
      split at hb
      · rename_i hc
        simp only [Bool.and_eq_true] at hc
        have hzl : zc.length = k' := Nat.eq_of_beq_eq_true hc.1.1
        have hpos : 0 < k' := Nat.le_of_ble_eq_true hc.1.2
        have hsmall : len * k' ≤ 16777216 := Nat.le_of_ble_eq_true hc.2
        split at hb
        · rename_i cs' hf
          cases hb
          obtain ⟨z, hzr, rfl, hall⟩ := run_zro (P := P) hz
          have hzs : z.cells.size = k := by simpa using hzl
          let zero : Array Value := if len * k = 0 then #[] else z.cells
          have hzero : len * k = 0 ∨ zero = z.cells := by
            by_cases h0 : len * k = 0
            · exact .inl h0
            · exact .inr (by simp only [zero, if_neg h0])
          have hrow := madeRow β hall hzs hpos zero hzero
          obtain ⟨xs', h1, h2⟩ := fill_ok hf hrow k1 k2
          have hlen : cs.length = len * k := by rw [vfill_len hf]; simp
          have hxl : xs'.size = len * k := by rw [← hlen, h2.length]; simp
          obtain ⟨β', _, hn, hS', hst⟩ := new_row hS e (mkRow cs) xs' (mkRow_ok h2) { w with heap := w.heap.push (.cells xs' e) } rfl rfl rfl rfl
          have hml : len ≤ maxLen := by
            unfold maxLen
            have : len * 1 ≤ len * k := Nat.mul_le_mul_left _ hpos
            omega
          refine wp_val (x := .slice (some ⟨w.heap.size, 0, none⟩) len len) (w' := { w with heap := w.heap.push (.cells xs' e) }) ?_ (hk _ β' _ ?_ hS' hst)
          · unfold execOp
            rw [h]
            have hb' : ¬ (len * k > 2 ^ 24) := by omega
            by_cases h0 : len * k = 0
            · have hzz : zero = #[] := by simp only [zero, if_pos h0]
              rw [hzz] at h1
              simp only [Instr.buildSlice, Sem.run_bind, run_underlying hu, Result.andThen_ok, run_sz hkk, if_neg hb', if_pos h0, h1, newRow, run_newObj, Sem.run_pure]
            · have hzz : zero = z.cells := by simp only [zero, if_neg h0]
              rw [hzz] at h1
              simp only [Instr.buildSlice, Sem.run_bind, run_underlying hu, Result.andThen_ok, run_sz hkk, if_neg hb', if_neg h0, hzr, h1, newRow, run_newObj, Sem.run_pure]
          · exact ⟨_, hn, Int.natCast_nonneg len, .inl ⟨_, 0, len, rfl, rfl, .inl (by simp [E.den]), Nat.le_refl _, fun _ => ⟨rfl, rfl, hxl.symm, hml⟩⟩⟩
        · cases hb
      · cases hb
    · cases hb
  · cases hb

/-! ### functions as values -/
def V.cell0 : V → Bool
  | .und | .agg _ | .tup _ | .fn .. => false
  | _ => true
theorem R.cell0 {β : Bt} {v : V} {x : Value} (hv : v.cell0 = true) (hR : R β v x) : R0 β v x := by
  cases v <;> first | (cases hv; done) | exact hR
theorem POp.makeFunc {f : Fn} {first cap : Array Operand} (h : o.op = .makeFunc f first cap) (h1 : (first.toList.map (opd fr)).all V.cell0 = true) (h2 : (cap.toList.map (opd fr)).all V.cell0 = true) : POp P ρ o fr (.fn f (first.toList.map (opd fr)) (cap.toList.map (opd fr))) := fun β a w _ ho => by
  rw [List.all_eq_true] at h1 h2
  refine ⟨.func f (first.map a.eval) (cap.map a.eval), by unfold execOp; rw [h]; rfl, _, _, rfl, ?_, ?_⟩
  · rw [Array.toList_map]
    exact F2.map _ _ _ fun x hx => R.cell0 (h1 _ (List.mem_map.2 ⟨x, hx, rfl⟩)) (ho x (by rw [h]; exact Array.mem_append.2 (.inl (by simpa using hx))))
  · rw [Array.toList_map]
    exact F2.map _ _ _ fun x hx => R.cell0 (h2 _ (List.mem_map.2 ⟨x, hx, rfl⟩)) (ho x (by rw [h]; exact Array.mem_append.2 (.inr (by simpa using hx))))

/-! ### how long -/
def lenV : V → Option E
  | .sl _ _ _ len _ _ => some len
  | .fs z r => r.lenE z
  | .sc (.slice none 0 0) => some (.lit 0)
  | _ => none
theorem R_fs {β : Bt} {z : Nat} {r : Row} {x : Value} (h : R β (.fs z r) x) : F1 (.fs z r) β.g x := h
theorem lenV_ok {β : Bt} {v : V} {x : Value} {e : E} (h : lenV v = some e) (hR : R β v x) : ∃ a m c, x = .slice a m c ∧ e.den β.g.env = m := by
  unfold lenV at h
  split at h
  · rename_i id co off len z top
    cases h
    obtain ⟨q, hq, h0, hc⟩ := (show R0 β (.sl id co off e z top) x from hR)
    rcases hc with ⟨p, d, c, _, rfl, _⟩ | ⟨_, _, _, h5, a, rfl, _⟩
    · exact ⟨_, _, _, rfl, by omega⟩
    · exact ⟨_, _, _, rfl, by omega⟩
  · rename_i z r
    have h1 := R_fs hR
    simp only [F1] at h1
    obtain ⟨xs, m, c, a, rfl, h2, h3, h4, h5⟩ := h1
    obtain ⟨hz0, hn0, hlen⟩ := Row.lenE_ok (RH.ofFr h4) h
    have hm : m = (e.den β.g.env).toNat := Nat.eq_of_mul_eq_mul_right hz0 (h2.trans hlen)
    exact ⟨_, _, _, rfl, by omega⟩
  · cases h
    exact ⟨none, 0, 0, R_sc hR, rfl⟩
  · cases h
theorem POp.lenSl {x : Operand} {t e' : TypeId} {e : E} (h : o.op = .call { callee := .builtin .len, args := #[x], argTypes := #[t] }) (hu : P.underlying t = some (.slice e')) (hx : lenV (opd fr x) = some e) :
    POp P ρ o fr (.int .i64 e) := fun β a w _ ho => by
  have g1 := ho x (by rw [h]; simp [Op.operands, Call.operands])
  obtain ⟨ad, m, c, e1, he⟩ := lenV_ok hx g1
  refine ⟨.int .i64 m, ?_, R.mkInt β .i64 he⟩
  unfold execOp
  rw [h]
  simp [resolve, invoke, builtin, Builtin.len_, run_underlying hu, e1, goInt]
theorem strOf_size (l : List Int) : (strOf l).size = l.length := by simp [strOf, ByteArray.size]
theorem POp.lenStr {x : Operand} {t : TypeId} {l : L} (h : o.op = .call { callee := .builtin .len, args := #[x], argTypes := #[t] }) (hu : P.underlying t = some .string) (hx : opd fr x = .str l) :
    POp P ρ o fr (.int .i64 (mkLen l)) := fun β a w _ ho => by
  have g1 := ho x (by rw [h]; simp [Op.operands, Call.operands])
  rw [hx] at g1
  refine ⟨.int .i64 ((l.den β.g.env).length : Nat), ?_, R.mkInt β .i64 (mkLen_den _ _)⟩
  unfold execOp
  rw [h]
  simp [resolve, invoke, builtin, Builtin.len_, run_underlying hu, R_str g1, goInt, strOf_size]
theorem POp.capNil {x : Operand} {t e' : TypeId} (h : o.op = .call { callee := .builtin .cap, args := #[x], argTypes := #[t] }) (hu : P.underlying t = some (.slice e')) (hx : opd fr x = .sc (.slice none 0 0)) :
    POp P ρ o fr (.int .i64 (.lit 0)) := fun β a w _ ho => by
  have g1 := ho x (by rw [h]; simp [Op.operands, Call.operands])
  rw [hx] at g1
  refine ⟨.int .i64 0, ?_, R.mkInt β .i64 rfl⟩
  unfold execOp
  rw [h]
  simp [resolve, invoke, builtin, Builtin.cap_, run_underlying hu, R_sc g1, goInt]
def mkIte : B → E → E → E
  | .lit true, x, _ => x
  | .lit false, _, y => y
  | b, x, y => if x.same y then x else .ite b x y
theorem mkIte_den (ρ : Env) (b : B) (x y : E) : (mkIte b x y).den ρ = bif b.den ρ then x.den ρ else y.den ρ := by
  unfold mkIte
  split
  · rfl
  · rfl
  · split
    · rename_i h; rw [E.same_ok h]; cases b.den ρ <;> rfl
    · rfl
theorem POp.minmax {mx : Bool} {x y : Operand} {ts : Array TypeId} {k : IntKind} {a b : E} (h : o.op = .call { callee := .builtin (if mx then .max else .min), args := #[x, y], argTypes := ts }) (hx : opd fr x = .int k a) (hy : opd fr y = .int k b) :
    POp P ρ o fr (.int k (if mx then mkIte (mkLt a b) b a else mkIte (mkLt b a) b a)) := fun β ac w _ ho => by
  have g1 := ho x (by rw [h]; cases mx <;> simp [Op.operands, Call.operands])
  have g2 := ho y (by rw [h]; cases mx <;> simp [Op.operands, Call.operands])
  rw [hx] at g1; rw [hy] at g2
  cases mx with
  | true =>
    refine ⟨.int k (if b.den β.g.env > a.den β.g.env then b.den β.g.env else a.den β.g.env), ?_, R.mkInt β k ?_⟩
    · unfold execOp
      rw [h]
      simp [resolve, invoke, builtin, Builtin.max_, R_int g1, R_int g2, Builtin.max2]
    · simp only [if_true, mkIte_den, mkLt_den, ltb_eq]
      by_cases hc : a.den β.g.env < b.den β.g.env <;> simp [hc]
  | false =>
    refine ⟨.int k (if b.den β.g.env < a.den β.g.env then b.den β.g.env else a.den β.g.env), ?_, R.mkInt β k ?_⟩
    · unfold execOp
      rw [h]
      simp [resolve, invoke, builtin, Builtin.min_, R_int g1, R_int g2, Builtin.min2]
    · simp only [Bool.false_eq_true, if_false, mkIte_den, mkLt_den, ltb_eq]
      by_cases hc : b.den β.g.env < a.den β.g.env <;> simp [hc]
end
end Go.Proofs.YtmckhoaekbeijaaGreat.E
/- Slices are cut; what they hold. Plain Lean over the kit's model; no program. -/
namespace Go.Proofs.YtmckhoaekbeijaaGreat.E
open Go Go.RowKit
set_option linter.unusedVariables false

/-! ### parts of rows -/
def takeC : L → Nat → Option L
  | _, 0 => some .nil
  | .cons e l, n + 1 => match takeC l n with
    | some r => some (.cons e r)
    | none => none
  | _, _ => none
def dropC : L → Nat → Option L
  | l, 0 => some l
  | .cons _ l, n + 1 => dropC l n
  | _, _ => none
theorem takeC_ok (ρ : Env) : ∀ {l : L} {n : Nat} {r : L}, takeC l n = some r → r.den ρ = (l.den ρ).take n
  | l, 0, r, h => by unfold takeC at h; cases h; simp [L.den]
  | .cons e l, n + 1, r, h => by
    unfold takeC at h
    split at h
    · rename_i r' hr; cases h; simp [L.den, takeC_ok ρ hr]
    · cases h
  | .nil, n + 1, r, h | .var _, n + 1, r, h | .at .., n + 1, r, h | .cat .., n + 1, r, h | .cut .., n + 1, r, h | .sub .., n + 1, r, h | .set .., n + 1, r, h | .rep .., n + 1, r, h | .byt .., n + 1, r, h | .app .., n + 1, r, h | .ite .., n + 1, r, h => by unfold takeC at h; cases h
theorem dropC_ok (ρ : Env) : ∀ {l : L} {n : Nat} {r : L}, dropC l n = some r → r.den ρ = (l.den ρ).drop n
  | l, 0, r, h => by unfold dropC at h; cases h; simp
  | .cons e l, n + 1, r, h => by unfold dropC at h; simp [L.den, dropC_ok ρ h]
  | .nil, n + 1, r, h | .var _, n + 1, r, h | .at .., n + 1, r, h | .cat .., n + 1, r, h | .cut .., n + 1, r, h | .sub .., n + 1, r, h | .set .., n + 1, r, h | .rep .., n + 1, r, h | .byt .., n + 1, r, h | .app .., n + 1, r, h | .ite .., n + 1, r, h => by unfold dropC at h; cases h
def mkCut (l : L) (lo hi : E) : L := bif lo.same (.lit 0) && hi.same (mkLen l) then l else match lo, hi, l with
  | .lit (.ofNat a), .lit (.ofNat b), .sub l' o n => if Nat.ble b n && Nat.ble a b then .sub l' (o + a) (b - a) else .cut l lo hi
  | .lit (.ofNat a), .lit (.ofNat b), l => match takeC l b with
    | some r => match dropC r a with
      | some r' => r'
      | none => .cut l lo hi
    | none => .cut l lo hi
  | lo, hi, l => .cut l lo hi
theorem mkCut_den (ρ : Env) (l : L) (lo hi : E) : (mkCut l lo hi).den ρ = ((l.den ρ).take (hi.den ρ).toNat).drop (lo.den ρ).toNat := by
  unfold mkCut
  cases hw : lo.same (.lit 0) && hi.same (mkLen l) with
  | true =>
    simp only [Bool.and_eq_true] at hw
    rw [cond_true, E.same_ok hw.1, E.same_ok hw.2, mkLen_den]
    simp [E.den]
  | false =>
  rw [cond_false]
  split
  · rename_i a b l' o n
    split
    · rename_i h
      simp only [Bool.and_eq_true] at h
      have h1 : b ≤ n := Nat.le_of_ble_eq_true h.1
      have h2 : a ≤ b := Nat.le_of_ble_eq_true h.2
      simp only [L.den, E.den, Int.ofNat_eq_natCast, Int.toNat_natCast, subL]
      apply List.ext_getElem?
      intro i
      simp only [List.getElem?_map, List.getElem?_drop, List.getElem?_take]
      by_cases hi : i < b - a
      · rw [List.getElem?_range hi, if_pos (by omega), List.getElem?_range (by omega)]
        simp [Nat.add_assoc]
      · rw [List.getElem?_eq_none (by simpa using hi)]
        by_cases h3 : a + i < b
        · omega
        · rw [if_neg h3]; rfl
    · rfl
  · split
    · rename_i r hr
      split
      · rename_i r' hr'
        rw [dropC_ok ρ hr', takeC_ok ρ hr]; rfl
      · rfl
    · rfl
  · rfl

/-- so many from there on. -/
def subN (l : L) (o n : Nat) : L := match l with
  | .sub l' a m => if Nat.ble (o + n) m then .sub l' (a + o) n else .sub (.sub l' a m) o n
  | .cut l' (.lit (.ofNat c)) hi => if hi.same (mkLen l') then .sub l' (c + o) n else .sub (.cut l' (.lit (.ofNat c)) hi) o n
  | l => match lenLit l with
    | some m => if Nat.beq o 0 && Nat.beq m n then l else .sub l o n
    | none => .sub l o n
theorem subL_all {l : List Int} {n : Nat} (h : l.length = n) : subL l 0 n = l := by
  unfold subL
  apply List.ext_getElem?
  intro i
  by_cases hi : i < n
  · simp [hi, List.getD, show i < l.length by omega]
  · simp [hi, show l.length ≤ i by omega]
theorem subN_den (ρ : Env) (l : L) (o n : Nat) : (subN l o n).den ρ = subL (l.den ρ) o n := by
  unfold subN
  split
  · rename_i l' a m
    split
    · rename_i h
      have h := Nat.le_of_ble_eq_true h
      simp only [L.den, subL]
      refine List.map_congr_left fun i hi => ?_
      have hi : i < n := by simpa using hi
      simp only [List.getD, List.getElem?_map, List.getElem?_range (by omega : o + i < m), Option.map_some, Option.getD_some, Nat.add_assoc]
    · rfl
  · rename_i l' c hi
    split
    · rename_i h
      simp only [L.den, E.den, subL]
      have e : (hi.den ρ).toNat = (l'.den ρ).length := by rw [E.same_ok h, mkLen_den]; simp
      rw [e, List.take_length]
      refine List.map_congr_left fun i _ => ?_
      simp [List.getD, List.getElem?_drop, Nat.add_assoc]
    · rfl
  · split
    · rename_i m hm
      split
      · rename_i h
        simp only [Bool.and_eq_true] at h
        have h1 := Nat.eq_of_beq_eq_true h.1
        have h2 := Nat.eq_of_beq_eq_true h.2
        subst h1
        exact (subL_all (by rw [lenLit_ok ρ hm, h2])).symm
      · rfl
    · rfl
/-- a part, its bounds being good. -/
def cutW (l : L) (lo hi : E) : L := match mkCut l lo hi with
  | .cut l2 (.lit (.ofNat a)) hi2 => match hi2 with
    | .lit (.ofNat b) => if Nat.ble a b && l2.same l && lo.same (.lit (.ofNat a)) && hi.same (.lit (.ofNat b)) then subN l a (b - a) else .cut l2 (.lit (.ofNat a)) hi2
    | hi2 => match l2 with
      | .cut l3 (.lit (.ofNat c)) hi3 => if hi3.same (mkLen l3) && hi2.same (mkLen (.cut l3 (.lit (.ofNat c)) hi3)) then .cut l3 (.lit (.ofNat (c + a))) hi3 else .cut l2 (.lit (.ofNat a)) hi2
      | l2 => .cut l2 (.lit (.ofNat a)) hi2
  | r => r
theorem cutW_den (ρ : Env) (l : L) (lo hi : E) (h : hi.den ρ ≤ ((l.den ρ).length : Nat)) : (cutW l lo hi).den ρ = ((l.den ρ).take (hi.den ρ).toNat).drop (lo.den ρ).toNat := by
  rw [← mkCut_den]
  unfold cutW
  split
  · rename_i l2 a hi2 hm
    split
    · rename_i b
      split
      · rename_i hc
        simp only [Bool.and_eq_true] at hc
        obtain ⟨⟨⟨h1, h2⟩, h3⟩, h4⟩ := hc
        have h1 := Nat.le_of_ble_eq_true h1
        have e2 := L.same_ok h2
        subst e2
        rw [subN_den, hm]
        have hb : b ≤ (l2.den ρ).length := by
          rw [E.same_ok h4] at h
          simp only [E.den, Int.ofNat_eq_natCast] at h; omega
        simp only [L.den, E.den, Int.ofNat_eq_natCast, Int.toNat_natCast, subL]
        apply List.ext_getElem?
        intro i
        simp only [List.getElem?_map, List.getElem?_drop, List.getElem?_take]
        by_cases hi : i < b - a
        · rw [List.getElem?_range hi, if_pos (by omega)]
          simp [List.getD, show a + i < (l2.den ρ).length by omega]
        · rw [List.getElem?_eq_none (by simp; omega), if_neg (by omega)]; rfl
      · rw [hm]
    · split
      · rename_i _ l3 c hi3
        split
        · rename_i hc
          simp only [Bool.and_eq_true] at hc
          rw [hm]
          have e3 : (hi3.den ρ).toNat = (l3.den ρ).length := by rw [E.same_ok hc.1, mkLen_den]; simp
          have e2 : (hi2.den ρ).toNat = (((l3.den ρ).take (hi3.den ρ).toNat).drop c).length := by
            rw [E.same_ok hc.2, mkLen_den]; simp [L.den, E.den]
          simp only [L.den, E.den, Int.ofNat_eq_natCast, Int.toNat_natCast]
          rw [e2, List.take_length, e3, List.take_length, List.drop_drop]
        · rw [hm]
      · rw [hm]
  · rfl
/-- from an element on up to another one; what must hold. -/
def Row.cut (r : Row) (z : Nat) (lo hi : E) : Option (Row × List B) := match r with
  | .any cs => match lo, hi with
    | .lit (.ofNat a), .lit (.ofNat b) => if Nat.ble a b && Nat.ble (b * z) cs.length then some (.any ((cs.take (b * z)).drop (a * z)), []) else none
    | _, _ => none
  | .ints k l => if Nat.beq z 1 then
      if lo.same (.lit 0) && hi.same (mkLen l) then some (.ints k l, [])
      else some (.ints k (cutW l lo hi), [mkNot (mkLt lo (.lit 0)), mkNot (mkLt hi lo), mkNot (mkLt (mkLen l) hi)])
    else match lo, hi, lenLit l with
      | .lit (.ofNat a), .lit (.ofNat b), some m => if Nat.ble a b && Nat.ble (b * z) m then some (.any ((List.range ((b - a) * z)).map fun i => .int k (getN l (a * z + i))), []) else none
      | _, _, _ => none
  | .recs z' n t => if Nat.beq z z' && lo.same (.lit 0) then (if hi.same n then some (.recs z n t, []) else some (.recs z hi t, [mkNot (mkLt hi (.lit 0)), mkNot (mkLt n hi)])) else none
theorem nlt_den {ρ : Env} {a b : E} (h : (mkNot (mkLt a b)).den ρ = true) : b.den ρ ≤ a.den ρ := by
  rw [mkNot_den, mkLt_den, ltb_eq] at h
  simpa using h
theorem cut_all {α : Type} (xs : List α) (n : Nat) (h : xs.length = n) : (xs.take n).drop 0 = xs := by simp [← h]
theorem Row.cut_num {ρ : Env} {γ : Gm} {r r' : Row} {xs : List Value} {z : Nat} {lo hi : E} {bs : List B} (hρ : γ.env = ρ) (h : Fr r γ xs) (hn : ∀ cs, r ≠ .any cs) (hc : r.cut z lo hi = some (r', bs)) (hb : ∀ b ∈ bs, b.den ρ = true) :
    Fr r' γ ((xs.take ((hi.den ρ).toNat * z)).drop ((lo.den ρ).toNat * z)) ∧ 0 ≤ lo.den ρ ∧ lo.den ρ ≤ hi.den ρ ∧ (hi.den ρ).toNat * z ≤ xs.length := by
  subst hρ
  cases r with
  | any cs => exact (hn cs rfl).elim
  | ints k l =>
    have hx : xs = (l.den γ.env).map (.int k) := by simpa only [Fr] using h
    subst hx
    unfold Row.cut at hc
    simp only at hc
    split at hc
    · rename_i hz
      obtain rfl := Nat.eq_of_beq_eq_true hz
      split at hc
      · rename_i hs
        simp only [Bool.and_eq_true] at hs
        cases hc
        have e1 := E.same_ok hs.1
        have e2 := E.same_ok hs.2
        have e3 : lo.den γ.env = 0 := by rw [e1]; rfl
        have e4 : hi.den γ.env = ((l.den γ.env).length : Nat) := by rw [e2, mkLen_den]
        rw [e3, e4]
        refine ⟨?_, by omega, by omega, by simp⟩
        simp only [Fr]
        simp only [Int.toNat_natCast, Nat.mul_one, Int.toNat_zero, List.drop_zero]
        exact List.take_of_length_le (by simp)
      · cases hc
        have c1 := nlt_den (hb _ (by simp : mkNot (mkLt lo (.lit 0)) ∈ _))
        have c2 := nlt_den (hb _ (by simp : mkNot (mkLt hi lo) ∈ _))
        have c3 := nlt_den (hb _ (by simp : mkNot (mkLt (mkLen l) hi) ∈ _))
        rw [mkLen_den] at c3
        simp only [E.den] at c1
        refine ⟨?_, by omega, c2, by simp; omega⟩
        simp only [Fr, Nat.mul_one]
        rw [cutW_den _ _ _ _ c3, List.map_drop, List.map_take]
    · split at hc
      · rename_i a b m hm
        split at hc
        · rename_i hle
          simp only [Bool.and_eq_true] at hle
          cases hc
          have h1 := Nat.le_of_ble_eq_true hle.1
          have h2 := Nat.le_of_ble_eq_true hle.2
          have hlen := lenLit_ok γ.env hm
          simp only [E.den, Int.ofNat_eq_natCast, Int.toNat_natCast]
          refine ⟨?_, by omega, by omega, by simp; omega⟩
          simp only [Fr]
          rw [Fs_iff]
          have hsub : (b - a) * z = b * z - a * z := Nat.sub_mul _ _ _
          refine F2.of_get (by simp; omega) fun i v x hv hx => ?_
          have hi : i < (b - a) * z := by
            have := (List.getElem?_eq_some_iff.1 hv).1
            simpa using this
          simp only [List.getElem?_map, List.getElem?_range hi, Option.map_some, Option.some.injEq] at hv
          subst hv
          simp only [List.getElem?_drop, List.getElem?_take, List.getElem?_map] at hx
          rw [if_pos (by omega)] at hx
          simp only [F1, getN_den]
          have hlt : a * z + i < (l.den γ.env).length := by omega
          rw [List.getElem?_eq_getElem hlt] at hx
          simp only [Option.map_some, Option.some.injEq] at hx
          rw [← hx]
          simp [List.getD, List.getElem?_eq_getElem hlt]
        · cases hc
      · cases hc
  | recs z' n t =>
    have h' : 0 ≤ n.den γ.env ∧ xs.length = (n.den γ.env).toNat * z' ∧ ∀ i : Nat, i < (n.den γ.env).toNat → Fs t (γ.at i) ((xs.drop (i * z')).take z') := by simpa only [Fr] using h
    unfold Row.cut at hc
    simp only at hc
    split at hc
    · rename_i hs
      simp only [Bool.and_eq_true] at hs
      obtain rfl := Nat.eq_of_beq_eq_true hs.1
      have e3 : lo.den γ.env = 0 := by rw [E.same_ok hs.2]; rfl
      have hh : r' = .recs z hi t ∧ 0 ≤ hi.den γ.env ∧ hi.den γ.env ≤ n.den γ.env := by
        split at hc
        · rename_i hsn
          obtain rfl := E.same_ok hsn
          cases hc
          exact ⟨rfl, h'.1, Int.le_refl _⟩
        · cases hc
          have c1 := nlt_den (hb _ (by simp : mkNot (mkLt hi (.lit 0)) ∈ _))
          have c2 := nlt_den (hb _ (by simp : mkNot (mkLt n hi) ∈ _))
          simp only [E.den] at c1
          exact ⟨rfl, c1, c2⟩
      obtain ⟨rfl, c1, c2⟩ := hh
      have hle : (hi.den γ.env).toNat * z ≤ xs.length := by rw [h'.2.1]; exact Nat.mul_le_mul_right _ (by omega)
      rw [e3]
      refine ⟨?_, by omega, by omega, hle⟩
      simp only [Fr]
      refine ⟨c1, by simp; omega, fun i hi' => ?_⟩
      have := h'.2.2 i (by omega)
      have e : ((((xs.take ((hi.den γ.env).toNat * z)).drop ((0 : Int).toNat * z)).drop (i * z)).take z) = (xs.drop (i * z)).take z := by
        simp only [Int.toNat_zero, Nat.zero_mul, List.drop_zero]
        rw [List.drop_take, List.take_take]
        congr 1
        have h1 : i * z + z ≤ (hi.den γ.env).toNat * z := by rw [← Nat.succ_mul]; exact Nat.mul_le_mul_right _ hi'
        omega
      rw [e]; exact this
    · cases hc
theorem Row.cut_any {ρ : Env} {q : V → Value → Prop} {cs : List V} {r' : Row} {xs : List Value} {z : Nat} {lo hi : E} {bs : List B} (h : F2 q cs xs) (hc : (Row.any cs).cut z lo hi = some (r', bs)) :
    ∃ ds, r' = .any ds ∧ F2 q ds ((xs.take ((hi.den ρ).toNat * z)).drop ((lo.den ρ).toNat * z)) ∧ 0 ≤ lo.den ρ ∧ lo.den ρ ≤ hi.den ρ ∧ (hi.den ρ).toNat * z ≤ xs.length := by
  unfold Row.cut at hc
  simp only at hc
  split at hc
  · rename_i a b
    split at hc
    · rename_i hs
      simp only [Bool.and_eq_true] at hs
      cases hc
      have h1 : a ≤ b := Nat.le_of_ble_eq_true hs.1
      have h2 : b * z ≤ cs.length := Nat.le_of_ble_eq_true hs.2
      have hl := h.length
      simp only [E.den, Int.ofNat_eq_natCast, Int.toNat_natCast]
      exact ⟨_, rfl, (h.take _).drop _, by omega, by omega, by omega⟩
    · cases hc
  · cases hc
theorem Row.cut_fr {γ : Gm} {r r' : Row} {xs : List Value} {z : Nat} {lo hi : E} {bs : List B} (h : Fr r γ xs) (hc : r.cut z lo hi = some (r', bs)) (hb : ∀ b ∈ bs, b.den γ.env = true) :
    Fr r' γ ((xs.take ((hi.den γ.env).toNat * z)).drop ((lo.den γ.env).toNat * z)) ∧ 0 ≤ lo.den γ.env ∧ lo.den γ.env ≤ hi.den γ.env ∧ (hi.den γ.env).toNat * z ≤ xs.length := by
  cases r with
  | any cs =>
    simp only [Fr] at h
    obtain ⟨ds, rfl, h1, h2⟩ := Row.cut_any (ρ := γ.env) (Fs_iff.1 h) hc
    exact ⟨by simp only [Fr]; exact Fs_iff.2 h1, h2⟩
  | ints k l => exact Row.cut_num rfl h (fun _ e => by cases e) hc hb
  | recs z' n t => exact Row.cut_num rfl h (fun _ e => by cases e) hc hb
theorem Row.cut_rh {β : Bt} {r r' : Row} {xs : List Value} {z : Nat} {lo hi : E} {bs : List B} (h : RH β r xs) (hc : r.cut z lo hi = some (r', bs)) (hb : ∀ b ∈ bs, b.den β.g.env = true) :
    RH β r' ((xs.take ((hi.den β.g.env).toNat * z)).drop ((lo.den β.g.env).toNat * z)) ∧ 0 ≤ lo.den β.g.env ∧ lo.den β.g.env ≤ hi.den β.g.env ∧ (hi.den β.g.env).toNat * z ≤ xs.length := by
  cases r with
  | any cs =>
    obtain ⟨ds, rfl, h1, h2⟩ := Row.cut_any (ρ := β.g.env) (show F2 (R1 β) cs xs from h) hc
    exact ⟨h1, h2⟩
  | ints k l =>
    obtain ⟨h1, h2⟩ := Row.cut_num (ρ := β.g.env) rfl (show Fr (.ints k l) β.g xs from h) (fun _ e => by cases e) hc hb
    exact ⟨RH.ofFr h1, h2⟩
  | recs z' n t =>
    obtain ⟨h1, h2⟩ := Row.cut_num (ρ := β.g.env) rfl (show Fr (.recs z' n t) β.g xs from h) (fun _ e => by cases e) hc hb
    exact ⟨RH.ofFr h1, h2⟩

/-! ### cuts of slices -/
def boundE (fr : Fm) (d : E) : Option Operand → Option E
  | none => some d
  | some y => match opd fr y with
    | .int _ e => some e
    | _ => none
def subE : E → E → E × List B
  | hi, .lit (.ofNat 0) => (hi, [])
  | .lit (.ofNat b), .lit (.ofNat a) => if Nat.ble a b then (.lit (.ofNat (b - a)), []) else (.bin .sub .i64 (.lit (.ofNat b)) (.lit (.ofNat a)), [.lit false])
  | hi, lo => (.bin .sub .i64 hi lo, [mkLt hi (.lit 4611686018427387904)])
theorem subE_ok {ρ : Env} {hi lo e : E} {bs : List B} (h : subE hi lo = (e, bs)) (hb : ∀ b ∈ bs, b.den ρ = true) (h0 : 0 ≤ lo.den ρ) (h1 : lo.den ρ ≤ hi.den ρ) : e.den ρ = hi.den ρ - lo.den ρ := by
  have gen : ∀ {hi lo : E}, 0 ≤ lo.den ρ → lo.den ρ ≤ hi.den ρ → (mkLt hi (.lit 4611686018427387904)).den ρ = true → (E.bin .sub .i64 hi lo).den ρ = hi.den ρ - lo.den ρ := by
    intro hi lo h0 h1 h2
    rw [mkLt_den, ltb_eq] at h2
    have h2 : hi.den ρ < 4611686018427387904 := of_decide_eq_true h2
    simp only [E.den, binI, IntKind.wrap_i64]
    omega
  unfold subE at h
  split at h
  · cases h; simp [E.den]
  · split at h
    · rename_i hab; cases h
      have := Nat.le_of_ble_eq_true hab
      simp only [E.den, Int.ofNat_eq_natCast]
      omega
    · cases h
      have := hb _ (List.mem_singleton.2 rfl)
      cases this
  · cases h
    exact gen h0 h1 (hb _ (List.mem_singleton.2 rfl))
def offE : E → E → Option E
  | .lit (.ofNat 0), lo => some lo
  | off, .lit (.ofNat 0) => some off
  | .lit (.ofNat a), .lit (.ofNat b) => some (.lit (.ofNat (a + b)))
  | off, lo => some (.len (.cat (.rep off (.lit 0)) (.rep lo (.lit 0))))
theorem offE_ok {ρ : Env} {off lo e : E} (h : offE off lo = some e) : (e.den ρ).toNat = (off.den ρ).toNat + (lo.den ρ).toNat := by
  unfold offE at h
  split at h
  · cases h; simp [E.den]
  · cases h; simp [E.den]
  · cases h; simp [E.den]; omega
  · cases h
    show (((List.replicate (off.den ρ).toNat (0 : Int) ++ List.replicate (lo.den ρ).toNat (0 : Int)).length : Nat) : Int).toNat = _
    rw [List.length_append, List.length_replicate, List.length_replicate, Int.toNat_natCast]
/-- a slice, cut. -/
def cutV (z : Nat) (v : V) (lo hi : Option E) : Option (V × List B) := match lenV v with
  | none => none
  | some len =>
    let l := lo.getD (.lit 0)
    let h := hi.getD len
    match v with
    | .fs z' r => if Nat.beq z z' then match r.cut z l h with
        | some (r', bs) => some (.fs z r', bs)
        | none => none
      else none
    | .sl id co off len' z' top => if Nat.beq z z' then match offE off l with
        | some off' => match subE h l with
          | (n, bs) => some (.sl id co off' n z (top && l.same (.lit 0)), mkNot (mkLt l (.lit 0)) :: mkNot (mkLt h l) :: mkNot (mkLt len' h) :: bs)
        | none => none
      else none
    | .sc (.slice none 0 0) => if l.same (.lit 0) && h.same (.lit 0) then some (.sc (.slice none 0 0), []) else none
    | _ => none
section
variable {P : Program} {ρ : Env} {o : Oper} {fr : Fm} {n : Nat} {σ : Sto}
theorem run_bounds {β : Bt} {a : Act} {x : Operand} {t : TypeId} {lo hi : Option Operand} {m c : Nat} {l h len : E} (ho : ∀ y ∈ o.op.operands, R β (opd fr y) (a.eval y)) (hop : o.op = .slice t x lo hi none) (hlen : len.den β.g.env = m) (hmc : m ≤ c)
    (hl : boundE fr (.lit 0) lo = some l) (hh : boundE fr len hi = some h) (h0 : 0 ≤ l.den β.g.env) (h1 : l.den β.g.env ≤ h.den β.g.env) (h2 : h.den β.g.env ≤ c) (isS : Bool) (w : World) :
    (Instr.sliceBounds isS m c (lo.map a.eval) (hi.map a.eval) none).run P w = .ok ((l.den β.g.env).toNat, (h.den β.g.env).toNat, c) w := by
  have glo : ∀ y, lo = some y → ∃ k, a.eval y = .int k (l.den β.g.env) := fun y hy => by
    subst hy
    have := ho y (by rw [hop]; simp [Op.operands])
    simp only [boundE] at hl
    split at hl
    · rename_i k e he; cases hl; rw [he] at this; exact ⟨k, R_int this⟩
    · cases hl
  have ghi : ∀ y, hi = some y → ∃ k, a.eval y = .int k (h.den β.g.env) := fun y hy => by
    subst hy
    have := ho y (by rw [hop]; simp [Op.operands])
    simp only [boundE] at hh
    split at hh
    · rename_i k e he; cases hh; rw [he] at this; exact ⟨k, R_int this⟩
    · cases hh
  have e1 : (Instr.sliceBounds isS m c (lo.map a.eval) (hi.map a.eval) none).run P w = .ok ((l.den β.g.env).toNat, (h.den β.g.env).toNat, c) w := by
    cases hi with
    | none =>
      have hh' : h = len := by simp only [boundE] at hh; cases hh; rfl
      subst hh'
      cases lo with
      | none =>
        have hl' : l = .lit 0 := by simp only [boundE] at hl; cases hl; rfl
        subst hl'
        simp [Instr.sliceBounds, hlen, E.den]
      | some y =>
        obtain ⟨k, hk⟩ := glo y rfl
        rw [hlen] at h1
        simp [Instr.sliceBounds, Instr.sliceBound, asIntOf, hk, h0, h1, hlen]
    | some y =>
      obtain ⟨k, hk⟩ := ghi y rfl
      have h3 : 0 ≤ h.den β.g.env := by omega
      cases lo with
      | none =>
        have hl' : l = .lit 0 := by simp only [boundE] at hl; cases hl; rfl
        subst hl'
        simp [Instr.sliceBounds, Instr.sliceBound, asIntOf, hk, h3, h2, E.den]
      | some y' =>
        obtain ⟨k', hk'⟩ := glo y' rfl
        have h4 : l.den β.g.env ≤ ((h.den β.g.env).toNat : Nat) := by omega
        have h5 : 0 ≤ l.den β.g.env ∧ l.den β.g.env ≤ ((h.den β.g.env).toNat : Nat) := ⟨h0, h4⟩
        have h6 : 0 ≤ h.den β.g.env ∧ h.den β.g.env ≤ (c : Nat) := ⟨h3, h2⟩
        simp only [Instr.sliceBounds, Option.map_some, Instr.sliceBound, Sem.run_bind, hk, asIntOf, Sem.run_pure, Result.andThen_ok, hk', if_pos h6, if_pos h5]
  exact e1

theorem POp.cut {t e : TypeId} {x : Operand} {lo hi : Option Operand} {z : Nat} {len : E} {v : V} {lo' hi' : Option E} {bs : List B} (h : o.op = .slice t x lo hi none) (hu : P.underlying t = some (.slice e)) (hz : sz P e = some z)
    (hlen : lenV (opd fr x) = some len) (hlo : boundE fr (.lit 0) lo = some (lo'.getD (.lit 0))) (hhi : boundE fr len hi = some (hi'.getD len)) (hv : cutV z (opd fr x) lo' hi' = some (v, bs)) (hb : ∀ b ∈ bs, b.den ρ = true) : POp P ρ o fr v :=
  fun β a w hρ ho => by
    subst hρ
    have g1 := ho x (by rw [h]; simp [Op.operands])
    unfold cutV at hv
    rw [hlen] at hv
    simp only at hv
    generalize hl : lo'.getD (E.lit 0) = l at hv hlo
    generalize hh : hi'.getD len = hE at hv hhi
    have fin : ∀ {ad : Option Addr} {m c : Nat}, a.eval x = .slice ad m c → (Instr.sliceBounds true m c (lo.map a.eval) (hi.map a.eval) none).run P w = .ok ((l.den β.g.env).toNat, (hE.den β.g.env).toNat, c) w →
        (execOp a.eval o).run P w = .ok (.value (.slice (if c = (l.den β.g.env).toNat then ad else ad.map (·.add ((l.den β.g.env).toNat * z))) ((hE.den β.g.env).toNat - (l.den β.g.env).toNat) (c - (l.den β.g.env).toNat))) w := by
      intro ad m c e1 hbd
      unfold execOp; rw [h]
      simp only [Instr.sliceAt, Sem.run_bind, run_underlying hu, Result.andThen_ok, e1, Instr.slice, Option.map_none, hbd, run_sz hz, Sem.run_pure]
    split at hv
    · rename_i z' r hx
      split at hv
      · rename_i hzz
        obtain rfl := Nat.eq_of_beq_eq_true hzz
        split at hv
        · rename_i r' bs' hc
          cases hv
          rw [hx] at g1 hlen
          have h1 := R_fs g1
          simp only [F1] at h1
          obtain ⟨xs, m, c, ad, e1, h2, h3, h4, h5⟩ := h1
          obtain ⟨hz0, hn0, hlen'⟩ := Row.lenE_ok (RH.ofFr h4) (show r.lenE z = some len from hlen)
          have hm : m = (len.den β.g.env).toNat := Nat.eq_of_mul_eq_mul_right hz0 (h2.trans hlen')
          obtain ⟨k1, k2, k3, k4⟩ := Row.cut_fr h4 hc hb
          have hhm : hE.den β.g.env ≤ m := by
            have : (hE.den β.g.env).toNat ≤ m := Nat.le_of_mul_le_mul_right (by rw [h2]; exact k4) hz0
            omega
          have hbd := run_bounds (P := P) ho h (by omega : len.den β.g.env = m) h3 hlo hhi k2 k3 (by omega) true w
          refine ⟨_, fin e1 hbd, ?_⟩
          show F1 (.fs z r') β.g _
          simp only [F1]
          have hxl : ((xs.take ((hE.den β.g.env).toNat * z)).drop ((l.den β.g.env).toNat * z)).length = ((hE.den β.g.env).toNat - (l.den β.g.env).toNat) * z := by
            simp [Nat.sub_mul]; omega
          refine ⟨_, _, _, _, rfl, hxl.symm, by omega, k1, ?_⟩
          rcases h5 with ⟨hm0, rfl⟩ | ⟨b, d, rfl, h6⟩
          · left
            refine ⟨by omega, by omega⟩
          · right
            by_cases hcl : c = (l.den β.g.env).toNat
            · rw [if_pos hcl]
              exact ⟨b, d, rfl, .inl (by omega)⟩
            · rw [if_neg hcl]
              refine ⟨b, d + (l.den β.g.env).toNat * z, by simp [Addr.add_lit], ?_⟩
              rcases h6 with h6 | ⟨cs, h6, h7⟩
              · left; omega
              · right
                refine ⟨cs, h6, ?_⟩
                rw [hxl]
                rw [← h7, List.take_take, Nat.min_eq_left (by rw [← h2]; exact Nat.mul_le_mul_right _ (by omega)), List.drop_take, List.drop_drop, Nat.sub_mul]
        · cases hv
      · cases hv
    · rename_i id co off len' z' top hx
      split at hv
      · rename_i hzz
        obtain rfl := Nat.eq_of_beq_eq_true hzz
        split at hv
        · rename_i off' hoff
          generalize hsub : subE hE l = nb at hv
          obtain ⟨ne, bs'⟩ := nb
          simp only at hv
          cases hv
          rw [hx] at g1 hlen
          have hll : len' = len := by simp only [lenV] at hlen; cases hlen; rfl
          subst hll
          have c1 := nlt_den (hb _ (by simp : mkNot (mkLt l (.lit 0)) ∈ _))
          have c2 := nlt_den (hb _ (by simp : mkNot (mkLt hE l) ∈ _))
          have c3 := nlt_den (hb _ (by simp : mkNot (mkLt len' hE) ∈ _))
          simp only [E.den] at c1
          have hne := subE_ok hsub (fun b hm => hb b (by simp [hm])) c1 c2
          have ho' := offE_ok (ρ := β.g.env) hoff
          obtain ⟨q, hq, hl0, hcase⟩ := (show R0 β (.sl id co off len' z top) (a.eval x) from g1)
          rcases hcase with ⟨p, d, c, rfl, e1, hd, hlc, htop⟩ | ⟨rfl, hco, hof, hle, ad, e1⟩
          · have hbd := run_bounds (P := P) ho h (by omega : len'.den β.g.env = (len'.den β.g.env).toNat) hlc hlo hhi c1 c2 (by omega) true w
            refine ⟨_, fin e1 hbd, ?_⟩
            refine ⟨some p, hq, by omega, .inl ?_⟩
            by_cases hcl : c = (l.den β.g.env).toNat
            · rw [if_pos hcl]
              refine ⟨p, d, c - (l.den β.g.env).toNat, rfl, by rw [hne]; congr 1; omega, ?_, by omega, fun ht => ?_⟩
              · by_cases hl1 : (l.den β.g.env) = 0
                · rw [ho', hl1]
                  rcases hd with hd | ⟨hd, ht⟩
                  · left; simpa using hd
                  · right; exact ⟨by omega, by simp [ht]⟩
                · right
                  refine ⟨by omega, ?_⟩
                  cases hs : l.same (.lit 0) with
                  | false => simp
                  | true => exact (hl1 (by rw [E.same_ok hs]; rfl)).elim
              · simp only [Bool.and_eq_true] at ht
                have hl1 : l.den β.g.env = 0 := by rw [E.same_ok ht.2]; rfl
                obtain ⟨t1, t2, t3, t4⟩ := htop ht.1
                refine ⟨t1, by rw [ho', hl1]; simpa using t2, by rw [hl1]; simpa using t3, by omega⟩
            · rw [if_neg hcl]
              refine ⟨p, d + (l.den β.g.env).toNat * z, c - (l.den β.g.env).toNat, rfl, by simp [Addr.add_lit]; omega, ?_, by omega, fun ht => ?_⟩
              · rcases hd with hd | ⟨hd, ht⟩
                · left; rw [ho', hd, Nat.add_mul]; omega
                · right; exact ⟨by omega, by simp [ht]⟩
              · simp only [Bool.and_eq_true] at ht
                have hl1 : l.den β.g.env = 0 := by rw [E.same_ok ht.2]; rfl
                obtain ⟨t1, t2, t3, t4⟩ := htop ht.1
                refine ⟨t1, by rw [ho', hl1]; simpa using t2, by rw [hl1]; simpa using t3, by omega⟩
          · have hm0 : len'.den β.g.env = ((0 : Nat) : Int) := by omega
            have hbd := run_bounds (P := P) (m := 0) (c := 0) ho h hm0 (Nat.le_refl 0) hlo hhi c1 c2 (by omega) true w
            refine ⟨_, fin e1 hbd, ?_⟩
            refine ⟨none, hq, by omega, .inr ⟨rfl, hco, by rw [ho']; omega, by omega, ad, ?_⟩⟩
            have hl1 : (l.den β.g.env).toNat = 0 := by omega
            rw [hl1]
            simp
            omega
        · cases hv
      · cases hv
    · rename_i hx
      split at hv
      · rename_i hc
        simp only [Bool.and_eq_true] at hc
        cases hv
        rw [hx] at g1 hlen
        have e1 := R_sc g1
        have hl0 := E.same_ok hc.1
        have hh0 := E.same_ok hc.2
        have hbd := run_bounds (P := P) (m := 0) (c := 0) (len := .lit 0) ho h rfl (Nat.le_refl 0) hlo (by simp only [lenV] at hlen; cases hlen; exact hhi) (by rw [hl0]; exact Int.le_refl _) (by rw [hl0, hh0]; exact Int.le_refl _) (by rw [hh0]; exact Int.le_refl _) true w
        have := fin e1 hbd
        rw [hl0, hh0] at this
        exact ⟨_, this, by simpa [E.den, e1] using g1⟩
      · cases hv
    · cases hv
end
end Go.Proofs.YtmckhoaekbeijaaGreat.E
/- What a slice holds; append, make, copy; strings. Plain Lean over the kit's model; no program. -/
namespace Go.Proofs.YtmckhoaekbeijaaGreat.E
open Go Go.RowKit
set_option linter.unusedVariables false

section
variable {P : Program} {ρ : Env} {o : Oper} {fr : Fm} {n : Nat} {σ : Sto}

/-! ### a slice of an array's variable -/
def litE : E → Option Nat
  | .lit (.ofNat n) => some n
  | _ => none
theorem litE_ok {e : E} {n : Nat} (h : litE e = some n) : e = .lit (.ofNat n) := by
  unfold litE at h; split at h
  · cases h; rfl
  · cases h
/-- 'm' elements of 'k' cells each. -/
def cutA (m k : Nat) (lo hi : Nat) : V → Option (V × List B)
  | .ptr id i z c => match litE i with
    | some q => if Nat.ble lo hi && Nat.ble hi m && Nat.blt lo m then some (.sl id (q * z + c) (.lit (.ofNat lo)) (.lit (.ofNat (hi - lo))) k false, []) else none
    | none => none
  | .fe r i z c => match r.seg i z (c + lo * k) ((hi - lo) * k) with
    | some (cs, bs) => if Nat.blt lo hi && Nat.ble hi m && Nat.blt lo m && Nat.blt 0 k then some (.fs k (mkRow cs), bs) else none
    | none => none
  | _ => none
theorem Fr.seg {γ : Gm} {r : Row} {xs : List Value} {i : E} {z c k : Nat} {cs : List V} {bs : List B} (h : Fr r γ xs) (hs : r.seg i z c k = some (cs, bs)) (hb : ∀ b ∈ bs, b.den γ.env = true) :
    F2 (fun v x => F1 v γ x) cs ((xs.drop ((i.den γ.env).toNat * z + c)).take k) ∧ (0 < k → (i.den γ.env).toNat * z + c + k ≤ xs.length) := by
  obtain ⟨h1, h2⟩ := RH.seg (β := ⟨γ, fun _ => none⟩) (RH.ofFr h) hs hb
  refine ⟨h1.mono_mem fun v x hv hR => ?_, h2⟩
  -- a frozen row holds no function, nothing that is not known
  have nope : ∀ u : V, (∀ γ x, ¬ F1 u γ x) → (∀ (v : V) (x : E), v.inst x = u → v = u) → u ∉ cs := by
    intro u hu hin hv
    have key : ∀ (γ : Gm) (vs : List V) (ys : List Value), Fs vs γ ys → u ∉ vs := by
      intro γ vs
      induction vs with
      | nil => intro ys _ hm; cases hm
      | cons u' vs ih =>
        intro ys hf hm
        cases ys with
        | nil => unfold Fs at hf; exact hf
        | cons y ys =>
          unfold Fs at hf
          rcases List.mem_cons.1 hm with rfl | hm
          · exact hu _ _ hf.1
          · exact ih ys hf.2 hm
    have inst : ∀ (vs : List V) (x : E), u ∈ V.insts vs x → u ∈ vs := by
      intro vs x hm
      rw [V.insts_map] at hm
      obtain ⟨u', hu', he⟩ := List.mem_map.1 hm
      rw [← hin u' x he]; exact hu'
    cases r with
    | any vs =>
      simp only [Fr] at h
      unfold Row.seg at hs
      simp only at hs
      split at hs
      · split at hs
        · cases hs; exact key _ vs xs h (List.mem_of_mem_drop (List.mem_of_mem_take hv))
        · cases hs
      · split at hs
        · cases hs; exact key _ vs xs h (List.mem_of_mem_drop (List.mem_of_mem_take hv))
        · cases hs
    | ints kd l =>
      have : ∀ (k c : Nat) (cs : List V) (bs : List B), segI kd l i z c k = some (cs, bs) → ∀ v ∈ cs, ∃ e, v = .int kd e := by
        intro k
        induction k with
        | zero => intro c cs bs h v hm; cases h; cases hm
        | succ k ih =>
          intro c cs bs h v hm
          unfold segI at h
          split at h
          · rename_i e cs' bs' he hr
            cases h
            rcases List.mem_cons.1 hm with hm | hm
            · exact ⟨_, hm⟩
            · exact ih _ _ _ hr v hm
          · cases h
      obtain ⟨e, he⟩ := this _ _ _ _ hs u hv
      exact hu { γ with env := γ.env } (.int kd (e.den γ.env)) (by rw [he]; simp only [F1])
    | recs z' m t =>
      have h' : 0 ≤ m.den γ.env ∧ xs.length = (m.den γ.env).toNat * z' ∧ ∀ i : Nat, i < (m.den γ.env).toNat → Fs t (γ.at i) ((xs.drop (i * z')).take z') := by simpa only [Fr] using h
      unfold Row.seg at hs
      simp only at hs
      split at hs
      · cases hs
        have hi := inB_den (hb _ (List.mem_singleton.2 rfl))
        have hF := h'.2.2 _ (by omega : (i.den γ.env).toNat < (m.den γ.env).toNat)
        have hm := inst _ _ hv
        have hm := List.mem_of_mem_drop (List.mem_of_mem_take hm)
        exact key _ _ _ hF hm
      · cases hs
  cases v with
  | fn f a b => exact (nope (.fn f a b) (fun γ x hx => by simp only [F1] at hx) (fun v x he => by cases v <;> simp only [V.inst] at he <;> first | (cases he; done) | (cases he; rfl)) hv).elim
  | und => exact (nope .und (fun γ x hx => by simp only [F1] at hx) (fun v x he => by cases v <;> simp only [V.inst] at he <;> first | (cases he; done) | rfl) hv).elim
  | ptr id i z c => obtain ⟨p, hp, _⟩ := (show R0 _ (.ptr id i z c) x from hR); cases hp
  | sl id co off len z top => obtain ⟨p, hp, _⟩ := (show R0 _ (.sl id co off len z top) x from hR); cases hp
  | _ => (simp only [R1, R0] at hR; exact hR)
theorem mkRow_fr {γ : Gm} {cs : List V} {xs : List Value} (h : F2 (fun v x => F1 v γ x) cs xs) : Fr (mkRow cs) γ xs := by
  have h' : F2 (R1 ⟨γ, fun _ => none⟩) cs xs := h.mono fun v x hv => (F1.up (β := ⟨γ, fun _ => none⟩) hv).up
  unfold mkRow
  split
  · split
    · rename_i hk
      split
      · rename_i es he
        obtain ⟨h1, h2⟩ := ints_F2 h' hk he
        simp only [Fr, colL_den, h1, List.map_map]
        rfl
      · simp only [Fr]; exact Fs_iff.2 h
    · simp only [Fr]; exact Fs_iff.2 h
  · simp only [Fr]; exact Fs_iff.2 h

theorem POp.cutArr {t e : TypeId} {x : Operand} {lo hi : Option Operand} {m k l h' : Nat} {v : V} {bs : List B} (h : o.op = .slice t x lo hi none) (hu : P.underlying t = some (.array m e)) (hk : sz P e = some k)
    (hlo : boundE fr (.lit 0) lo = some (.lit (.ofNat l))) (hhi : boundE fr (.lit (.ofNat m)) hi = some (.lit (.ofNat h'))) (hv : cutA m k l h' (opd fr x) = some (v, bs)) (hb : ∀ b ∈ bs, b.den ρ = true) : POp P ρ o fr v :=
  fun β a w hρ ho => by
    subst hρ
    have g1 := ho x (by rw [h]; simp [Op.operands])
    have fin : ∀ {b d : Nat}, a.eval x = .pointer (some ⟨b, d, none⟩) → l ≤ h' → h' ≤ m → l < m → (execOp a.eval o).run P w = .ok (.value (.slice (some ⟨b, d + l * k, none⟩) (h' - l) (m - l))) w := by
      intro b d e1 h1 h2 h3
      have hbd := run_bounds (P := P) (β := β) (a := a) (m := m) (c := m) (l := .lit (.ofNat l)) (h := .lit (.ofNat h')) (len := .lit (.ofNat m)) ho h rfl (Nat.le_refl m) hlo hhi (Int.natCast_nonneg l) (by simp [E.den]; omega) (by simp [E.den]; omega) false w
      simp only [E.den, Int.ofNat_eq_natCast, Int.toNat_natCast] at hbd
      unfold execOp; rw [h]
      have hml : ¬ m = l := by omega
      simp only [Instr.sliceAt, Sem.run_bind, run_underlying hu, Result.andThen_ok, e1, Instr.sureAddr, Sem.run_pure, Option.map_none, hbd, run_sz hk, if_neg hml, Addr.add_lit]
    unfold cutA at hv
    split at hv
    · rename_i id i z c hx
      split at hv
      · rename_i q hq
        obtain rfl := litE_ok hq
        split at hv
        · rename_i hc
          simp only [Bool.and_eq_true] at hc
          cases hv
          have h1 : l ≤ h' := Nat.le_of_ble_eq_true hc.1.1
          have h2 : h' ≤ m := Nat.le_of_ble_eq_true hc.1.2
          have h3 : l < m := Nat.le_of_ble_eq_true hc.2
          rw [hx] at g1
          obtain ⟨p, hp, e1⟩ := (show R0 β (.ptr id (.lit (.ofNat q)) z c) (a.eval x) from g1)
          refine ⟨_, fin e1 h1 h2 h3, some p, hp, Int.natCast_nonneg _, .inl ⟨p, _, m - l, rfl, rfl, .inl ?_, by simp [E.den]; omega, fun e => by cases e⟩⟩
          simp [E.den]
        · cases hv
      · cases hv
    · rename_i r i z c hx
      split at hv
      · rename_i cs bs' hseg
        split at hv
        · rename_i hc
          simp only [Bool.and_eq_true] at hc
          cases hv
          have h1 : l < h' := Nat.le_of_ble_eq_true hc.1.1.1
          have h2 : h' ≤ m := Nat.le_of_ble_eq_true hc.1.1.2
          have h3 : l < m := Nat.le_of_ble_eq_true hc.1.2
          have h4 : 0 < k := Nat.le_of_ble_eq_true hc.2
          rw [hx] at g1
          have g1 : F1 (.fe r i z c) β.g (a.eval x) := g1
          simp only [F1] at g1
          obtain ⟨xs, b, d, full, e1, k1, k2, k3⟩ := g1
          obtain ⟨s1, s2⟩ := k1.seg hseg hb
          have hpos : 0 < (h' - l) * k := Nat.mul_pos (by omega) h4
          have hfit := s2 hpos
          refine ⟨_, fin e1 (by omega) h2 h3, ?_⟩
          show F1 (.fs k (mkRow cs)) β.g _
          simp only [F1]
          refine ⟨_, h' - l, m - l, _, rfl, ?_, by omega, mkRow_fr s1, .inr ⟨b, _, rfl, .inr ⟨full, k2, ?_⟩⟩⟩
          · simp; omega
          · have hl : (List.take ((h' - l) * k) (List.drop ((i.den β.g.env).toNat * z + (c + l * k)) xs)).length = (h' - l) * k := by simp; omega
            rw [hl]
            rw [← k3, List.drop_take, List.take_take, List.drop_drop, Nat.min_eq_left (by omega)]
            congr 2
            omega
        · cases hv
      · cases hv
    · cases hv

/-! ### what a slice holds -/
def hiE : E → E → Option E
  | .lit (.ofNat 0), len => some len
  | .lit (.ofNat a), .lit (.ofNat b) => some (.lit (.ofNat (a + b)))
  | _, _ => none
theorem hiE_ok {ρ : Env} {off len e : E} (h : hiE off len = some e) : (e.den ρ).toNat = (off.den ρ).toNat + (len.den ρ).toNat := by
  unfold hiE at h
  split at h
  · cases h; simp [E.den]
  · cases h; simp [E.den]; omega
  · cases h
/-- are these bytes? -/
def isByt : L → Bool
  | .nil => true
  | .cons e l => (match rng 5 e with | (some a, some b) => leb (.ofNat 0) a && leb b (.ofNat 255) | _ => false) && isByt l
  | .cat a b => isByt a && isByt b
  | .cut l _ _ => isByt l
  | .sub l _ _ => isByt l
  | .byt _ => true
  | .app f _ _ => match (shapeJ f).2 with
    | some .u8 => true
    | _ => false
  | .ite _ x y => isByt x && isByt y
  | _ => false
theorem byte_id {x : Int} (h1 : 0 ≤ x) (h2 : x ≤ 255) : byte x = x := by
  unfold byte
  obtain ⟨n, rfl⟩ : ∃ n : Nat, x = n := ⟨x.toNat, by omega⟩
  simp only [Int.toNat_natCast]
  rw [show (UInt8.ofNat n).toNat = n % 256 from by simp]
  omega
theorem isByt_ok (ρ : Env) : ∀ {l : L}, isByt l = true → ∀ x ∈ l.den ρ, 0 ≤ x ∧ x ≤ 255
  | .nil, _, x, hx => by cases hx
  | .cons e l, h, x, hx => by
    simp only [isByt, Bool.and_eq_true] at h
    rcases List.mem_cons.1 hx with rfl | hx
    · have hr := rng_ok ρ 5 e
      obtain ⟨h1, _⟩ := h
      split at h1
      · rename_i a b hab
        rw [hab] at hr
        obtain ⟨k1, k2⟩ := inRg_some hr
        simp only [Bool.and_eq_true] at h1
        have := leb_ok h1.1
        have := leb_ok h1.2
        simp only [Int.ofNat_eq_natCast] at *
        exact ⟨by omega, by omega⟩
      · cases h1
    · exact isByt_ok ρ h.2 x hx
  | .cat a b, h, x, hx => by
    simp only [isByt, Bool.and_eq_true] at h
    rcases List.mem_append.1 hx with hx | hx
    · exact isByt_ok ρ h.1 x hx
    · exact isByt_ok ρ h.2 x hx
  | .cut l lo hi, h, x, hx => isByt_ok ρ (l := l) h x (List.mem_of_mem_take (List.mem_of_mem_drop hx))
  | .sub l o n, h, x, hx => by
    simp only [L.den, subL, List.mem_map] at hx
    obtain ⟨i, _, rfl⟩ := hx
    rw [List.getD]
    cases hq : (l.den ρ)[o + i]? with
    | none => exact ⟨by simp, by simp⟩
    | some v => exact isByt_ok ρ (l := l) h v (List.mem_of_getElem? hq)
  | .byt l, _, x, hx => by
    simp only [L.den, List.mem_map] at hx
    obtain ⟨i, _, rfl⟩ := hx
    exact byte_rg i
  | .app f a as, h, x, hx => by
    simp only [isByt] at h
    split at h
    · rename_i hk
      obtain ⟨i, hi⟩ := List.getElem?_of_mem hx
      obtain ⟨y, hy⟩ := J_mem hk (a.den ρ) (as.den ρ) i
      have : (J f (a.den ρ) (as.den ρ)).getD i 0 = x := by
        rw [List.getD]; rw [show (J f (a.den ρ) (as.den ρ))[i]? = some x from hi]; rfl
      rw [this] at hy
      rw [hy]
      exact ⟨by have := (wrap_rg .u8 y).1; simpa [kMin] using this, by have := (wrap_rg .u8 y).2; simpa [kMax] using this⟩
    · cases h
  | .ite b u v, h, x, hx => by
    simp only [isByt, Bool.and_eq_true] at h
    simp only [L.den] at hx
    cases hb : b.den ρ with
    | true => rw [hb] at hx; exact isByt_ok ρ h.1 x hx
    | false => rw [hb] at hx; exact isByt_ok ρ h.2 x hx
  | .var _, h, _, _ | .at .., h, _, _ | .set .., h, _, _ | .rep .., h, _, _ | .join _, h, _, _ => by cases h
def mkByt (l : L) : L := bif isByt l then l else .byt l
theorem mkByt_den (ρ : Env) (l : L) : (mkByt l).den ρ = (l.den ρ).map byte := by
  unfold mkByt
  cases h : isByt l with
  | false => rfl
  | true =>
    rw [cond_true]
    have := isByt_ok ρ h
    conv => lhs; rw [← List.map_id (l.den ρ)]
    exact List.map_congr_left fun x hx => (byte_id (this x hx).1 (this x hx).2).symm
/-- the row of a slice, and how long it is. -/
def srcOf (σ : Sto) (z : Nat) : V → Option (Row × E × List B)
  | .sl id co off len z' _ => if Nat.beq z z' && Nat.blt 0 z then match σ id with
      | some ob => match co with
        | 0 => match hiE off len with
          | some hi => match ob.row.cut z off hi with
            | some (r, bs) => some (r, len, mkNot (mkLt len (.lit 0)) :: bs)
            | none => none
          | none => none
        | co => match litE off, litE len with
          | some a, some m => match ob.row.seg (.lit 0) 0 (co + a * z) (m * z) with
            | some (cs, bs) => some (mkRow cs, len, bs)
            | none => none
          | _, _ => none
      | none => none
    else none
  | .fs z' r => if Nat.beq z z' then match r.lenE z with
      | some e => some (r, e, [])
      | none => none
    else none
  | .sc (.slice none 0 0) => some (.any [], .lit 0, [])
  | .str l => if Nat.beq z 1 then some (.ints .u8 (mkByt l), mkLen l, []) else none
  | _ => none
theorem byteCells_strOf (l : List Int) : byteCells (strOf l) = (l.map byte).map (Value.int .u8) := by
  simp [byteCells, strOf, byte, Function.comp_def]
theorem src_ok {β : Bt} {w : World} {z : Nat} {v : V} {x : Value} {r : Row} {len : E} {bs : List B} {tx : TypeId} (hS : Sim ρ n β σ w) (hR : R β v x) (hs : srcOf σ z v = some (r, len, bs)) (hb : ∀ b ∈ bs, b.den ρ = true)
    (hk : (∃ e', P.underlying tx = some (.slice e')) ∨ P.underlying tx = some .string) : ∃ m xs, Src P z tx x m xs w ∧ len.den ρ = (m : Nat) ∧ RH β r xs := by
  have hρ := hS.env
  subst hρ
  have mk : ∀ (b d m c : Nat) (cur : Array Value) (et : TypeId) (fz : Nat × Nat) (xs : List Value), w.heap[b]? = some (.cells cur et fz) → xs.length = m * z → (cur.toList.drop d).take xs.length = xs → (∀ u ∈ xs, u.oneCell' = true) →
      Src P z tx (.slice (some ⟨b, d, none⟩) m c) m xs w := by
    intro b d m c cur et fz xs hg hl hx h1
    have hc : ∀ j u, xs[j]? = some u → w.cell? (Addr.add ⟨b, d, none⟩ j) = some u := by
      intro j u hu
      rw [← hx, List.getElem?_take] at hu
      split at hu
      · rw [List.getElem?_drop] at hu
        rw [Addr.add_lit, cell_of_row w b (d + j) cur et fz hg]
        simpa using hu
      · cases hu
    exact ⟨hk, fun _ => rfl, run_firstCells_some w z m _ m c xs hl hc, run_firstCells_some w.drew z m _ m c xs hl (by simpa using hc), hl, h1⟩
  have nil : ∀ (ad : Option Addr) (c : Nat), Src P z tx (.slice ad 0 c) 0 [] w := by
    intro ad c
    refine ⟨hk, fun _ => rfl, ?_, ?_, by simp, fun _ h => by cases h⟩
    · cases ad <;> simp [Builtin.firstCells, loadCells, loadCellsFrom]
    · cases ad <;> simp [Builtin.firstCells, loadCells, loadCellsFrom]
  unfold srcOf at hs
  split at hs
  · rename_i id co off len' z' top
    split at hs
    · rename_i hz
      simp only [Bool.and_eq_true] at hz
      obtain rfl := Nat.eq_of_beq_eq_true hz.1
      have hz0 : 0 < z := Nat.le_of_ble_eq_true hz.2
      split at hs
      · rename_i ob hob
        obtain ⟨q0, hq0, hok⟩ := hS.ob id ob hob
        obtain ⟨q, hq, hl0, hcase⟩ := (show R0 β (.sl id co off len' z top) x from hR)
        obtain rfl : q0 = q := Option.some.inj (hq0.symm.trans hq)
        split at hs
        · -- a whole row's slice
          split at hs
          · rename_i hi hhi
            split at hs
            · rename_i r' bs' hcut
              cases hs
              have hh := hiE_ok (ρ := β.g.env) hhi
              have hcb : ∀ b ∈ bs', b.den β.g.env = true := fun b hm => hb b (by simp [hm])
              rcases hcase with ⟨p, d, c, rfl, rfl, hd, hlc, htop⟩ | ⟨rfl, _, hof, hle, ad, rfl, hsp⟩
              · obtain ⟨hlt, cur, xs, rest, fz, hg, hsz, hcur, hRH, _⟩ := hok
                obtain ⟨k1, k2, k3, k4⟩ := Row.cut_rh hRH hcut hcb
                have hxl : ((xs.take ((hi.den β.g.env).toNat * z)).drop ((off.den β.g.env).toNat * z)).length = (len.den β.g.env).toNat * z := by
                  rw [List.length_drop, List.length_take, Nat.min_eq_left k4, hh, Nat.add_mul]; omega
                have hseg : (cur.toList.drop ((off.den β.g.env).toNat * z)).take ((len.den β.g.env).toNat * z) = (xs.take ((hi.den β.g.env).toNat * z)).drop ((off.den β.g.env).toNat * z) := by
                  rw [hcur, List.drop_append_of_le_length (by rw [hh, Nat.add_mul] at k4; omega), List.take_append_of_le_length (by rw [hh, Nat.add_mul] at k4; simp; omega), hh, Nat.add_mul, List.drop_take, Nat.add_sub_cancel_left]
                have hone : ∀ u ∈ (xs.take ((hi.den β.g.env).toNat * z)).drop ((off.den β.g.env).toNat * z), u.oneCell' = true := RH.one k1
                by_cases hm : (len.den β.g.env).toNat = 0
                · have he : (xs.take ((hi.den β.g.env).toNat * z)).drop ((off.den β.g.env).toNat * z) = [] := List.eq_nil_of_length_eq_zero (by rw [hxl, hm]; simp)
                  rw [he] at k1
                  rw [hm]
                  exact ⟨0, [], nil _ _, by omega, k1⟩
                · have hd' : d = (off.den β.g.env).toNat * z := by rcases hd with h | ⟨h, _⟩; omega; exact (hm h).elim
                  subst hd'
                  exact ⟨_, _, mk p.b _ _ c cur ob.e fz _ hg hxl (by rw [hxl]; exact hseg) hone, by omega, k1⟩
              · have hRH : RH β ob.row [] := hok
                obtain ⟨k1, k2, k3, k4⟩ := Row.cut_rh hRH hcut hcb
                refine ⟨0, [], nil _ _, by omega, ?_⟩
                simpa using k1
            · cases hs
          · cases hs
        · -- a part of a variable
          rename_i hco
          split at hs
          · rename_i aa m hao hml
            obtain rfl := litE_ok hao
            obtain rfl := litE_ok hml
            split at hs
            · rename_i cs bs' hseg
              cases hs
              rcases hcase with ⟨p, d, c, rfl, rfl, hd, hlc, htop⟩ | ⟨rfl, hc0, _⟩
              · obtain ⟨hlt, cur, xs, rest, fz, hg, hsz, hcur, hRH, _⟩ := hok
                obtain ⟨k1, k2⟩ := hRH.seg hseg hb
                simp only [E.den, Int.toNat_zero, Nat.zero_mul, Nat.zero_add] at k1 k2
                rw [← List.drop_take_pre hcur _ _ k2] at k1
                have hxl := k1.length
                have hcl : cs.length = m * z := by
                  have : ((cur.toList.drop (co + aa * z)).take (m * z)).length = m * z := by
                    rw [List.length_take, List.length_drop, hcur]
                    by_cases hm : m * z = 0
                    · omega
                    · have := k2 (by omega)
                      simp only [List.length_append]
                      omega
                  rw [hxl, this]
                have hd' : d = co + aa * z ∨ m = 0 := by
                  rcases hd with h | ⟨h, _⟩
                  · left; simpa [E.den] using h
                  · right; simpa [E.den] using h
                have hml : (((cur.toList.drop (co + aa * z)).take (m * z))).length = m * z := by rw [← hxl, hcl]
                have e0 : ((E.lit (.ofNat m)).den β.g.env).toNat = m := by simp [E.den]
                rw [e0]
                refine ⟨m, _, ?_, rfl, mkRow_ok k1⟩
                rcases hd' with rfl | rfl
                · exact mk p.b _ m c cur ob.e fz _ hg hml (by rw [hml]) (F2.one k1)
                · have : (List.take (0 * z) (List.drop (co + aa * z) cur.toList)) = [] := by simp
                  rw [this]; exact nil _ _
              · exact (hco hc0).elim
            · cases hs
          · cases hs
      · cases hs
    · cases hs
  · rename_i z' r'
    split at hs
    · rename_i hz
      obtain rfl := Nat.eq_of_beq_eq_true hz
      split at hs
      · rename_i e he
        cases hs
        have h1 := R_fs hR
        simp only [F1] at h1
        obtain ⟨xs, m, c, ad, rfl, h2, h3, h4, h5⟩ := h1
        obtain ⟨hz0, hn0, hlen⟩ := Row.lenE_ok (RH.ofFr h4) he
        have hm : m = (len.den β.g.env).toNat := Nat.eq_of_mul_eq_mul_right hz0 (h2.trans hlen)
        have hone : ∀ u ∈ xs, u.oneCell' = true := RH.one (RH.ofFr (β := β) h4)
        refine ⟨m, xs, ?_, by omega, RH.ofFr h4⟩
        have empty : m = 0 → xs = [] := fun h => List.eq_nil_of_length_eq_zero (by rw [← h2, h]; simp)
        rcases h5 with ⟨rfl, rfl, rfl⟩ | ⟨b, d, rfl, h6⟩
        · rw [empty rfl]; exact nil _ _
        · rcases h6 with rfl | ⟨cs, h6, h7⟩
          · rw [empty rfl]; exact nil _ _
          · obtain ⟨⟨et, f, hg⟩, _⟩ := hS.fzs b cs h6
            exact mk b d m c cs et f xs hg h2.symm h7 hone
      · cases hs
    · cases hs
  · cases hs
    rw [R_sc hR]
    exact ⟨0, [], nil none 0, rfl, trivial⟩
  · rename_i l
    split at hs
    · rename_i hz
      obtain rfl := Nat.eq_of_beq_eq_true hz
      cases hs
      rw [R_str hR]
      have hxl : byteCells (strOf (l.den β.g.env)) = ((l.den β.g.env).map byte).map (Value.int .u8) := byteCells_strOf _
      refine ⟨(strOf (l.den β.g.env)).size, byteCells (strOf (l.den β.g.env)), ?_, by rw [mkLen_den, strOf_size], ?_⟩
      · refine ⟨hk, fun _ => rfl, firstCells_string _ w, firstCells_string _ w.drew, by rw [byteCells_length, Nat.mul_one], fun u hu => ?_⟩
        obtain ⟨_, _, rfl⟩ := List.mem_map.1 hu
        rfl
      · rw [hxl]
        simp only [RH, Fr, mkByt_den]
    · cases hs
  · cases hs
where
  RH.one {β : Bt} {r : Row} {xs : List Value} (h : RH β r xs) : ∀ u ∈ xs, u.oneCell' = true := by
    cases r with
    | any cs => exact F2.one h
    | ints k l =>
      have hx : xs = (l.den β.g.env).map (.int k) := by simpa only [RH, Fr] using h
      subst hx
      intro u hu
      obtain ⟨_, _, rfl⟩ := List.mem_map.1 hu
      rfl
    | recs z m t =>
      have h' : 0 ≤ m.den β.g.env ∧ xs.length = (m.den β.g.env).toNat * z ∧ ∀ i : Nat, i < (m.den β.g.env).toNat → Fs t (β.g.at i) ((xs.drop (i * z)).take z) := by simpa only [RH, Fr] using h
      intro u hu
      obtain ⟨j, hj, rfl⟩ := List.mem_iff_getElem.1 hu
      have hz : 0 < z := by
        rcases Nat.eq_zero_or_pos z with h | h
        · rw [h'.2.1, h] at hj; simp at hj
        · exact h
      have hi : j / z < (m.den β.g.env).toNat := by
        rw [Nat.div_lt_iff_lt_mul hz, ← h'.2.1]; exact hj
      have hF := Fs_iff.1 (h'.2.2 (j / z) hi)
      have hmem : xs[j] ∈ ((xs.drop (j / z * z)).take z) := by
        have e1 : j / z * z + j % z = j := by rw [Nat.mul_comm]; exact Nat.div_add_mod j z
        have e2 : j % z < z := Nat.mod_lt _ hz
        rw [List.mem_iff_getElem?]
        refine ⟨j % z, ?_⟩
        rw [List.getElem?_take, if_pos e2, List.getElem?_drop, e1]
        simp [hj]
      obtain ⟨k, hk⟩ := List.mem_iff_getElem?.1 hmem
      obtain ⟨v, hv, hR⟩ := hF.getx k _ hk
      exact F1.one hR
end
end Go.Proofs.YtmckhoaekbeijaaGreat.E
