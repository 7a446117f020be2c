/- Lemmas for the claims of this seat: an evaluator over abstract values, its soundness, and the contracts of the functions of melt that it walks; no premise beyond what each theorem states. -/
import Derived.Test.YtdcelpomnboeoaaGreatDoorProg
import Derived.Test.YtdcelpomnboeoaaGreatDoorGAF
import Derived.Test.YtdcelpomnboeoaaGreatDoorGAG

section
set_option linter.all false
namespace Go.Ev
open Go Go.Proofs
theorem cells3 : Tryz.prog.cellsOf 3 = 1 := by kernel_rfl
theorem bytes3 : Tryz.prog.bytesOf 3 = 8 := by kernel_rfl
theorem info3 : (Tryz.prog.info? 3).isSome = true := by kernel_rfl
theorem zero3 : zeroCells Tryz.prog 3 = some [.s (.int .i64 0)] := by kernel_rfl
theorem zok3 : zeroOk Tryz.prog 3 = true := by kernel_rfl
attribute [simp] cells3 bytes3 info3 zero3 zok3
theorem cells4 : Tryz.prog.cellsOf 4 = 1 := by kernel_rfl
theorem bytes4 : Tryz.prog.bytesOf 4 = 1 := by kernel_rfl
theorem info4 : (Tryz.prog.info? 4).isSome = true := by kernel_rfl
theorem zero4 : zeroCells Tryz.prog 4 = some [.s (.bool false)] := by kernel_rfl
theorem zok4 : zeroOk Tryz.prog 4 = true := by kernel_rfl
attribute [simp] cells4 bytes4 info4 zero4 zok4
theorem cells5 : Tryz.prog.cellsOf 5 = 1 := by kernel_rfl
theorem bytes5 : Tryz.prog.bytesOf 5 = 1 := by kernel_rfl
theorem info5 : (Tryz.prog.info? 5).isSome = true := by kernel_rfl
theorem zero5 : zeroCells Tryz.prog 5 = some [.s (.int .u8 0)] := by kernel_rfl
theorem zok5 : zeroOk Tryz.prog 5 = true := by kernel_rfl
attribute [simp] cells5 bytes5 info5 zero5 zok5
theorem cells9 : Tryz.prog.cellsOf 9 = 1 := by kernel_rfl
theorem bytes9 : Tryz.prog.bytesOf 9 = 16 := by kernel_rfl
theorem info9 : (Tryz.prog.info? 9).isSome = true := by kernel_rfl
theorem zero9 : zeroCells Tryz.prog 9 = some [.s (.string ByteArray.empty)] := by kernel_rfl
theorem zok9 : zeroOk Tryz.prog 9 = true := by kernel_rfl
attribute [simp] cells9 bytes9 info9 zero9 zok9
theorem cells12 : Tryz.prog.cellsOf 12 = 1 := by kernel_rfl
theorem bytes12 : Tryz.prog.bytesOf 12 = 8 := by kernel_rfl
theorem info12 : (Tryz.prog.info? 12).isSome = true := by kernel_rfl
theorem zero12 : zeroCells Tryz.prog 12 = some [.s (.int .u64 0)] := by kernel_rfl
theorem zok12 : zeroOk Tryz.prog 12 = true := by kernel_rfl
attribute [simp] cells12 bytes12 info12 zero12 zok12
theorem cells22 : Tryz.prog.cellsOf 22 = 1 := by kernel_rfl
theorem bytes22 : Tryz.prog.bytesOf 22 = 24 := by kernel_rfl
theorem info22 : (Tryz.prog.info? 22).isSome = true := by kernel_rfl
theorem zero22 : zeroCells Tryz.prog 22 = some [AV.nilsl] := by kernel_rfl
theorem zok22 : zeroOk Tryz.prog 22 = true := by kernel_rfl
attribute [simp] cells22 bytes22 info22 zero22 zok22
theorem cells23 : Tryz.prog.cellsOf 23 = 1 := by kernel_rfl
theorem bytes23 : Tryz.prog.bytesOf 23 = 24 := by kernel_rfl
theorem info23 : (Tryz.prog.info? 23).isSome = true := by kernel_rfl
theorem zero23 : zeroCells Tryz.prog 23 = some [AV.nilsl] := by kernel_rfl
theorem zok23 : zeroOk Tryz.prog 23 = true := by kernel_rfl
attribute [simp] cells23 bytes23 info23 zero23 zok23
theorem cells27 : Tryz.prog.cellsOf 27 = 1 := by kernel_rfl
theorem bytes27 : Tryz.prog.bytesOf 27 = 8 := by kernel_rfl
theorem info27 : (Tryz.prog.info? 27).isSome = true := by kernel_rfl
theorem zero27 : zeroCells Tryz.prog 27 = some [.s (.int .i64 0)] := by kernel_rfl
theorem zok27 : zeroOk Tryz.prog 27 = true := by kernel_rfl
attribute [simp] cells27 bytes27 info27 zero27 zok27
theorem cells30 : Tryz.prog.cellsOf 30 = 1 := by kernel_rfl
theorem bytes30 : Tryz.prog.bytesOf 30 = 24 := by kernel_rfl
theorem info30 : (Tryz.prog.info? 30).isSome = true := by kernel_rfl
theorem zero30 : zeroCells Tryz.prog 30 = some [AV.nilsl] := by kernel_rfl
theorem zok30 : zeroOk Tryz.prog 30 = true := by kernel_rfl
attribute [simp] cells30 bytes30 info30 zero30 zok30
theorem cells32 : Tryz.prog.cellsOf 32 = 4 := by kernel_rfl
theorem bytes32 : Tryz.prog.bytesOf 32 = 64 := by kernel_rfl
theorem info32 : (Tryz.prog.info? 32).isSome = true := by kernel_rfl
theorem zero32 : zeroCells Tryz.prog 32 = some [AV.nilsl, .s (.int .i64 0), .s (.int .i64 0), AV.nilsl] := by kernel_rfl
theorem zok32 : zeroOk Tryz.prog 32 = true := by kernel_rfl
attribute [simp] cells32 bytes32 info32 zero32 zok32
theorem cells35 : Tryz.prog.cellsOf 35 = 1 := by kernel_rfl
theorem bytes35 : Tryz.prog.bytesOf 35 = 24 := by kernel_rfl
theorem info35 : (Tryz.prog.info? 35).isSome = true := by kernel_rfl
theorem zero35 : zeroCells Tryz.prog 35 = some [AV.nilsl] := by kernel_rfl
theorem zok35 : zeroOk Tryz.prog 35 = true := by kernel_rfl
attribute [simp] cells35 bytes35 info35 zero35 zok35
theorem cells36 : Tryz.prog.cellsOf 36 = 1 := by kernel_rfl
theorem bytes36 : Tryz.prog.bytesOf 36 = 24 := by kernel_rfl
theorem info36 : (Tryz.prog.info? 36).isSome = true := by kernel_rfl
theorem zero36 : zeroCells Tryz.prog 36 = some [AV.nilsl] := by kernel_rfl
theorem zok36 : zeroOk Tryz.prog 36 = true := by kernel_rfl
attribute [simp] cells36 bytes36 info36 zero36 zok36
theorem cells52 : Tryz.prog.cellsOf 52 = 3 := by kernel_rfl
theorem bytes52 : Tryz.prog.bytesOf 52 = 24 := by kernel_rfl
theorem info52 : (Tryz.prog.info? 52).isSome = true := by kernel_rfl
theorem zero52 : zeroCells Tryz.prog 52 = some [.s (.int .i64 0), .s (.int .i64 0), .s (.int .i64 0)] := by kernel_rfl
theorem zok52 : zeroOk Tryz.prog 52 = true := by kernel_rfl
attribute [simp] cells52 bytes52 info52 zero52 zok52
theorem cells55 : Tryz.prog.cellsOf 55 = 1 := by kernel_rfl
theorem bytes55 : Tryz.prog.bytesOf 55 = 8 := by kernel_rfl
theorem info55 : (Tryz.prog.info? 55).isSome = true := by kernel_rfl
theorem zero55 : zeroCells Tryz.prog 55 = some [.s (.int .u64 0)] := by kernel_rfl
theorem zok55 : zeroOk Tryz.prog 55 = true := by kernel_rfl
attribute [simp] cells55 bytes55 info55 zero55 zok55
theorem cells57 : Tryz.prog.cellsOf 57 = 1 := by kernel_rfl
theorem bytes57 : Tryz.prog.bytesOf 57 = 8 := by kernel_rfl
theorem info57 : (Tryz.prog.info? 57).isSome = true := by kernel_rfl
theorem zero57 : zeroCells Tryz.prog 57 = some [.s (.int .u64 0)] := by kernel_rfl
theorem zok57 : zeroOk Tryz.prog 57 = true := by kernel_rfl
attribute [simp] cells57 bytes57 info57 zero57 zok57
theorem cells63 : Tryz.prog.cellsOf 63 = 2 := by kernel_rfl
theorem bytes63 : Tryz.prog.bytesOf 63 = 48 := by kernel_rfl
theorem info63 : (Tryz.prog.info? 63).isSome = true := by kernel_rfl
theorem zero63 : zeroCells Tryz.prog 63 = some [AV.nilsl, AV.nilsl] := by kernel_rfl
theorem zok63 : zeroOk Tryz.prog 63 = true := by kernel_rfl
attribute [simp] cells63 bytes63 info63 zero63 zok63
theorem cells67 : Tryz.prog.cellsOf 67 = 1 := by kernel_rfl
theorem bytes67 : Tryz.prog.bytesOf 67 = 24 := by kernel_rfl
theorem info67 : (Tryz.prog.info? 67).isSome = true := by kernel_rfl
theorem zero67 : zeroCells Tryz.prog 67 = some [AV.nilsl] := by kernel_rfl
theorem zok67 : zeroOk Tryz.prog 67 = true := by kernel_rfl
attribute [simp] cells67 bytes67 info67 zero67 zok67
theorem cells69 : Tryz.prog.cellsOf 69 = 4 := by kernel_rfl
theorem bytes69 : Tryz.prog.bytesOf 69 = 48 := by kernel_rfl
theorem info69 : (Tryz.prog.info? 69).isSome = true := by kernel_rfl
theorem zero69 : zeroCells Tryz.prog 69 = some [AV.nilsl, .s (.int .i64 0), .s (.int .i64 0), .s (.int .i64 0)] := by kernel_rfl
theorem zok69 : zeroOk Tryz.prog 69 = true := by kernel_rfl
attribute [simp] cells69 bytes69 info69 zero69 zok69
theorem cells71 : Tryz.prog.cellsOf 71 = 2 := by kernel_rfl
theorem bytes71 : Tryz.prog.bytesOf 71 = 16 := by kernel_rfl
theorem info71 : (Tryz.prog.info? 71).isSome = true := by kernel_rfl
theorem zero71 : zeroCells Tryz.prog 71 = some [.s (.int .i64 0), .s (.int .i64 0)] := by kernel_rfl
theorem zok71 : zeroOk Tryz.prog 71 = true := by kernel_rfl
attribute [simp] cells71 bytes71 info71 zero71 zok71
theorem cells75 : Tryz.prog.cellsOf 75 = 1 := by kernel_rfl
theorem bytes75 : Tryz.prog.bytesOf 75 = 24 := by kernel_rfl
theorem info75 : (Tryz.prog.info? 75).isSome = true := by kernel_rfl
theorem zero75 : zeroCells Tryz.prog 75 = some [AV.nilsl] := by kernel_rfl
theorem zok75 : zeroOk Tryz.prog 75 = true := by kernel_rfl
attribute [simp] cells75 bytes75 info75 zero75 zok75
theorem cells99 : Tryz.prog.cellsOf 99 = 5 := by kernel_rfl
theorem bytes99 : Tryz.prog.bytesOf 99 = 72 := by kernel_rfl
theorem info99 : (Tryz.prog.info? 99).isSome = true := by kernel_rfl
theorem zero99 : zeroCells Tryz.prog 99 = some [AV.nilsl, .s (.int .i64 0), .s (.int .i64 0), AV.nilsl, .s (.int .i64 0)] := by kernel_rfl
theorem zok99 : zeroOk Tryz.prog 99 = true := by kernel_rfl
attribute [simp] cells99 bytes99 info99 zero99 zok99
theorem cells117 : Tryz.prog.cellsOf 117 = 0 := by kernel_rfl
theorem bytes117 : Tryz.prog.bytesOf 117 = 0 := by kernel_rfl
theorem info117 : (Tryz.prog.info? 117).isSome = true := by kernel_rfl
theorem zero117 : zeroCells Tryz.prog 117 = some [] := by kernel_rfl
theorem zok117 : zeroOk Tryz.prog 117 = true := by kernel_rfl
attribute [simp] cells117 bytes117 info117 zero117 zok117
theorem cells121 : Tryz.prog.cellsOf 121 = 2 := by kernel_rfl
theorem bytes121 : Tryz.prog.bytesOf 121 = 16 := by kernel_rfl
theorem info121 : (Tryz.prog.info? 121).isSome = true := by kernel_rfl
theorem zero121 : zeroCells Tryz.prog 121 = some [.s (.int .i64 0), .s (.int .i64 0)] := by kernel_rfl
theorem zok121 : zeroOk Tryz.prog 121 = true := by kernel_rfl
attribute [simp] cells121 bytes121 info121 zero121 zok121
theorem cells123 : Tryz.prog.cellsOf 123 = 8 := by kernel_rfl
theorem bytes123 : Tryz.prog.bytesOf 123 = 64 := by kernel_rfl
theorem info123 : (Tryz.prog.info? 123).isSome = true := by kernel_rfl
theorem zero123 : zeroCells Tryz.prog 123 = some [.s (.int .i64 0), .s (.int .i64 0), .s (.int .i64 0), .s (.int .i64 0), .s (.int .i64 0), .s (.int .i64 0), .s (.int .i64 0), .s (.int .i64 0)] := by kernel_rfl
theorem zok123 : zeroOk Tryz.prog 123 = true := by kernel_rfl
attribute [simp] cells123 bytes123 info123 zok123
end Go.Ev
end

section
set_option linter.all false
open Go Go.Ev Go.Proofs
namespace Go.Ev
set_option linter.unusedSimpArgs false
set_option linter.unusedVariables false
theorem mixed : Tryz.prog.follows .mixedOrders = true := by kernel_rfl
/-! data -/
@[ext] structure MBin where
  grams : List (Int × Int)
  w : Int
  c : Int
  g : Int
  deriving DecidableEq
@[ext] structure MOrd where
  limits : List Int
  least : Int
  most : Int
  bins : List MBin
  deriving DecidableEq
def dI (n : Int) : D := .s (.int .i64 n)
def eInts (l : List Int) : List D := l.map dI
def eRngs (l : List (Int × Int)) : List D := l.flatMap fun r => [dI r.1, dI r.2]
def eBin (b : MBin) : List D := [.sl b.grams.length (eRngs b.grams), dI b.w, dI b.c, dI b.g]
def eBins (l : List MBin) : List D := l.flatMap eBin
def aSl (n : Nat) (cs : List D) : AV := .sl false false .U .no n cs
def aI (n : Int) : AV := .s (.int .i64 n)
def aB (b : Bool) : AV := .s (.bool b)
def aOrdC (o : MOrd) : List AV := [.sl false false .U .no o.limits.length (eInts o.limits), .s (.int .i64 o.least), .s (.int .i64 o.most), .sl false false .U .no o.bins.length (eBins o.bins)]

theorem flat_get {α : Type} (f : α → List D) (k : Nat) (hk : ∀ x, (f x).length = k) : ∀ (l : List α) (i j : Nat), j < k → (l.flatMap f)[i * k + j]? = (l[i]?).bind fun x => (f x)[j]?
  | [], i, j, h => by simp
  | x :: l, 0, j, h => by
    simp only [List.flatMap_cons, Nat.zero_mul, Nat.zero_add, List.getElem?_cons_zero, Option.bind_some]
    rw [List.getElem?_append_left (by rw [hk]; exact h)]
  | x :: l, i + 1, j, h => by
    simp only [List.flatMap_cons, List.getElem?_cons_succ]
    rw [List.getElem?_append_right (by rw [hk, Nat.succ_mul]; omega), hk, ← flat_get f k hk l i j h]
    congr 1
    rw [Nat.succ_mul]; omega
@[simp] theorem eBins_0 (l : List MBin) (i : Nat) : (eBins l)[i * 4]? = (l[i]?).map fun b => .sl b.grams.length (eRngs b.grams) := by
  have := flat_get eBin 4 (fun _ => rfl) l i 0 (by omega)
  simp only [Nat.add_zero] at this
  rw [eBins, this]; cases l[i]? <;> rfl
@[simp] theorem eBins_1 (l : List MBin) (i : Nat) : (eBins l)[i * 4 + 1]? = (l[i]?).map fun b => dI b.w := by
  rw [eBins, flat_get eBin 4 (fun _ => rfl) l i 1 (by omega)]; cases l[i]? <;> rfl
@[simp] theorem eBins_2 (l : List MBin) (i : Nat) : (eBins l)[i * 4 + 2]? = (l[i]?).map fun b => dI b.c := by
  rw [eBins, flat_get eBin 4 (fun _ => rfl) l i 2 (by omega)]; cases l[i]? <;> rfl
@[simp] theorem eBins_3 (l : List MBin) (i : Nat) : (eBins l)[i * 4 + 3]? = (l[i]?).map fun b => dI b.g := by
  rw [eBins, flat_get eBin 4 (fun _ => rfl) l i 3 (by omega)]; cases l[i]? <;> rfl
@[simp] theorem eInts_get (l : List Int) (i : Nat) : (eInts l)[i]? = (l[i]?).map dI := by simp [eInts]
attribute [simp] dI


attribute [simp] St.lit aOrdC
@[simp] theorem eInts_nil : eInts [] = [] := rfl
@[simp] theorem eInts_cons (a : Int) (l : List Int) : eInts (a :: l) = D.s (.int .i64 a) :: eInts l := rfl
@[simp] theorem eInts_len (l : List Int) : (eInts l).length = l.length := by simp [eInts]
@[simp] theorem eInts_gE (l : List Int) (i : Nat) (h : i < (eInts l).length) : (eInts l)[i] = D.s (.int .i64 (l[i]'(by simpa using h))) := by simp [eInts, dI]
theorem eInts_snoc (l : List Int) (a : Int) : eInts (l ++ [a]) = eInts l ++ [D.s (.int .i64 a)] := by simp [eInts]
@[simp] theorem eInts_app (l m : List Int) : eInts l ++ eInts m = eInts (l ++ m) := by simp [eInts]
@[simp] theorem eInts_app1 (l : List Int) (a : Int) : eInts l ++ [D.s (.int .i64 a)] = eInts (l ++ [a]) := by simp [eInts]
@[simp] theorem eRngs_nil : eRngs [] = [] := rfl
@[simp] theorem eRngs_app1 (l : List (Int × Int)) (a b : Int) : eRngs l ++ [D.s (.int .i64 a), D.s (.int .i64 b)] = eRngs (l ++ [(a, b)]) := by simp [eRngs, dI]
@[simp] theorem eRngs_app (l m : List (Int × Int)) : eRngs l ++ eRngs m = eRngs (l ++ m) := by simp [eRngs]
@[simp] theorem eRngs_len (l : List (Int × Int)) : (eRngs l).length = l.length * 2 := by
  induction l with
  | nil => rfl
  | cons a l ih => simp only [eRngs, List.flatMap_cons, List.length_append, List.length_cons, List.length_nil] at ih ⊢; omega
@[simp] theorem eRngs_0 (l : List (Int × Int)) (i : Nat) : (eRngs l)[i * 2]? = (l[i]?).map fun b => D.s (.int .i64 b.1) := by
  have := flat_get (fun r : Int × Int => [dI r.1, dI r.2]) 2 (fun _ => rfl) l i 0 (by omega)
  simp only [Nat.add_zero] at this
  rw [eRngs, this]; cases l[i]? <;> rfl
@[simp] theorem eRngs_1 (l : List (Int × Int)) (i : Nat) : (eRngs l)[i * 2 + 1]? = (l[i]?).map fun b => D.s (.int .i64 b.2) := by
  rw [eRngs, flat_get (fun r : Int × Int => [dI r.1, dI r.2]) 2 (fun _ => rfl) l i 1 (by omega)]; cases l[i]? <;> rfl
@[simp] theorem eBins_nil : eBins [] = [] := rfl
@[simp] theorem eBins_len (l : List MBin) : (eBins l).length = l.length * 4 := by
  induction l with
  | nil => rfl
  | cons a l ih => simp only [eBins, List.flatMap_cons, List.length_append, eBin, List.length_cons, List.length_nil] at ih ⊢; omega
@[simp] theorem eBins_app1 (l : List MBin) (n : Nat) (g : List (Int × Int)) (hn : n = g.length) (a b c : Int) :
    eBins l ++ [D.sl n (eRngs g), D.s (.int .i64 a), D.s (.int .i64 b), D.s (.int .i64 c)] = eBins (l ++ [⟨g, a, b, c⟩]) := by subst hn; simp [eBins, eBin, dI]

@[ext] structure MBd where
  r : Int
  a : Int
  c : Int
  deriving DecidableEq
def eBd (b : MBd) : List D := [D.s (.int .i64 b.r), D.s (.int .i64 b.a), D.s (.int .i64 b.c)]
def eBds (l : List MBd) : List D := l.flatMap eBd
@[simp] theorem eBds_nil : eBds [] = [] := rfl
@[simp] theorem eBds_cons (b : MBd) (l : List MBd) : eBds (b :: l) = D.s (.int .i64 b.r) :: D.s (.int .i64 b.a) :: D.s (.int .i64 b.c) :: eBds l := rfl
@[simp] theorem eBds_len (l : List MBd) : (eBds l).length = l.length * 3 := by
  induction l with
  | nil => rfl
  | cons a l ih => simp only [eBds, List.flatMap_cons, List.length_append, eBd, List.length_cons, List.length_nil] at ih ⊢; omega
@[simp] theorem eBds_app (l m : List MBd) : eBds l ++ eBds m = eBds (l ++ m) := by simp [eBds]
theorem eBds_0 (l : List MBd) (i : Nat) : (eBds l)[i * 3]? = (l[i]?).map fun b => D.s (.int .i64 b.r) := by
  have := flat_get eBd 3 (fun _ => rfl) l i 0 (by omega)
  simp only [Nat.add_zero] at this
  rw [eBds, this]; cases l[i]? <;> rfl
theorem eBds_1 (l : List MBd) (i : Nat) : (eBds l)[i * 3 + 1]? = (l[i]?).map fun b => D.s (.int .i64 b.a) := by
  rw [eBds, flat_get eBd 3 (fun _ => rfl) l i 1 (by omega)]; cases l[i]? <;> rfl
theorem eBds_2 (l : List MBd) (i : Nat) : (eBds l)[i * 3 + 2]? = (l[i]?).map fun b => D.s (.int .i64 b.c) := by
  rw [eBds, flat_get eBd 3 (fun _ => rfl) l i 2 (by omega)]; cases l[i]? <;> rfl
attribute [simp] eBds_0 eBds_1 eBds_2

@[simp] theorem eBins_g0 (l : List MBin) (i : Nat) (h : i * 4 < (eBins l).length) : (eBins l)[i * 4] = D.sl (l[i]'(by simp at h; omega)).grams.length (eRngs (l[i]'(by simp at h; omega)).grams) := by
  have hi : i < l.length := by simp at h; omega
  have := eBins_0 l i
  rw [List.getElem?_eq_getElem h, List.getElem?_eq_getElem hi] at this
  exact Option.some.inj this
@[simp] theorem eRngs_g0 (l : List (Int × Int)) (i : Nat) (h : i * 2 < (eRngs l).length) : (eRngs l)[i * 2] = D.s (.int .i64 (l[i]'(by simp at h; omega)).1) := by
  have hi : i < l.length := by simp at h; omega
  have := eRngs_0 l i
  rw [List.getElem?_eq_getElem h, List.getElem?_eq_getElem hi] at this
  exact Option.some.inj this
@[simp] theorem eBds_g0 (l : List MBd) (i : Nat) (h : i * 3 < (eBds l).length) : (eBds l)[i * 3] = D.s (.int .i64 (l[i]'(by simp at h; omega)).r) := by
  have hi : i < l.length := by simp at h; omega
  have := eBds_0 l i
  rw [List.getElem?_eq_getElem h, List.getElem?_eq_getElem hi] at this
  exact Option.some.inj this
/-! whole elements -/
theorem flat_take {α : Type} (f : α → List D) (k : Nat) (hk : ∀ x, (f x).length = k) : ∀ (l : List α) (i : Nat) (x : α), l[i]? = some x → ((l.flatMap f).drop (i * k)).take k = f x
  | [], i, x, h => by simp at h
  | y :: l, 0, x, h => by
    simp at h
    subst h
    simp only [Nat.zero_mul, List.drop_zero, List.flatMap_cons]
    rw [List.take_append_of_le_length (by rw [hk]; omega), List.take_of_length_le (by rw [hk]; omega)]
  | y :: l, i + 1, x, h => by
    simp only [List.flatMap_cons]
    rw [List.drop_append, List.drop_of_length_le (by rw [hk, Nat.succ_mul]; omega), List.nil_append, hk, show (i + 1) * k - k = i * k by rw [Nat.succ_mul]; omega]
    exact flat_take f k hk l i x (by simpa using h)
theorem eBins_at (l : List MBin) (i : Nat) (x : MBin) (h : l[i]? = some x) : ((eBins l).drop (i * 4)).take 4 = eBin x := flat_take eBin 4 (fun _ => rfl) l i x h
theorem eRngs_at (l : List (Int × Int)) (i : Nat) (x : Int × Int) (h : l[i]? = some x) : ((eRngs l).drop (i * 2)).take 2 = [dI x.1, dI x.2] := flat_take (fun r : Int × Int => [dI r.1, dI r.2]) 2 (fun _ => rfl) l i x h
theorem eBds_at (l : List MBd) (i : Nat) (x : MBd) (h : l[i]? = some x) : ((eBds l).drop (i * 3)).take 3 = eBd x := flat_take eBd 3 (fun _ => rfl) l i x h
theorem eRngs_atm (f g : Bool) (l : List (Int × Int)) (i : Nat) (x : Int × Int) (h : l[i]? = some x) : ((List.map (D.av f g) (eRngs l)).drop (i * 2)).take 2 = [.s (.int .i64 x.1), .s (.int .i64 x.2)] := by
  rw [← List.map_drop, ← List.map_take, eRngs_at l i x h]; rfl
theorem eBds_atm (f g : Bool) (l : List MBd) (i : Nat) (x : MBd) (h : l[i]? = some x) : ((List.map (D.av f g) (eBds l)).drop (i * 3)).take 3 = [.s (.int .i64 x.r), .s (.int .i64 x.a), .s (.int .i64 x.c)] := by
  rw [← List.map_drop, ← List.map_take, eBds_at l i x h]; rfl
theorem eBins_atm (f g : Bool) (l : List MBin) (i : Nat) (x : MBin) (h : l[i]? = some x) : ((List.map (D.av f g) (eBins l)).drop (i * 4)).take 4 = [.sl g g .U .no x.grams.length (eRngs x.grams), .s (.int .i64 x.w), .s (.int .i64 x.c), .s (.int .i64 x.g)] := by
  rw [← List.map_drop, ← List.map_take, eBins_at l i x h]; rfl
theorem wr_lt (n : Int) : wr n < 9223372036854775808 := by
  simp only [wr, IntKind.wrap, IntKind.signed, IntKind.bits]
  simp
  split <;> omega
@[simp] theorem wrap_lt (n : Int) : IntKind.i64.wrap n < 9223372036854775808 := wr_lt n
theorem wr_ge (n : Int) : -9223372036854775808 ≤ wr n := by
  simp only [wr, IntKind.wrap, IntKind.signed, IntKind.bits]
  simp
  split <;> omega
end Go.Ev
end

section
set_option linter.all false
set_option linter.unusedSimpArgs false
set_option linter.unusedVariables false
open Go Go.Ev Go.Proofs
namespace Go.Ev
theorem pe_int {P : Program} (d : Nat) (t : TypeId) (k k' : IntKind) (a b : Int) (hu : P.underlying t = some (.int k)) : pureP P (Op.equalIn (d + 1) t (.int k' a) (.int k' b)) = some (a == b) := by
  unfold Op.equalIn
  rw [pureP_bind P _ _ _ (underlying_pure t _ hu)]
  simp
def eqL (P : Program) (d : Nat) (xs ys : Array Value) : List Field → Option Bool
  | [] => some true
  | f :: fs => if f.name ≠ "_" then
      bnd (pureP P (part f.type xs f.offset)) fun a => bnd (pureP P (part f.type ys f.offset)) fun b => bnd (pureP P (Op.equalIn d f.type a b)) fun r => if r = true then eqL P d xs ys fs else some false
    else eqL P d xs ys fs
theorem pe_loop {P : Program} (d : Nat) (xs ys : Array Value) (body : Field → Option Bool × Unit → Sem (ForInStep (Option Bool × Unit)))
    (hb : ∀ f s, body f s = if f.name ≠ "_" then (do
          let a ← part f.type xs f.offset
          let b ← part f.type ys f.offset
          let e ← Op.equalIn d f.type a b
          if (!e) = true then pure (ForInStep.done (some false, ())) else pure (ForInStep.yield (none, ())))
        else pure (ForInStep.yield (none, ()))) : ∀ (fs : List Field) (r : Bool), eqL P d xs ys fs = some r →
    pureP P (forIn fs ((none : Option Bool), ()) body) = some (if r then none else some false, ())
  | [], r, h => by simp [eqL] at h; subst h; simp
  | f :: fs, r, h => by
    have ih := pe_loop (P := P) d xs ys body hb fs
    simp only [eqL] at h
    rw [List.forIn_cons, hb]
    split at h
    · rename_i hn
      obtain ⟨a, h1, h⟩ := bnd_eq h
      obtain ⟨b, h2, h⟩ := bnd_eq h
      obtain ⟨e, h3, h⟩ := bnd_eq h
      rw [if_pos hn]
      simp only [bind_assoc]
      rw [pureP_bind P _ _ _ h1, pureP_bind P _ _ _ h2, pureP_bind P _ _ _ h3]
      cases e with
      | true => simp only [Bool.not_true, Bool.false_eq_true, if_false, pure_bind]; exact ih r (by simpa using h)
      | false => simp at h; subst h; simp
    · rename_i hn
      rw [if_neg hn]
      simp only [pure_bind]
      exact ih r h
theorem pe_struct {P : Program} (d : Nat) (t : TypeId) (xs ys : Array Value) (fs : Array Field) (r : Bool) (hu : P.underlying t = some (.struct fs)) (hp : P.stoodInHeld t = false) (h : eqL P d xs ys fs.toList = some r) :
    pureP P (Op.equalIn (d + 1) t (.agg xs) (.agg ys)) = some r := by
  unfold Op.equalIn
  rw [pureP_bind P _ _ _ (underlying_pure t _ hu)]
  simp only []
  rw [pureP_bind P program _ P rfl]
  simp only [hp, Bool.false_eq_true, if_false]
  rw [← Array.forIn_toList, pureP_bind P _ _ _ (pe_loop d xs ys _ (fun _ _ => rfl) fs.toList r h)]
  cases r <;> rfl
theorem part_cell {P : Program} (t : TypeId) (cs : Array Value) (off : Nat) (v : Value) (h : pureP P (isAgg t) = some false) (hv : cs[off]? = some v) : pureP P (part t cs off) = some v := by
  unfold part
  rw [pureP_bind P _ _ _ h]
  simp [hv]
theorem part_agg {P : Program} (t : TypeId) (cs : Array Value) (off n : Nat) (h : pureP P (isAgg t) = some true) (hn : pureP P (sizeOf t) = some n) : pureP P (part t cs off) = some (.agg (cs.extract off (off + n))) := by
  unfold part
  rw [pureP_bind P _ _ _ h]
  simp only [if_true]
  rw [pureP_bind P _ _ _ hn]
  simp
theorem agg3 : pureP Tryz.prog (isAgg 3) = some false := by kernel_rfl
theorem agg121 : pureP Tryz.prog (isAgg 121) = some true := by kernel_rfl
theorem size121 : pureP Tryz.prog (sizeOf 121) = some 2 := by kernel_rfl
theorem pe_2 (d : Nat) (t : TypeId) (n1 n2 : Field) (hu : Tryz.prog.underlying t = some (.struct #[n1, n2])) (hp : Tryz.prog.stoodInHeld t = false)
    (h1 : n1.name ≠ "_" ∧ n1.type = 3 ∧ n1.offset = 0) (h2 : n2.name ≠ "_" ∧ n2.type = 3 ∧ n2.offset = 1) (a b c e : Int) : pureP Tryz.prog (Op.equalIn (d + 2) t (.agg #[.int .i64 a, .int .i64 b]) (.agg #[.int .i64 c, .int .i64 e])) = some (decide (a = c ∧ b = e)) := by
  refine pe_struct _ _ _ _ _ _ hu hp ?_
  simp only [eqL, h1, h2]
  rw [part_cell 3 _ 0 (.int .i64 a) agg3 rfl, part_cell 3 _ 0 (.int .i64 c) agg3 rfl, part_cell 3 _ 1 (.int .i64 b) agg3 rfl, part_cell 3 _ 1 (.int .i64 e) agg3 rfl]
  simp [pe_int d 3 .i64 .i64 _ _ Tryz.underlying3]
  by_cases h : a = c <;> by_cases h' : b = e <;> simp [h, h', h1.1, h2.1]
theorem pe_3 (d : Nat) (t : TypeId) (n1 n2 n3 : Field) (hu : Tryz.prog.underlying t = some (.struct #[n1, n2, n3])) (hp : Tryz.prog.stoodInHeld t = false)
    (h1 : n1.name ≠ "_" ∧ n1.type = 3 ∧ n1.offset = 0) (h2 : n2.name ≠ "_" ∧ n2.type = 3 ∧ n2.offset = 1) (h3 : n3.name ≠ "_" ∧ n3.type = 3 ∧ n3.offset = 2) (a b c a' b' c' : Int) :
    pureP Tryz.prog (Op.equalIn (d + 2) t (.agg #[.int .i64 a, .int .i64 b, .int .i64 c]) (.agg #[.int .i64 a', .int .i64 b', .int .i64 c'])) = some (decide (a = a' ∧ b = b' ∧ c = c')) := by
  refine pe_struct _ _ _ _ _ _ hu hp ?_
  simp only [eqL, h1, h2, h3]
  rw [part_cell 3 _ 0 (.int .i64 a) agg3 rfl, part_cell 3 _ 0 (.int .i64 a') agg3 rfl, part_cell 3 _ 1 (.int .i64 b) agg3 rfl, part_cell 3 _ 1 (.int .i64 b') agg3 rfl, part_cell 3 _ 2 (.int .i64 c) agg3 rfl, part_cell 3 _ 2 (.int .i64 c') agg3 rfl]
  simp [pe_int d 3 .i64 .i64 _ _ Tryz.underlying3]
  by_cases h : a = a' <;> by_cases h' : b = b' <;> by_cases h'' : c = c' <;> simp [h, h', h'', h1.1, h2.1, h3.1]
theorem guard_no {P : Program} (t : TypeId) (x y : Operand) (xs ys : Array Value) (h : P.eqGuardType P.depth t = false) : pureP P (eqGuard .eql t x y (.agg xs) (.agg ys)) = some () := by
  unfold eqGuard
  simp only [Bool.not_true, Bool.false_eq_true, if_false]
  rw [pureP_bind P program _ P rfl, pureP_bind P program _ P rfl]
  simp [h]
theorem q_agg {P : Program} (t : TypeId) (x y : Operand) (xs ys : Array Value) (r : Bool) (h : P.eqGuardType P.depth t = false) (he : pureP P (Op.equalIn Op.maxDepth t (.agg xs) (.agg ys)) = some r) : qBinP P .eql t x y (some (.agg xs)) (some (.agg ys)) = some (.s (.bool r)) := by
  have h2 : pureP P (binOp .eql t (.agg xs) (.agg ys)) = some (.bool r) := by
    unfold binOp
    simp only [Op.equal]
    rw [pureP_bind P _ _ _ he]
    rfl
  simp only [qBinP, guard_no t x y xs ys h, bnd_some, h2]
  rfl
theorem stood71 : Tryz.prog.stoodInHeld 71 = false := by kernel_rfl
theorem stood52 : Tryz.prog.stoodInHeld 52 = false := by kernel_rfl
theorem stood121 : Tryz.prog.stoodInHeld 121 = false := by kernel_rfl
@[simp] theorem eq_rng (x y : Operand) (a b c e : Int) : qBinP Tryz.prog .eql 71 x y (some (.agg #[.int .i64 a, .int .i64 b])) (some (.agg #[.int .i64 c, .int .i64 e])) = some (.s (.bool (decide (a = c ∧ b = e)))) :=
  q_agg 71 x y _ _ _ Tryz.eqGuardType71 (pe_2 _ 71 _ _ Tryz.underlying71 stood71 (by simp) (by simp) a b c e)
@[simp] theorem eq_grabs (x y : Operand) (a b c e : Int) : qBinP Tryz.prog .eql 121 x y (some (.agg #[.int .i64 a, .int .i64 b])) (some (.agg #[.int .i64 c, .int .i64 e])) = some (.s (.bool (decide (a = c ∧ b = e)))) :=
  q_agg 121 x y _ _ _ Tryz.eqGuardType121 (pe_2 _ 121 _ _ Tryz.underlying121 stood121 (by simp) (by simp) a b c e)
@[simp] theorem eq_bd (x y : Operand) (a b c a' b' c' : Int) : qBinP Tryz.prog .eql 52 x y (some (.agg #[.int .i64 a, .int .i64 b, .int .i64 c])) (some (.agg #[.int .i64 a', .int .i64 b', .int .i64 c'])) = some (.s (.bool (decide (a = a' ∧ b = b' ∧ c = c')))) :=
  q_agg 52 x y _ _ _ Tryz.eqGuardType52 (pe_3 _ 52 _ _ _ Tryz.underlying52 stood52 (by simp) (by simp) (by simp) a b c a' b' c')
end Go.Ev
end

section
set_option linter.all false
open Go Go.Ev Go.Proofs
namespace Go.Ev
set_option linter.unusedSimpArgs false
set_option linter.unusedVariables false

/-! ### Boxes: four pairs -/
def bxA (x : List (Int × Int)) : List AV := x.flatMap fun p => [.s (.int .i64 p.1), .s (.int .i64 p.2)]
@[simp] theorem bxA_len (x : List (Int × Int)) : (bxA x).length = x.length * 2 := by
  induction x with
  | nil => rfl
  | cons a l ih => simp only [bxA, List.flatMap_cons, List.length_append, List.length_cons, List.length_nil] at ih ⊢; omega
theorem bxA_cons (p : Int × Int) (r : List (Int × Int)) : bxA (p :: r) = .s (.int .i64 p.1) :: .s (.int .i64 p.2) :: bxA r := rfl
@[simp] theorem bxA_g0 : ∀ (x : List (Int × Int)) (i : Nat), (bxA x)[i * 2]? = (x[i]?).map fun p => AV.s (.int .i64 p.1)
  | [], i => by simp [bxA]
  | p :: r, 0 => rfl
  | p :: r, i + 1 => by
    rw [bxA_cons, show (i + 1) * 2 = i * 2 + 1 + 1 by omega]
    simp only [List.getElem?_cons_succ]
    exact bxA_g0 r i
@[simp] theorem bxA_g1 : ∀ (x : List (Int × Int)) (i : Nat), (bxA x)[i * 2 + 1]? = (x[i]?).map fun p => AV.s (.int .i64 p.2)
  | [], i => by simp [bxA]
  | p :: r, 0 => rfl
  | p :: r, i + 1 => by
    rw [bxA_cons, show (i + 1) * 2 + 1 = i * 2 + 1 + 1 + 1 by omega]
    simp only [List.getElem?_cons_succ]
    exact bxA_g1 r i
@[simp] theorem bxA_e0 (x : List (Int × Int)) (i : Nat) (h : i * 2 < (bxA x).length) : (bxA x)[i * 2] = AV.s (.int .i64 (x[i]'(by simp at h; omega)).1) := by
  have hi : i < x.length := by simp at h; omega
  have := bxA_g0 x i
  rw [List.getElem?_eq_getElem h, List.getElem?_eq_getElem hi] at this
  exact Option.some.inj this
@[simp] theorem bxA_e1 (x : List (Int × Int)) (i : Nat) (h : i * 2 + 1 < (bxA x).length) : (bxA x)[i * 2 + 1] = AV.s (.int .i64 (x[i]'(by simp at h; omega)).2) := by
  have hi : i < x.length := by simp at h; omega
  have := bxA_g1 x i
  rw [List.getElem?_eq_getElem h, List.getElem?_eq_getElem hi] at this
  exact Option.some.inj this
theorem bxA_mem {x : List (Int × Int)} {a : AV} (h : a ∈ bxA x) : ∃ n, a = .s (.int .i64 n) := by
  simp only [bxA, List.mem_flatMap] at h
  obtain ⟨p, _, h⟩ := h
  simp at h
  rcases h with rfl | rfl
  · exact ⟨_, rfl⟩
  · exact ⟨_, rfl⟩
@[simp] theorem bxA_all (x : List (Int × Int)) : (bxA x).all AV.isCell = true := List.all_eq_true.2 fun a h => by obtain ⟨n, rfl⟩ := bxA_mem h; rfl
@[simp] theorem bxA_allP (x : List (Int × Int)) : (∀ a, a ∈ bxA x → a.isCell = true) ↔ True := ⟨fun _ => trivial, fun _ a h => by obtain ⟨n, rfl⟩ := bxA_mem h; rfl⟩
@[simp] theorem bxA_refs : ∀ x, refsL (bxA x) = []
  | [] => rfl
  | p :: r => by rw [bxA_cons]; simp only [refsL, AV.refs, List.nil_append]; exact bxA_refs r
@[simp] theorem bxA_mapRef (ρ : Ref → Option Ref) : ∀ x, mapRefL ρ (bxA x) = bxA x
  | [] => rfl
  | p :: r => by rw [bxA_cons]; simp only [mapRefL, AV.mapRef, bxA_mapRef ρ r]
@[simp] theorem bxA_asArg : ∀ x, asArgL (bxA x) = bxA x
  | [] => rfl
  | p :: r => by rw [bxA_cons]; simp only [asArgL, AV.asArg, bxA_asArg r]
@[simp] theorem bxA_asObj : ∀ x, asObjL (bxA x) = bxA x
  | [] => rfl
  | p :: r => by rw [bxA_cons]; simp only [asObjL, AV.asObj, bxA_asObj r]
@[simp] theorem bxA_okIn (R : Ref → Bool) (T : Nat → Bool) : ∀ x, okInL R T (bxA x) = true
  | [] => rfl
  | p :: r => by rw [bxA_cons]; simp only [okInL, AV.okIn, bxA_okIn R T r, Bool.and_self]
@[simp] theorem bxA_take (x : List (Int × Int)) (h : x.length = 4) : List.take 8 (bxA x) = bxA x := List.take_of_length_le (by simp [h])
@[simp] theorem bxA_drop8 (x : List (Int × Int)) (h : x.length = 4) : List.drop 8 (bxA x) = [] := List.drop_of_length_le (by simp [h])
theorem bxA_atm (x : List (Int × Int)) (k : Nat) (p : Int × Int) (h : x[k]? = some p) : List.take 2 (List.drop (k * 2) (bxA x)) = [.s (.int .i64 p.1), .s (.int .i64 p.2)] := by
  induction x generalizing k with
  | nil => simp at h
  | cons q r ih =>
    cases k with
    | zero => simp at h; subst h; rfl
    | succ k => rw [bxA_cons, show (k + 1) * 2 = k * 2 + 1 + 1 by omega]; simpa using ih k (by simpa using h)
def setHi : List (Int × Int) → Nat → Int → List (Int × Int)
  | [], _, _ => []
  | p :: r, 0, v => (p.1, v) :: r
  | p :: r, k + 1, v => p :: setHi r k v
def setLo : List (Int × Int) → Nat → Int → List (Int × Int)
  | [], _, _ => []
  | p :: r, 0, v => (v, p.2) :: r
  | p :: r, k + 1, v => p :: setLo r k v
@[simp] theorem setHi_len : ∀ (x : List (Int × Int)) (k : Nat) (v : Int), (setHi x k v).length = x.length
  | [], _, _ => rfl
  | p :: r, 0, v => rfl
  | p :: r, k + 1, v => by simp [setHi, setHi_len r k v]
@[simp] theorem setLo_len : ∀ (x : List (Int × Int)) (k : Nat) (v : Int), (setLo x k v).length = x.length
  | [], _, _ => rfl
  | p :: r, 0, v => rfl
  | p :: r, k + 1, v => by simp [setLo, setLo_len r k v]
theorem bx_putHi : ∀ (x : List (Int × Int)) (k : Nat) (v : Int), k < x.length → List.take (k * 2 + 1) (bxA x) ++ AV.s (.int .i64 v) :: List.drop (k * 2 + 2) (bxA x) = bxA (setHi x k v)
  | [], k, v, h => by simp at h
  | p :: r, 0, v, _ => rfl
  | p :: r, k + 1, v, h => by
    rw [bxA_cons, show (k + 1) * 2 + 1 = k * 2 + 1 + 1 + 1 by omega, show (k + 1) * 2 + 2 = k * 2 + 2 + 1 + 1 by omega]
    simp only [List.take_succ_cons, List.drop_succ_cons, List.cons_append]
    rw [bx_putHi r k v (by simpa using h)]
    rfl
theorem bx_putLo : ∀ (x : List (Int × Int)) (k : Nat) (v : Int), k < x.length → List.take (k * 2) (bxA x) ++ AV.s (.int .i64 v) :: List.drop (k * 2 + 1) (bxA x) = bxA (setLo x k v)
  | [], k, v, h => by simp at h
  | p :: r, 0, v, _ => rfl
  | p :: r, k + 1, v, h => by
    rw [bxA_cons, show (k + 1) * 2 = k * 2 + 1 + 1 by omega, show k * 2 + 1 + 1 + 1 = (k * 2 + 1) + 1 + 1 by omega]
    simp only [List.take_succ_cons, List.drop_succ_cons, List.cons_append]
    rw [bx_putLo r k v (by simpa using h)]
    rfl
def bx0 : List (Int × Int) := [(0, 0), (0, 0), (0, 0), (0, 0)]
@[simp] theorem bx0len : bx0.length = 4 := rfl
@[simp] theorem bx0drop8 : List.drop 8 (bxA bx0) = [] := rfl
@[simp] theorem bx0take8 : List.take 8 (bxA bx0) = bxA bx0 := rfl
theorem zero115b : zeroCells Tryz.prog 123 = some (bxA bx0) := by kernel_rfl
attribute [simp] zero115b
def bxV (x : List (Int × Int)) : List Value := x.flatMap fun p => [.int .i64 p.1, .int .i64 p.2]
theorem bxA_cell? : ∀ x, (bxA x).mapM AV.cell? = some (bxV x)
  | [] => rfl
  | p :: r => by
    rw [bxA_cons]
    simp only [List.mapM_cons, cell_int, bxA_cell? r]
    rfl
attribute [simp] bxA_cell?
@[simp] theorem val_bx (x : List (Int × Int)) : (AV.agg (bxA x)).val? = some (.agg (bxV x).toArray) := by
  rw [val_agg, bxA_cell?]; rfl

theorem stood123 : Tryz.prog.stoodInHeld 123 = false := by kernel_rfl
theorem pe_arr (d : Nat) (a0 b0 a1 b1 a2 b2 a3 b3 c0 e0 c1 e1 c2 e2 c3 e3 : Int) :
    pureP Tryz.prog (Op.equalIn (d + 3) 123 (.agg #[.int .i64 a0, .int .i64 b0, .int .i64 a1, .int .i64 b1, .int .i64 a2, .int .i64 b2, .int .i64 a3, .int .i64 b3]) (.agg #[.int .i64 c0, .int .i64 e0, .int .i64 c1, .int .i64 e1, .int .i64 c2, .int .i64 e2, .int .i64 c3, .int .i64 e3])) =
      some (decide ((a0 = c0 ∧ b0 = e0) ∧ (a1 = c1 ∧ b1 = e1) ∧ (a2 = c2 ∧ b2 = e2) ∧ (a3 = c3 ∧ b3 = e3))) := by
  have he : ∀ (a b c e : Int), pureP Tryz.prog (Op.equalIn (d + 2) 121 (.agg #[.int .i64 a, .int .i64 b]) (.agg #[.int .i64 c, .int .i64 e])) = some (decide (a = c ∧ b = e)) :=
    fun a b c e => pe_2 d 121 _ _ Tryz.underlying121 stood121 (by simp) (by simp) a b c e
  unfold Op.equalIn
  rw [pureP_bind _ _ _ _ (underlying_pure 123 _ Tryz.underlying123)]
  simp only []
  rw [pureP_bind _ _ _ _ size121]
  have hp : ∀ (u0 v0 u1 v1 u2 v2 u3 v3 : Int) (k : Nat) (a b : Int), (#[Value.int .i64 u0, .int .i64 v0, .int .i64 u1, .int .i64 v1, .int .i64 u2, .int .i64 v2, .int .i64 u3, .int .i64 v3].extract k (k + 2)) = #[.int .i64 a, .int .i64 b] →
      pureP Tryz.prog (part 121 #[.int .i64 u0, .int .i64 v0, .int .i64 u1, .int .i64 v1, .int .i64 u2, .int .i64 v2, .int .i64 u3, .int .i64 v3] k) = some (.agg #[.int .i64 a, .int .i64 b]) := fun u0 v0 u1 v1 u2 v2 u3 v3 k a b h => by
    rw [part_agg 121 _ k 2 agg121 size121, h]
  rw [Std.Legacy.Range.forIn_eq_forIn_range']
  show pureP Tryz.prog (forIn [0, 1, 2, 3] _ _ >>= _) = _
  simp only [List.forIn_cons, List.forIn_nil, bind_assoc]
  rw [pureP_bind _ _ _ _ (hp a0 b0 a1 b1 a2 b2 a3 b3 (0 * 2) a0 b0 rfl), pureP_bind _ _ _ _ (hp c0 e0 c1 e1 c2 e2 c3 e3 (0 * 2) c0 e0 rfl), pureP_bind _ _ _ _ (he a0 b0 c0 e0)]
  by_cases h0 : a0 = c0 ∧ b0 = e0
  · simp only [h0, and_self, decide_true, Bool.not_true, Bool.false_eq_true, if_false, pure_bind, bind_assoc]
    rw [pureP_bind _ _ _ _ (hp c0 e0 a1 b1 a2 b2 a3 b3 (1 * 2) a1 b1 rfl), pureP_bind _ _ _ _ (hp c0 e0 c1 e1 c2 e2 c3 e3 (1 * 2) c1 e1 rfl), pureP_bind _ _ _ _ (he a1 b1 c1 e1)]
    by_cases h1 : a1 = c1 ∧ b1 = e1
    · simp only [h1, and_self, decide_true, Bool.not_true, Bool.false_eq_true, if_false, pure_bind, bind_assoc]
      rw [pureP_bind _ _ _ _ (hp c0 e0 c1 e1 a2 b2 a3 b3 (2 * 2) a2 b2 rfl), pureP_bind _ _ _ _ (hp c0 e0 c1 e1 c2 e2 c3 e3 (2 * 2) c2 e2 rfl), pureP_bind _ _ _ _ (he a2 b2 c2 e2)]
      by_cases h2 : a2 = c2 ∧ b2 = e2
      · simp only [h2, and_self, decide_true, Bool.not_true, Bool.false_eq_true, if_false, pure_bind, bind_assoc]
        rw [pureP_bind _ _ _ _ (hp c0 e0 c1 e1 c2 e2 a3 b3 (3 * 2) a3 b3 rfl), pureP_bind _ _ _ _ (hp c0 e0 c1 e1 c2 e2 c3 e3 (3 * 2) c3 e3 rfl), pureP_bind _ _ _ _ (he a3 b3 c3 e3)]
        by_cases h3 : a3 = c3 ∧ b3 = e3
        · simp [h3]
        · simp [h3]
      · simp [h2]
    · simp [h1]
  · simp [h0]
theorem eq_box (x y : Operand) (u v : List (Int × Int)) (hu : u.length = 4) (hv : v.length = 4) : qBinP Tryz.prog .eql 123 x y (some (.agg (bxV u).toArray)) (some (.agg (bxV v).toArray)) = some (.s (.bool (decide (u = v)))) := by
  match u, v, hu, hv with
  | [(a0, b0), (a1, b1), (a2, b2), (a3, b3)], [(c0, e0), (c1, e1), (c2, e2), (c3, e3)], _, _ =>
    have := q_agg (P := Tryz.prog) 123 x y _ _ _ Tryz.eqGuardType123 (pe_arr _ a0 b0 a1 b1 a2 b2 a3 b3 c0 e0 c1 e1 c2 e2 c3 e3)
    simp only [bxV, List.flatMap_cons, List.flatMap_nil, List.cons_append, List.nil_append, List.append_nil]
    rw [this]
    simp
end Go.Ev
end

section
set_option linter.all false
open Go Go.Ev Go.Proofs
namespace Go.Ev
set_option linter.unusedSimpArgs false
set_option linter.unusedVariables false

theorem in_ok (a b c : Int) : ACalls Tryz.prog 48 [.s (.int .i64 a), .s (.int .i64 b), .s (.int .i64 c)] [] (.ret (.s (.bool (decide (b ≤ a) && decide (a ≤ c)))) [] []) := by
  refine acalls_of_ew Tryz.func48 rfl rfl (by simp [Tryz.f48]) (rs := [.tmp 6]) rfl ?_
  refine EW.seq fun Ψ0 n0 x0 => ?_
  refine EW.region gs_nil ?_
  simp
  refine n0 _ ?_; clear n0 x0
  refine EW.seq fun Ψ1 n1 x1 => ?_
  refine EW.region gs_nil ?_
  by_cases h : b ≤ a
  · by_cases h2 : a ≤ c
    · simp [h, h2]
      refine n1 _ ?_
      refine EW.ret ?_
      refine ⟨_, _, _, rfl, ?_, ?_, ?_, ?_, ?_⟩ <;> simp [h, h2]
    · simp [h, h2]
      refine n1 _ ?_
      refine EW.ret ?_
      refine ⟨_, _, _, rfl, ?_, ?_, ?_, ?_, ?_⟩ <;> simp [h, h2]
  · simp [h]
    refine n1 _ ?_
    refine EW.ret ?_
    refine ⟨_, _, _, rfl, ?_, ?_, ?_, ?_, ?_⟩ <;> simp [h]

theorem from_ok (a b c : Int) : ACalls Tryz.prog 35 [.s (.int .i64 a), .s (.int .i64 b), .s (.int .i64 c)] [] (.ret (.s (.bool (decide (b ≤ a) && decide (a ≤ c)))) [] []) := by
  refine acalls_of_ew Tryz.func35 rfl rfl (by simp [Tryz.f35]) (rs := [.tmp 6]) rfl ?_
  refine EW.seq fun Ψ0 n0 x0 => ?_
  refine EW.region gs_nil ?_
  simp
  refine n0 _ ?_; clear n0 x0
  refine EW.seq fun Ψ1 n1 x1 => ?_
  refine EW.region gs_nil ?_
  by_cases h : b ≤ a
  · by_cases h2 : a ≤ c
    · simp [h, h2]
      refine n1 _ ?_
      refine EW.ret ?_
      refine ⟨_, _, _, rfl, ?_, ?_, ?_, ?_, ?_⟩ <;> simp [h, h2]
    · simp [h, h2]
      refine n1 _ ?_
      refine EW.ret ?_
      refine ⟨_, _, _, rfl, ?_, ?_, ?_, ?_, ?_⟩ <;> simp [h, h2]
  · simp [h]
    refine n1 _ ?_
    refine EW.ret ?_
    refine ⟨_, _, _, rfl, ?_, ?_, ?_, ?_, ?_⟩ <;> simp [h]


def nx1 (x : Int) : Int := if x = 0 then 1 else x
def nx2 (x : Int) : Int := xorI .u64 (nx1 x) (IntKind.u64.wrap (nx1 x * 2 ^ 13))
def nx3 (x : Int) : Int := xorI .u64 (nx2 x) ((nx2 x).fdiv (2 ^ 7))
/-- The feed's next state, and its number. -/
def nxS (x : Int) : Int := xorI .u64 (nx3 x) (IntKind.u64.wrap (nx3 x * 2 ^ 17))
def nxV (x : Int) : Int := IntKind.u64.wrap (nxS x * 2685821657736338717)

theorem next_ok (x : Int) : ACalls Tryz.prog 24 [.ptr (.ext 0) 0] [[.s (.int .u64 x)]] (.ret (.s (.int .u64 (nxV x))) [[.s (.int .u64 (nxS x))]] []) := by
  refine acalls_of_ew Tryz.func24 rfl rfl (by simp [Tryz.f24]) (rs := [.tmp 2]) rfl ?_
  refine EW.seq fun Ψ0 n0 x0 => ?_
  refine EW.region gs_nil ?_
  simp
  refine n0 _ ?_; clear n0 x0
  refine EW.seq fun Ψ1 n1 x1 => ?_
  refine EW.seq fun Ψ2 n2 x2 => ?_
  refine EW.region gs_nil ?_
  simp
  refine n2 _ ?_; clear n2 x2
  refine EW.cond (t := _) (by rfl) (fun hc7 => ?_) (fun hc7 => ?_)
  · simp at hc7
    refine EW.region gs_nil ?_
    simp
    refine n1 _ ?_; clear n1 x1
    refine EW.seq fun Ψ3 n3 x3 => ?_
    refine EW.drawn [] mixed gs_nil (by kernel_rfl) ?_
    simp [q_shl]
    refine n3 _ ?_; clear n3 x3
    refine EW.seq fun Ψ4 n4 x4 => ?_
    refine EW.drawn [] mixed gs_nil (by kernel_rfl) ?_
    simp [q_shr]
    refine n4 _ ?_; clear n4 x4
    refine EW.seq fun Ψ5 n5 x5 => ?_
    refine EW.drawn [] mixed gs_nil (by kernel_rfl) ?_
    simp [q_shl]
    refine n5 _ ?_; clear n5 x5
    refine EW.seq fun Ψ6 n6 x6 => ?_
    refine EW.region gs_nil ?_
    simp
    refine n6 _ ?_; clear n6 x6
    refine EW.ret ?_
    refine ⟨_, _, _, rfl, ?_, ?_, ?_, ?_, ?_⟩ <;> simp [nxV, nxS, nx3, nx2, nx1, hc7]
  · simp at hc7
    refine EW.skip ?_
    refine n1 _ ?_; clear n1 x1
    refine EW.seq fun Ψ7 n7 x7 => ?_
    refine EW.drawn [] mixed gs_nil (by kernel_rfl) ?_
    simp [q_shl]
    refine n7 _ ?_; clear n7 x7
    refine EW.seq fun Ψ8 n8 x8 => ?_
    refine EW.drawn [] mixed gs_nil (by kernel_rfl) ?_
    simp [q_shr]
    refine n8 _ ?_; clear n8 x8
    refine EW.seq fun Ψ9 n9 x9 => ?_
    refine EW.drawn [] mixed gs_nil (by kernel_rfl) ?_
    simp [q_shl]
    refine n9 _ ?_; clear n9 x9
    refine EW.seq fun Ψ10 n10 x10 => ?_
    refine EW.region gs_nil ?_
    simp
    refine n10 _ ?_; clear n10 x10
    refine EW.ret ?_
    refine ⟨_, _, _, rfl, ?_, ?_, ?_, ?_, ?_⟩ <;> simp [nxV, nxS, nx3, nx2, nx1, hc7]


def belS (n x : Int) : Int := if n < 2 then x else nxS x
def belV (n x : Int) : Int := if n < 2 then 0 else wr (((nxV x).fdiv (2 ^ 8)).tmod (IntKind.u64.wrap n))

theorem below_ok (n x : Int) (hn : n < 9223372036854775808) : ACalls Tryz.prog 8 [.ptr (.ext 0) 0, .s (.int .i64 n)] [[.s (.int .u64 x)]] (.ret (.s (.int .i64 (belV n x))) [[.s (.int .u64 (belS n x))]] []) := by
  refine acalls_of_ew Tryz.func8 rfl rfl (by simp [Tryz.f8]) (rs := [.tmp 4]) rfl ?_
  refine EW.seq fun Ψ0 n0 x0 => ?_
  refine EW.region gs_nil ?_
  simp
  refine n0 _ ?_; clear n0 x0
  refine EW.seq fun Ψ1 n1 x1 => ?_
  refine EW.seq fun Ψ2 n2 x2 => ?_
  refine EW.region gs_nil ?_
  simp
  refine n2 _ ?_; clear n2 x2
  refine EW.cond (t := _) (by rfl) (fun hc6 => ?_) (fun hc6 => ?_)
  · simp at hc6
    refine EW.seq fun Ψ3 n3 x3 => ?_
    refine EW.region gs_nil ?_
    simp
    refine n3 _ ?_; clear n3 x3
    refine EW.ret ?_
    refine x1 _ _ rfl ?_; clear n1 x1
    refine ⟨_, _, _, rfl, ?_, ?_, ?_, ?_, ?_⟩ <;> simp [belV, belS, hc6] <;> (intros; omega)
  · simp at hc6
    have hw : IntKind.u64.wrap n = n := by simp [IntKind.wrap, IntKind.signed, IntKind.bits]; omega
    have hne : IntKind.u64.wrap n ≠ 0 := by omega
    refine EW.skip ?_
    refine n1 _ ?_; clear n1 x1
    refine EW.seq fun Ψ4 n4 x4 => ?_
    refine EW.region (gs_cons (next_ok x) gs_nil) ?_
    simp [q_shr, q_rem _ _ _ _ _ _ hne, conv_int _ _ _ _ _ _ Tryz.underlying3 Tryz.underlying55, conv_int _ _ _ _ _ _ Tryz.underlying55 Tryz.underlying3]
    refine n4 _ ?_; clear n4 x4
    refine EW.ret ?_
    refine ⟨_, _, _, rfl, ?_, ?_, ?_, ?_, ?_⟩ <;> simp [belV, belS, hc6] <;> (intros; omega)


theorem u64ge (n : Int) : 0 ≤ IntKind.u64.wrap n := by
  simp [IntKind.wrap, IntKind.signed]; omega
theorem bel_ge (n x : Int) (h : n < 9223372036854775808) : 0 ≤ belV n x := by
  unfold belV
  split
  · omega
  · have hw : IntKind.u64.wrap n = n := by simp [IntKind.wrap, IntKind.signed]; omega
    have h1 : 0 ≤ (nxV x).fdiv (2 ^ 8) := by
      rw [Int.fdiv_eq_ediv_of_nonneg _ (by decide)]
      exact Int.ediv_nonneg (u64ge _) (by decide)
    have h2 := Int.tmod_nonneg n h1
    have h3 := Int.tmod_lt_of_pos ((nxV x).fdiv (2 ^ 8)) (show 0 < n by omega)
    rw [hw, wr_small (by omega) (by omega)]
    exact h2
theorem bel_lt (n x : Int) (h1 : 1 ≤ n) (h : n < 9223372036854775808) : belV n x < n := by
  unfold belV
  split
  · omega
  · have hw : IntKind.u64.wrap n = n := by simp [IntKind.wrap, IntKind.signed]; omega
    have h1 : 0 ≤ (nxV x).fdiv (2 ^ 8) := by
      rw [Int.fdiv_eq_ediv_of_nonneg _ (by decide)]
      exact Int.ediv_nonneg (u64ge _) (by decide)
    have h2 := Int.tmod_nonneg n h1
    have h3 := Int.tmod_lt_of_pos ((nxV x).fdiv (2 ^ 8)) (show 0 < n by omega)
    rw [hw, wr_small (by omega) (by omega)]
    exact h3

def betS (lo hi x : Int) : Int := belS (wr (wr (hi - lo) + 1)) x
def betV (lo hi x : Int) : Int := wr (lo + belV (wr (wr (hi - lo) + 1)) x)

theorem between_ok (a b x : Int) : ACalls Tryz.prog 28 [.ptr (.ext 0) 0, .s (.int .i64 a), .s (.int .i64 b)] [[.s (.int .u64 x)]] (.ret (.s (.int .i64 (betV a b x))) [[.s (.int .u64 (betS a b x))]] []) := by
  refine acalls_of_ew Tryz.func28 rfl rfl (by simp [Tryz.f28]) (rs := [.tmp 6]) rfl ?_
  refine EW.seq fun Ψ0 n0 x0 => ?_
  refine EW.region gs_nil ?_
  simp
  refine n0 _ ?_; clear n0 x0
  refine EW.seq fun Ψ1 n1 x1 => ?_
  refine EW.region (gs_cons (below_ok (wr (wr (b - a) + 1)) x (wr_lt _)) gs_nil) ?_
  simp
  refine n1 _ ?_; clear n1 x1
  refine EW.ret ?_
  refine ⟨_, _, _, rfl, ?_, ?_, ?_, ?_, ?_⟩ <;> simp [betV, betS]


def eitS (l : List Int) (x : Int) : Int := if l.length = 0 then x else belS l.length x
def eitV (l : List Int) (x : Int) : Int := if l.length = 0 then 0 else l.getD (belV l.length x).toNat 0

theorem either_ok (l : List Int) (x : Int) (hl : (l.length : Int) < 9223372036854775808) : ACalls Tryz.prog 29 [.ptr (.ext 0) 0, .sl false false .U .no l.length (eInts l)] [[.s (.int .u64 x)]] (.ret (.s (.int .i64 (eitV l x))) [[.s (.int .u64 (eitS l x))]] []) := by
  refine acalls_of_ew Tryz.func29 rfl rfl (by simp [Tryz.f29]) (rs := [.tmp 4]) rfl ?_
  refine EW.seq fun Ψ0 n0 x0 => ?_
  refine EW.region gs_nil ?_
  simp
  refine n0 _ ?_; clear n0 x0
  refine EW.seq fun Ψ1 n1 x1 => ?_
  refine EW.seq fun Ψ2 n2 x2 => ?_
  refine EW.region gs_nil ?_
  simp
  refine n2 _ ?_; clear n2 x2
  refine EW.cond (t := _) (by rfl) (fun hc7 => ?_) (fun hc7 => ?_)
  · have hz : l.length = 0 := by simpa using hc7
    refine EW.seq fun Ψ3 n3 x3 => ?_
    refine EW.region gs_nil ?_
    simp
    refine n3 _ ?_; clear n3 x3
    refine EW.ret ?_
    refine x1 _ _ rfl ?_; clear n1 x1
    refine ⟨_, _, _, rfl, ?_, ?_, ?_, ?_, ?_⟩ <;> simp [eitV, eitS, *]
  · simp at hc7
    have hne : ¬ l.length = 0 := by simpa using hc7
    have b1 := bel_ge l.length x hl
    have b2 := bel_lt l.length x (by omega) hl
    have b3 : (belV l.length x).toNat < l.length := by omega
    have b4 : l[(belV l.length x).toNat]? = some l[(belV l.length x).toNat] := List.getElem?_eq_getElem b3
    refine EW.skip ?_
    refine n1 _ ?_; clear n1 x1
    refine EW.seq fun Ψ4 n4 x4 => ?_
    refine EW.region (gs_cons (below_ok l.length x hl) gs_nil) ?_
    simp [b1, b2, b4]
    refine n4 _ ?_; clear n4 x4
    refine EW.ret ?_
    refine ⟨_, _, _, rfl, ?_, ?_, ?_, ?_, ?_⟩ <;> simp [eitV, eitS, *]


def gBel : List AV → List (List AV) → Option Out
  | [.ptr (.ext 0) 0, .s (.int .i64 n)], [[.s (.int .u64 x)]] => if n < 9223372036854775808 then some (.ret (.s (.int .i64 (belV n x))) [[.s (.int .u64 (belS n x))]] []) else none
  | _, _ => none
def gBet : List AV → List (List AV) → Option Out
  | [.ptr (.ext 0) 0, .s (.int .i64 a), .s (.int .i64 b)], [[.s (.int .u64 x)]] => some (.ret (.s (.int .i64 (betV a b x))) [[.s (.int .u64 (betS a b x))]] [])
  | _, _ => none
theorem gBel_ok : ∀ a e o, gBel a e = some o → ACalls Tryz.prog 8 a e o := by
  intro a e o h
  unfold gBel at h
  split at h
  · split at h
    · cases h; exact below_ok _ _ ‹_›
    · cases h
  · cases h
theorem gBet_ok : ∀ a e o, gBet a e = some o → ACalls Tryz.prog 28 a e o := by
  intro a e o h
  unfold gBet at h
  split at h
  · cases h; exact between_ok _ _ _
  · cases h
/-- The numbers of a feed. -/
def gF (Γ : Gam) : Gam := gAlt 8 gBel (gAlt 28 gBet Γ)
theorem gF_ok {Γ : Gam} (h : Sound Tryz.prog Γ) : Sound Tryz.prog (gF Γ) := gAlt_sound gBel_ok (gAlt_sound gBet_ok h)
attribute [simp] gBel gBet gF

end Go.Ev
end

section
set_option linter.all false
open Go Go.Ev Go.Proofs
namespace Go.Ev
set_option linter.unusedSimpArgs false
set_option linter.unusedVariables false


def inB (a b c : Int) : Bool := decide (b ≤ a) && decide (a ≤ c)
def gInB : List AV → List (List AV) → Option Out
  | [.s (.int .i64 a), .s (.int .i64 b), .s (.int .i64 c)], [] => some (.ret (.s (.bool (inB a b c))) [] [])
  | _, _ => none
theorem gInB_m : ∀ a e o, gInB a e = some o → ACalls Tryz.prog 48 a e o := by
  intro a e o h
  unfold gInB at h
  split at h
  · cases h; exact in_ok _ _ _
  · cases h
theorem gInB_r : ∀ a e o, gInB a e = some o → ACalls Tryz.prog 35 a e o := by
  intro a e o h
  unfold gInB at h
  split at h
  · cases h; exact from_ok _ _ _
  · cases h
def gI (Γ : Gam) : Gam := gAlt 48 gInB (gAlt 35 gInB Γ)
theorem gI_ok {Γ : Gam} (h : Sound Tryz.prog Γ) : Sound Tryz.prog (gI Γ) := gAlt_sound gInB_m (gAlt_sound gInB_r h)
attribute [simp] gInB gI
theorem bor3 (a b c : Bool) : a = false ∨ (a = true ∧ b = false) ∨ (a = true ∧ b = true ∧ c = false) ∨ (a = true ∧ b = true ∧ c = true) := by cases a <;> cases b <;> cases c <;> simp

def rngErr (r : Int × Int) : Int := if (inB r.1 0 1000000 && inB r.2 0 1000000) = false then 1 else if r.2 < r.1 then 5 else 0
def rngsErr : List (Int × Int) → Int
  | [] => 0
  | r :: l => if rngErr r = 0 then rngsErr l else rngErr r
def binErr (nl : Nat) (b : MBin) : Int :=
  if b.grams.length = nl then
    if rngsErr b.grams = 0 then if (inB b.w 1 10000 && inB b.c 0 10000000 && inB b.g 0 6) = true then 0 else 1 else rngsErr b.grams
  else 2
def cbS (o : MOrd) (b : MBin) (k : Nat) : St :=
  St.lit 53 [(2, .ptr (.own 2) 0), (3, .ptr (.own 3) 0), (15, .sl false false .U .no b.grams.length (eRngs b.grams)), (16, .s (.int .i64 b.grams.length)), (17, .s (.int .i64 k))]
    [(2, aOrdC o), (3, [.sl false false .U .no b.grams.length (eRngs b.grams), .s (.int .i64 b.w), .s (.int .i64 b.c), .s (.int .i64 b.g)])] [] []
attribute [simp] cbS

set_option maxHeartbeats 1000000 in
theorem checkBin_ok (o : MOrd) (b : MBin) (hl : (b.grams.length : Int) < 9223372036854775807) : ACalls Tryz.prog 65 [.agg [.sl false false .U .no o.limits.length (eInts o.limits), .s (.int .i64 o.least), .s (.int .i64 o.most), .sl false false .U .no o.bins.length (eBins o.bins)], .agg [.sl false false .U .no b.grams.length (eRngs b.grams), .s (.int .i64 b.w), .s (.int .i64 b.c), .s (.int .i64 b.g)]] [] (.ret (.s (.int .i64 (binErr o.limits.length b))) [] []) := by
  refine acalls_of_ew Tryz.func65 rfl rfl (by simp [Tryz.f65]) (rs := [.tmp 4]) rfl ?_
  refine EW.seq fun Ψ0 n0 x0 => ?_
  refine EW.region gs_nil ?_
  simp
  refine n0 _ ?_; clear n0 x0
  refine EW.seq fun Ψ1 n1 x1 => ?_
  refine EW.seq fun Ψ2 n2 x2 => ?_
  refine EW.region gs_nil ?_
  simp
  refine n2 _ ?_; clear n2 x2
  refine EW.cond (t := _) (by rfl) (fun hc13 => ?_) (fun hc13 => ?_)
  · have hlen : ¬ b.grams.length = o.limits.length := by simp at hc13; omega
    have hv : binErr o.limits.length b = 2 := by simp [binErr, hlen]
    refine EW.seq fun Ψ3 n3 x3 => ?_
    refine EW.region gs_nil ?_
    simp
    refine n3 _ ?_; clear n3 x3
    refine EW.ret ?_
    refine x1 _ _ rfl ?_; clear n1 x1
    refine ⟨_, _, _, rfl, ?_, ?_, ?_, ?_, ?_⟩ <;> simp [hv]
  · have hlen : b.grams.length = o.limits.length := by simp at hc13; omega
    refine EW.skip ?_
    refine n1 _ ?_; clear n1 x1
    refine EW.seq fun Ψ4 n4 x4 => ?_
    refine EW.seq fun Ψ5 n5 x5 => ?_
    refine EW.region gs_nil ?_
    simp
    refine n5 _ ?_; clear n5 x5
    refine EW.block ?_
    refine EW.loopA (cbS o b) (fun k => k ≤ b.grams.length ∧ rngsErr (b.grams.drop k) = rngsErr b.grams) (fun k => b.grams.length - k) 0 (St.le_lit rfl (by simp) (by simp) (by simp) (by simp) (by simp)) ?_ fun p hk => ?_
    · simp
    rename Nat => k
    obtain ⟨hk, hw⟩ := hk
    refine EW.seq fun Ψ6 n6 x6 => ?_
    refine EW.region gs_nil ?_
    simp
    refine n6 _ ?_; clear n6 x6
    refine EW.seq fun Ψ7 n7 x7 => ?_
    refine EW.cond (t := _) (by rfl) (fun hc18 => ?_) (fun hc18 => ?_)
    · simp at hc18
      have e1 : b.grams[k]? = some b.grams[k] := List.getElem?_eq_getElem hc18
      refine EW.skip ?_
      refine n7 _ ?_; clear n7 x7
      refine EW.seq fun Ψ8 n8 x8 => ?_
      refine EW.block ?_
      refine EW.seq fun Ψ9 n9 x9 => ?_
      refine EW.region gs_nil ?_
      simp [hc18, e1, eRngs_atm _ _ _ _ _ e1, show 2 ≤ b.grams.length * 2 - k * 2 by omega]
      refine n9 _ ?_; clear n9 x9
      refine EW.block ?_
      refine EW.seq fun Ψ10 n10 x10 => ?_
      refine EW.seq fun Ψ11 n11 x11 => ?_
      cases q1 : inB b.grams[k].1 0 1000000
      · skip
        refine EW.region (gI_ok gs_nil) ?_
        simp [q1]
        refine n11 _ ?_; clear n11 x11
        refine EW.cond (t := _) (by rfl) (fun hc21 => ?_) (fun hc21 => ?_)
        · simp at hc21
          refine EW.skip ?_
          refine n10 _ ?_; clear n10 x10
          refine EW.cond (t := _) (by rfl) (fun hc21 => ?_) (fun hc21 => ?_)
          · simp at hc21
            have e4 : rngErr b.grams[k] = 1 := by simp [rngErr, q1]
            have hv : binErr o.limits.length b = 1 := by rw [List.drop_eq_getElem_cons hc18] at hw; simp [rngsErr, e4] at hw; simp [binErr, hlen, ← hw]
            refine EW.seq fun Ψ12 n12 x12 => ?_
            refine EW.region gs_nil ?_
            simp
            refine n12 _ ?_; clear n12 x12
            refine EW.ret ?_
            refine x8 _ _ rfl ?_; clear n8 x8
            refine x4 _ _ rfl ?_; clear n4 x4
            refine ⟨_, _, _, rfl, ?_, ?_, ?_, ?_, ?_⟩ <;> simp [hv]
          · simp at hc21
        · simp at hc21
      · skip
        refine EW.region (gI_ok gs_nil) ?_
        simp [q1]
        refine n11 _ ?_; clear n11 x11
        refine EW.cond (t := _) (by rfl) (fun hc21 => ?_) (fun hc21 => ?_)
        · simp at hc21
        · simp at hc21
          cases q2 : inB b.grams[k].2 0 1000000
          · skip
            refine EW.region (gI_ok gs_nil) ?_
            simp [q2]
            refine n10 _ ?_; clear n10 x10
            refine EW.cond (t := _) (by rfl) (fun hc21 => ?_) (fun hc21 => ?_)
            · simp at hc21
              have e4 : rngErr b.grams[k] = 1 := by simp [rngErr, q1, q2]
              have hv : binErr o.limits.length b = 1 := by rw [List.drop_eq_getElem_cons hc18] at hw; simp [rngsErr, e4] at hw; simp [binErr, hlen, ← hw]
              refine EW.seq fun Ψ13 n13 x13 => ?_
              refine EW.region gs_nil ?_
              simp
              refine n13 _ ?_; clear n13 x13
              refine EW.ret ?_
              refine x8 _ _ rfl ?_; clear n8 x8
              refine x4 _ _ rfl ?_; clear n4 x4
              refine ⟨_, _, _, rfl, ?_, ?_, ?_, ?_, ?_⟩ <;> simp [hv]
            · simp at hc21
          · skip
            refine EW.region (gI_ok gs_nil) ?_
            simp [q2]
            refine n10 _ ?_; clear n10 x10
            refine EW.cond (t := _) (by rfl) (fun hc21 => ?_) (fun hc21 => ?_)
            · simp at hc21
            · simp at hc21
              refine EW.seq fun Ψ14 n14 x14 => ?_
              refine EW.region gs_nil ?_
              simp
              refine n14 _ ?_; clear n14 x14
              refine EW.cond (t := _) (by rfl) (fun hc30 => ?_) (fun hc30 => ?_)
              · simp at hc30
                have e4 : rngErr b.grams[k] = 5 := by simp [rngErr, q1, q2, hc30]
                have hv : binErr o.limits.length b = 5 := by rw [List.drop_eq_getElem_cons hc18] at hw; simp [rngsErr, e4] at hw; simp [binErr, hlen, ← hw]
                refine EW.seq fun Ψ15 n15 x15 => ?_
                refine EW.region gs_nil ?_
                simp
                refine n15 _ ?_; clear n15 x15
                refine EW.ret ?_
                refine x8 _ _ rfl ?_; clear n8 x8
                refine x4 _ _ rfl ?_; clear n4 x4
                refine ⟨_, _, _, rfl, ?_, ?_, ?_, ?_, ?_⟩ <;> simp [hv]
              · simp at hc30
                refine EW.skip ?_
                refine n8 _ ?_; clear n8 x8
                refine EW.hide fun Ψ16 n16 => ?_
                refine EW.region gs_nil ?_
                simp
                refine n16 _ _ ?_; clear n16
                have e3 : IntKind.i64.wrap ((k : Int) + 1) = k + 1 := wr_small (by omega) (by omega)
                have e4 : rngErr b.grams[k] = 0 := by simp [rngErr, q1, q2]; omega
                refine ⟨k + 1, (St.le_lit rfl (by simp [e3]) (by simp) (by simp) (by simp) (by simp)), ?_, ?_⟩
                · refine ⟨hc18, ?_⟩
                  rw [← hw, List.drop_eq_getElem_cons hc18]; simp [rngsErr, e4]
                · omega
    · simp at hc18
      have hz : rngsErr b.grams = 0 := by rw [← hw, List.drop_of_length_le (by omega)]; rfl
      refine EW.exit ?_
      refine x7 _ _ rfl ?_; clear n7 x7
      refine n4 _ ?_; clear n4 x4
      refine EW.seq fun Ψ17 n17 x17 => ?_
      refine EW.seq fun Ψ18 n18 x18 => ?_
      rcases bor3 (inB b.w 1 10000) (inB b.c 0 10000000) (inB b.g 0 6) with q3 | ⟨q3, q4⟩ | ⟨q3, q4, q5⟩ | ⟨q3, q4, q5⟩
      · skip
        refine EW.region (gI_ok gs_nil) ?_
        simp [q3]
        have hv : binErr o.limits.length b = 1 := by simp [binErr, hlen, hz, q3]
        refine n18 _ ?_; clear n18 x18
        refine EW.cond (t := _) (by rfl) (fun hc52 => ?_) (fun hc52 => ?_)
        · simp at hc52
          refine EW.seq fun Ψ19 n19 x19 => ?_
          refine EW.region gs_nil ?_
          simp
          refine n19 _ ?_; clear n19 x19
          refine EW.ret ?_
          refine x17 _ _ rfl ?_; clear n17 x17
          refine ⟨_, _, _, rfl, ?_, ?_, ?_, ?_, ?_⟩ <;> simp [hv]
        · simp at hc52
      · skip
        refine EW.region (gI_ok gs_nil) ?_
        simp [q3, q4]
        have hv : binErr o.limits.length b = 1 := by simp [binErr, hlen, hz, q3, q4]
        refine n18 _ ?_; clear n18 x18
        refine EW.cond (t := _) (by rfl) (fun hc52 => ?_) (fun hc52 => ?_)
        · simp at hc52
          refine EW.seq fun Ψ20 n20 x20 => ?_
          refine EW.region gs_nil ?_
          simp
          refine n20 _ ?_; clear n20 x20
          refine EW.ret ?_
          refine x17 _ _ rfl ?_; clear n17 x17
          refine ⟨_, _, _, rfl, ?_, ?_, ?_, ?_, ?_⟩ <;> simp [hv]
        · simp at hc52
      · skip
        refine EW.region (gI_ok gs_nil) ?_
        simp [q3, q4, q5]
        have hv : binErr o.limits.length b = 1 := by simp [binErr, hlen, hz, q3, q4, q5]
        refine n18 _ ?_; clear n18 x18
        refine EW.cond (t := _) (by rfl) (fun hc52 => ?_) (fun hc52 => ?_)
        · simp at hc52
          refine EW.seq fun Ψ21 n21 x21 => ?_
          refine EW.region gs_nil ?_
          simp
          refine n21 _ ?_; clear n21 x21
          refine EW.ret ?_
          refine x17 _ _ rfl ?_; clear n17 x17
          refine ⟨_, _, _, rfl, ?_, ?_, ?_, ?_, ?_⟩ <;> simp [hv]
        · simp at hc52
      · skip
        refine EW.region (gI_ok gs_nil) ?_
        simp [q3, q4, q5]
        have hv : binErr o.limits.length b = 0 := by simp [binErr, hlen, hz, q3, q4, q5]
        refine n18 _ ?_; clear n18 x18
        refine EW.cond (t := _) (by rfl) (fun hc52 => ?_) (fun hc52 => ?_)
        · simp at hc52
        · simp at hc52
          refine EW.skip ?_
          refine n17 _ ?_; clear n17 x17
          refine EW.seq fun Ψ22 n22 x22 => ?_
          refine EW.region gs_nil ?_
          simp
          refine n22 _ ?_; clear n22 x22
          refine EW.ret ?_
          refine ⟨_, _, _, rfl, ?_, ?_, ?_, ?_, ?_⟩ <;> simp [hv]

end Go.Ev
end

section
set_option linter.all false
open Go Go.Ev Go.Proofs
namespace Go.Ev
set_option linter.unusedSimpArgs false
set_option linter.unusedVariables false

theorem check1_ok (n : Int) : ACalls Tryz.prog 64 [.s (.int .i64 n)] [] (.ret (.s (.bool (!inB n 0 1000000))) [] []) := by
  refine acalls_of_ew Tryz.func64 rfl rfl (by simp [Tryz.f64]) (rs := [.tmp 2]) rfl ?_
  refine EW.seq fun Ψ0 n0 x0 => ?_
  refine EW.region gs_nil ?_
  simp
  refine n0 _ ?_; clear n0 x0
  refine EW.seq fun Ψ1 n1 x1 => ?_
  refine EW.region (gI_ok gs_nil) ?_
  simp
  refine n1 _ ?_; clear n1 x1
  refine EW.ret ?_
  refine ⟨_, _, _, rfl, ?_, ?_, ?_, ?_, ?_⟩ <;> simp


def gC1 : List AV → List (List AV) → Option Out
  | [.s (.int .i64 a)], [] => some (.ret (.s (.bool (!inB a 0 1000000))) [] [])
  | _, _ => none
theorem gC1_ok : ∀ a e o, gC1 a e = some o → ACalls Tryz.prog 64 a e o := by
  intro a e o h
  unfold gC1 at h
  split at h
  · cases h; exact check1_ok _
  · cases h
attribute [simp] gC1
def badIdx : List Int → Nat → Int
  | [], _ => -1
  | n :: l, k => if inB n 0 1000000 = false then k else badIdx l (k + 1)
def anyBad (l : List Int) : Bool := l.any fun n => !inB n 0 1000000
theorem badIdx_any : ∀ (l : List Int) (k : Nat), (0 ≤ badIdx l k) ↔ anyBad l = true
  | [], k => by simp [badIdx, anyBad]
  | n :: l, k => by
    have := badIdx_any l (k + 1)
    simp only [anyBad] at this
    cases h : inB n 0 1000000
    · simp [badIdx, h, anyBad]
    · simp only [badIdx, h, anyBad, List.any_cons, Bool.not_true, Bool.false_or]
      simpa using this
def idxS (l : List Int) (k : Nat) : St :=
  St.lit 19 [(0, .sl false false .U .no l.length (eInts l)), (1, .fn 64 []), (7, .s (.int .i64 l.length)), (8, .s (.int .i64 k))] [] [] []
attribute [simp] idxS

theorem indexFunc_ok (l : List Int) (hl : (l.length : Int) < 9223372036854775807) : ACalls Tryz.prog 80 [.sl false false .U .no l.length (eInts l), .fn 64 []] [] (.ret (.s (.int .i64 (badIdx l 0))) [] []) := by
  refine acalls_of_ew Tryz.func80 rfl rfl (by simp [Tryz.f80]) (rs := [.tmp 4]) rfl ?_
  refine EW.seq fun Ψ0 n0 x0 => ?_
  refine EW.region gs_nil ?_
  simp
  refine n0 _ ?_; clear n0 x0
  refine EW.seq fun Ψ1 n1 x1 => ?_
  refine EW.seq fun Ψ2 n2 x2 => ?_
  refine EW.region gs_nil ?_
  simp
  refine n2 _ ?_; clear n2 x2
  refine EW.block ?_
  refine EW.loopA (idxS l) (fun k => k ≤ l.length ∧ badIdx (l.drop k) k = badIdx l 0) (fun k => l.length - k) 0 (St.le_lit rfl (by simp) (by simp) (by simp) (by simp) (by simp)) ?_ fun p hk => ?_
  · simp
  rename Nat => k
  obtain ⟨hk, hw⟩ := hk
  refine EW.seq fun Ψ3 n3 x3 => ?_
  refine EW.region gs_nil ?_
  simp
  refine n3 _ ?_; clear n3 x3
  refine EW.seq fun Ψ4 n4 x4 => ?_
  refine EW.cond (t := _) (by rfl) (fun hc9 => ?_) (fun hc9 => ?_)
  · simp at hc9
    have e1 : l[k]? = some l[k] := List.getElem?_eq_getElem hc9
    refine EW.skip ?_
    refine n4 _ ?_; clear n4 x4
    refine EW.seq fun Ψ5 n5 x5 => ?_
    refine EW.block ?_
    refine EW.seq fun Ψ6 n6 x6 => ?_
    refine EW.region gs_nil ?_
    simp
    refine n6 _ ?_; clear n6 x6
    refine EW.seq fun Ψ7 n7 x7 => ?_
    cases q1 : inB l[k] 0 1000000
    · skip
      refine EW.region (gAlt_sound gC1_ok gs_nil) ?_
      simp [hc9, e1, q1]
      refine n7 _ ?_; clear n7 x7
      refine EW.cond (t := _) (by rfl) (fun hc16 => ?_) (fun hc16 => ?_)
      · simp at hc16
        have hv : badIdx l 0 = k := by rw [← hw, List.drop_eq_getElem_cons hc9]; simp [badIdx, q1]
        refine EW.seq fun Ψ8 n8 x8 => ?_
        refine EW.region gs_nil ?_
        simp
        refine n8 _ ?_; clear n8 x8
        refine EW.ret ?_
        refine x5 _ _ rfl ?_; clear n5 x5
        refine x1 _ _ rfl ?_; clear n1 x1
        refine ⟨_, _, _, rfl, ?_, ?_, ?_, ?_, ?_⟩ <;> simp [hv]
      · simp at hc16
    · skip
      refine EW.region (gAlt_sound gC1_ok gs_nil) ?_
      simp [hc9, e1, q1]
      refine n7 _ ?_; clear n7 x7
      refine EW.cond (t := _) (by rfl) (fun hc16 => ?_) (fun hc16 => ?_)
      · simp at hc16
      · simp at hc16
        refine EW.skip ?_
        refine n5 _ ?_; clear n5 x5
        refine EW.hide fun Ψ9 n9 => ?_
        refine EW.region gs_nil ?_
        simp
        refine n9 _ _ ?_; clear n9
        have e3 : IntKind.i64.wrap ((k : Int) + 1) = k + 1 := wr_small (by omega) (by omega)
        refine ⟨k + 1, (St.le_lit rfl (by simp [e3]) (by simp) (by simp) (by simp) (by simp)), ?_, ?_⟩
        · refine ⟨hc9, ?_⟩
          rw [← hw, List.drop_eq_getElem_cons hc9]; simp [badIdx, q1]
        · omega
  · simp at hc9
    have hv : badIdx l 0 = -1 := by rw [← hw, List.drop_of_length_le (by omega)]; rfl
    refine EW.exit ?_
    refine x4 _ _ rfl ?_; clear n4 x4
    refine n1 _ ?_; clear n1 x1
    refine EW.seq fun Ψ10 n10 x10 => ?_
    refine EW.region gs_nil ?_
    simp
    refine n10 _ ?_; clear n10 x10
    refine EW.ret ?_
    refine ⟨_, _, _, rfl, ?_, ?_, ?_, ?_, ?_⟩ <;> simp [hv]

theorem containsFunc_ok (l : List Int) (hl : (l.length : Int) < 9223372036854775807) : ACalls Tryz.prog 63 [.sl false false .U .no l.length (eInts l), .fn 64 []] [] (.ret (.s (.bool (anyBad l))) [] []) := by
  refine acalls_of_ew Tryz.func63 rfl rfl (by simp [Tryz.f63]) (rs := [.tmp 4]) rfl ?_
  refine EW.seq fun Ψ0 n0 x0 => ?_
  refine EW.region gs_nil ?_
  simp
  refine n0 _ ?_; clear n0 x0
  refine EW.seq fun Ψ1 n1 x1 => ?_
  refine EW.region (gs_cons (indexFunc_ok l hl) gs_nil) ?_
  simp
  refine n1 _ ?_; clear n1 x1
  refine EW.ret ?_
  refine ⟨_, _, _, rfl, ?_, ?_, ?_, ?_, ?_⟩ <;> simp [badIdx_any]

end Go.Ev
end

section
set_option linter.all false
open Go Go.Ev Go.Proofs
namespace Go.Ev
set_option linter.unusedSimpArgs false
set_option linter.unusedVariables false


def binsErr (nl : Nat) : List MBin → Int
  | [] => 0
  | b :: l => if binErr nl b = 0 then binsErr nl l else binErr nl b
def ordErr (o : MOrd) : Int :=
  if 3 < o.limits.length then 6 else if anyBad o.limits = true then 1 else if (inB o.least 0 240000 && inB o.most 0 240000) = false then 1
  else if o.most < o.least then 5 else if o.bins.length = 0 then 7 else if 4 < o.bins.length then 6 else binsErr o.limits.length o.bins
def chkS (o : MOrd) (k : Nat) : St :=
  St.lit 54 [(1, .ptr (.own 1) 0), (41, .sl false false .U .no o.bins.length (eBins o.bins)), (42, .s (.int .i64 o.bins.length)), (43, .s (.int .i64 k))] [(1, aOrdC o)] [] []
attribute [simp] chkS

set_option maxHeartbeats 1000000 in
theorem check_ok (o : MOrd) (h1 : (o.limits.length : Int) < 9223372036854775807) (h2 : (o.bins.length : Int) < 9223372036854775807) (h3 : ∀ b ∈ o.bins, (b.grams.length : Int) < 9223372036854775807) : ACalls Tryz.prog 45 [.agg [.sl false false .U .no o.limits.length (eInts o.limits), .s (.int .i64 o.least), .s (.int .i64 o.most), .sl false false .U .no o.bins.length (eBins o.bins)]] [] (.ret (.s (.int .i64 (ordErr o))) [] []) := by
  refine acalls_of_ew Tryz.func45 rfl rfl (by simp [Tryz.f45]) (rs := [.tmp 2]) rfl ?_
  refine EW.seq fun Ψ0 n0 x0 => ?_
  refine EW.region gs_nil ?_
  simp
  refine n0 _ ?_; clear n0 x0
  refine EW.seq fun Ψ1 n1 x1 => ?_
  refine EW.block ?_
  refine EW.seq fun Ψ2 n2 x2 => ?_
  refine EW.region gs_nil ?_
  simp
  refine n2 _ ?_; clear n2 x2
  refine EW.cond (t := _) (by rfl) (fun hc6 => ?_) (fun hc6 => ?_)
  · have g1 : 3 < o.limits.length := by simp at hc6; omega
    have hv : ordErr o = 6 := by simp [ordErr, g1]
    refine EW.seq fun Ψ3 n3 x3 => ?_
    refine EW.region gs_nil ?_
    simp
    refine n3 _ ?_; clear n3 x3
    refine EW.ret ?_
    refine x1 _ _ rfl ?_; clear n1 x1
    refine ⟨_, _, _, rfl, ?_, ?_, ?_, ?_, ?_⟩ <;> simp [hv]
  · have g1 : ¬ 3 < o.limits.length := by simp at hc6; omega
    refine EW.seq fun Ψ4 n4 x4 => ?_
    refine EW.region (gs_cons (containsFunc_ok o.limits h1) gs_nil) ?_
    simp
    refine n4 _ ?_; clear n4 x4
    refine EW.cond (t := _) (by rfl) (fun hc11 => ?_) (fun hc11 => ?_)
    · have g2 : anyBad o.limits = true := by simpa using hc11
      have hv : ordErr o = 1 := by simp [ordErr, g1, g2]
      refine EW.seq fun Ψ5 n5 x5 => ?_
      refine EW.region gs_nil ?_
      simp
      refine n5 _ ?_; clear n5 x5
      refine EW.ret ?_
      refine x1 _ _ rfl ?_; clear n1 x1
      refine ⟨_, _, _, rfl, ?_, ?_, ?_, ?_, ?_⟩ <;> simp [hv]
    · have g2 : ¬ anyBad o.limits = true := by simpa using hc11
      refine EW.seq fun Ψ6 n6 x6 => ?_
      refine EW.seq fun Ψ7 n7 x7 => ?_
      cases q1 : inB o.least 0 240000
      · skip
        refine EW.region (gI_ok gs_nil) ?_
        simp [q1]
        refine n7 _ ?_; clear n7 x7
        refine EW.cond (t := _) (by rfl) (fun hc15 => ?_) (fun hc15 => ?_)
        · simp at hc15
          refine EW.skip ?_
          refine n6 _ ?_; clear n6 x6
          refine EW.cond (t := _) (by rfl) (fun hc15 => ?_) (fun hc15 => ?_)
          · simp at hc15
            have hv : ordErr o = 1 := by simp [ordErr, g1, g2, q1]
            refine EW.seq fun Ψ8 n8 x8 => ?_
            refine EW.region gs_nil ?_
            simp
            refine n8 _ ?_; clear n8 x8
            refine EW.ret ?_
            refine x1 _ _ rfl ?_; clear n1 x1
            refine ⟨_, _, _, rfl, ?_, ?_, ?_, ?_, ?_⟩ <;> simp [hv]
          · simp at hc15
        · simp at hc15
      · skip
        refine EW.region (gI_ok gs_nil) ?_
        simp [q1]
        refine n7 _ ?_; clear n7 x7
        refine EW.cond (t := _) (by rfl) (fun hc15 => ?_) (fun hc15 => ?_)
        · simp at hc15
        · simp at hc15
          cases q2 : inB o.most 0 240000
          · skip
            refine EW.region (gI_ok gs_nil) ?_
            simp [q2]
            refine n6 _ ?_; clear n6 x6
            refine EW.cond (t := _) (by rfl) (fun hc15 => ?_) (fun hc15 => ?_)
            · simp at hc15
              have hv : ordErr o = 1 := by simp [ordErr, g1, g2, q1, q2]
              refine EW.seq fun Ψ9 n9 x9 => ?_
              refine EW.region gs_nil ?_
              simp
              refine n9 _ ?_; clear n9 x9
              refine EW.ret ?_
              refine x1 _ _ rfl ?_; clear n1 x1
              refine ⟨_, _, _, rfl, ?_, ?_, ?_, ?_, ?_⟩ <;> simp [hv]
            · simp at hc15
          · skip
            refine EW.region (gI_ok gs_nil) ?_
            simp [q2]
            refine n6 _ ?_; clear n6 x6
            refine EW.cond (t := _) (by rfl) (fun hc15 => ?_) (fun hc15 => ?_)
            · simp at hc15
            · simp at hc15
              refine EW.seq fun Ψ10 n10 x10 => ?_
              refine EW.region gs_nil ?_
              simp
              refine n10 _ ?_; clear n10 x10
              refine EW.cond (t := _) (by rfl) (fun hc24 => ?_) (fun hc24 => ?_)
              · simp at hc24
                have hv : ordErr o = 5 := by simp [ordErr, g1, g2, q1, q2, hc24]
                refine EW.seq fun Ψ11 n11 x11 => ?_
                refine EW.region gs_nil ?_
                simp
                refine n11 _ ?_; clear n11 x11
                refine EW.ret ?_
                refine x1 _ _ rfl ?_; clear n1 x1
                refine ⟨_, _, _, rfl, ?_, ?_, ?_, ?_, ?_⟩ <;> simp [hv]
              · simp at hc24
                have g3 : ¬ o.most < o.least := by omega
                refine EW.seq fun Ψ12 n12 x12 => ?_
                refine EW.region gs_nil ?_
                simp
                refine n12 _ ?_; clear n12 x12
                refine EW.cond (t := _) (by rfl) (fun hc30 => ?_) (fun hc30 => ?_)
                · have g4 : o.bins.length = 0 := by simp at hc30; simp [hc30]
                  have hv : ordErr o = 7 := by unfold ordErr; rw [if_neg g1, if_neg g2, if_neg (by simp [q1, q2]), if_neg g3, if_pos g4]
                  refine EW.seq fun Ψ13 n13 x13 => ?_
                  refine EW.region gs_nil ?_
                  simp
                  refine n13 _ ?_; clear n13 x13
                  refine EW.ret ?_
                  refine x1 _ _ rfl ?_; clear n1 x1
                  refine ⟨_, _, _, rfl, ?_, ?_, ?_, ?_, ?_⟩ <;> simp [hv]
                · have g4 : ¬ o.bins.length = 0 := by simpa using hc30
                  refine EW.seq fun Ψ14 n14 x14 => ?_
                  refine EW.region gs_nil ?_
                  simp
                  refine n14 _ ?_; clear n14 x14
                  refine EW.cond (t := _) (by rfl) (fun hc35 => ?_) (fun hc35 => ?_)
                  · have g5 : 4 < o.bins.length := by simp at hc35; omega
                    have hv : ordErr o = 6 := by unfold ordErr; rw [if_neg g1, if_neg g2, if_neg (by simp [q1, q2]), if_neg g3, if_neg g4, if_pos g5]
                    refine EW.seq fun Ψ15 n15 x15 => ?_
                    refine EW.region gs_nil ?_
                    simp
                    refine n15 _ ?_; clear n15 x15
                    refine EW.ret ?_
                    refine x1 _ _ rfl ?_; clear n1 x1
                    refine ⟨_, _, _, rfl, ?_, ?_, ?_, ?_, ?_⟩ <;> simp [hv]
                  · have g5 : ¬ 4 < o.bins.length := by simp at hc35; omega
                    have hE : ordErr o = binsErr o.limits.length o.bins := by unfold ordErr; rw [if_neg g1, if_neg g2, if_neg (by simp [q1, q2]), if_neg g3, if_neg g4, if_neg g5]
                    refine EW.skip ?_
                    refine n1 _ ?_; clear n1 x1
                    refine EW.seq fun Ψ16 n16 x16 => ?_
                    refine EW.seq fun Ψ17 n17 x17 => ?_
                    refine EW.region gs_nil ?_
                    simp
                    refine n17 _ ?_; clear n17 x17
                    refine EW.block ?_
                    refine EW.loopA (chkS o) (fun k => k ≤ o.bins.length ∧ binsErr o.limits.length (o.bins.drop k) = binsErr o.limits.length o.bins) (fun k => o.bins.length - k) 0 (St.le_lit rfl (by simp) (by simp) (by simp) (by simp) (by simp)) ?_ fun p hk => ?_
                    · simp
                    rename Nat => k
                    obtain ⟨hk, hw⟩ := hk
                    refine EW.seq fun Ψ18 n18 x18 => ?_
                    refine EW.region gs_nil ?_
                    simp
                    refine n18 _ ?_; clear n18 x18
                    refine EW.seq fun Ψ19 n19 x19 => ?_
                    refine EW.cond (t := _) (by rfl) (fun hc44 => ?_) (fun hc44 => ?_)
                    · simp at hc44
                      have e1 : o.bins[k]? = some o.bins[k] := List.getElem?_eq_getElem hc44
                      have h4 := h3 o.bins[k] (List.getElem_mem hc44)
                      refine EW.skip ?_
                      refine n19 _ ?_; clear n19 x19
                      refine EW.seq fun Ψ20 n20 x20 => ?_
                      refine EW.block ?_
                      refine EW.seq fun Ψ21 n21 x21 => ?_
                      refine EW.region gs_nil ?_
                      simp [hc44, e1, eBins_atm _ _ _ _ _ e1, show 4 ≤ o.bins.length * 4 - k * 4 by omega]
                      refine n21 _ ?_; clear n21 x21
                      refine EW.seq fun Ψ22 n22 x22 => ?_
                      refine EW.region (gs_cons (checkBin_ok o o.bins[k] h4) gs_nil) ?_
                      simp
                      refine n22 _ ?_; clear n22 x22
                      refine EW.seq fun Ψ23 n23 x23 => ?_
                      refine EW.region gs_nil ?_
                      simp
                      refine n23 _ ?_; clear n23 x23
                      refine EW.cond (t := _) (by rfl) (fun hc51 => ?_) (fun hc51 => ?_)
                      · have g6 : ¬ binErr o.limits.length o.bins[k] = 0 := by simpa using hc51
                        have hv : ordErr o = binErr o.limits.length o.bins[k] := by rw [hE, ← hw, List.drop_eq_getElem_cons hc44]; simp [binsErr, g6]
                        refine EW.seq fun Ψ24 n24 x24 => ?_
                        refine EW.region gs_nil ?_
                        simp
                        refine n24 _ ?_; clear n24 x24
                        refine EW.ret ?_
                        refine x20 _ _ rfl ?_; clear n20 x20
                        refine x16 _ _ rfl ?_; clear n16 x16
                        refine ⟨_, _, _, rfl, ?_, ?_, ?_, ?_, ?_⟩ <;> simp [hv]
                      · have g6 : binErr o.limits.length o.bins[k] = 0 := by simpa using hc51
                        refine EW.skip ?_
                        refine n20 _ ?_; clear n20 x20
                        refine EW.hide fun Ψ25 n25 => ?_
                        refine EW.region gs_nil ?_
                        simp
                        refine n25 _ _ ?_; clear n25
                        have e3 : IntKind.i64.wrap ((k : Int) + 1) = k + 1 := wr_small (by omega) (by omega)
                        refine ⟨k + 1, (St.le_lit rfl (by simp [e3]) (by simp) (by simp) (by simp) (by simp)), ?_, ?_⟩
                        · refine ⟨hc44, ?_⟩
                          rw [← hw, List.drop_eq_getElem_cons hc44]; simp [binsErr, g6]
                        · omega
                    · simp at hc44
                      have hv : ordErr o = 0 := by rw [hE, ← hw, List.drop_of_length_le (by omega)]; rfl
                      refine EW.exit ?_
                      refine x19 _ _ rfl ?_; clear n19 x19
                      refine n16 _ ?_; clear n16 x16
                      refine EW.seq fun Ψ26 n26 x26 => ?_
                      refine EW.region gs_nil ?_
                      simp
                      refine n26 _ ?_; clear n26 x26
                      refine EW.ret ?_
                      refine ⟨_, _, _, rfl, ?_, ?_, ?_, ?_, ?_⟩ <;> simp [hv]

end Go.Ev
end

section
set_option linter.all false
open Go Go.Ev Go.Proofs
namespace Go.Ev
set_option linter.unusedSimpArgs false
set_option linter.unusedVariables false


/-- What a blend weighs, and costs. -/
def weighL (bins : List MBin) : List Int → Nat → Int → Int → Int × Int
  | [], _, k, c => (k, c)
  | n :: l, i, k, c => match bins[i]? with
    | some b => weighL bins l (i + 1) (wr (k + wr (n * b.w))) (wr (c + wr (n * b.c)))
    | none => (k, c)
def weighS (o : MOrd) (l : List Int) (p : Nat × Int × Int) : St :=
  St.lit 38 [(2, .ptr (.own 2) 0), (8, .sl false false .U .no l.length (eInts l)), (9, .s (.int .i64 l.length)), (10, .s (.int .i64 p.1)), (4, .s (.int .i64 p.2.1)), (5, .s (.int .i64 p.2.2))] [(2, aOrdC o)] [] []
attribute [simp] weighS

theorem weigh_ok (o : MOrd) (l : List Int) (hb : l.length ≤ o.bins.length) (hl : (l.length : Int) < 9223372036854775807) : ACalls Tryz.prog 47 [.agg [.sl false false .U .no o.limits.length (eInts o.limits), .s (.int .i64 o.least), .s (.int .i64 o.most), .sl false false .U .no o.bins.length (eBins o.bins)], .sl false false .U .no l.length (eInts l)] [] (.ret (.tup [.s (.int .i64 (weighL o.bins l 0 0 0).1), .s (.int .i64 (weighL o.bins l 0 0 0).2)]) [] []) := by
  refine acalls_of_ew Tryz.func47 rfl rfl (by simp [Tryz.f47]) (rs := [.tmp 4, .tmp 5]) rfl ?_
  refine EW.seq fun Ψ0 n0 x0 => ?_
  refine EW.region gs_nil ?_
  simp
  refine n0 _ ?_; clear n0 x0
  refine EW.seq fun Ψ1 n1 x1 => ?_
  refine EW.seq fun Ψ2 n2 x2 => ?_
  refine EW.region gs_nil ?_
  simp
  refine n2 _ ?_; clear n2 x2
  refine EW.block ?_
  refine EW.loopA (weighS o l) (fun p => p.1 ≤ l.length ∧ weighL o.bins (l.drop p.1) p.1 p.2.1 p.2.2 = weighL o.bins l 0 0 0) (fun p => l.length - p.1) (0, 0, 0) (St.le_lit rfl (by simp) (by simp) (by simp) (by simp) (by simp)) ?_ fun p hk => ?_
  · simp
  obtain ⟨k, a, b⟩ := p
  obtain ⟨hk, hw⟩ := hk
  simp only at hk hw
  refine EW.seq fun Ψ3 n3 x3 => ?_
  refine EW.region gs_nil ?_
  simp
  refine n3 _ ?_; clear n3 x3
  refine EW.seq fun Ψ4 n4 x4 => ?_
  refine EW.cond (t := _) (by rfl) (fun hc11 => ?_) (fun hc11 => ?_)
  · simp at hc11
    have hkl : k < o.bins.length := by omega
    have e1 : l[k]? = some l[k] := List.getElem?_eq_getElem hc11
    have e2 : o.bins[k]? = some o.bins[k] := List.getElem?_eq_getElem hkl
    refine EW.skip ?_
    refine n4 _ ?_; clear n4 x4
    refine EW.seq fun Ψ5 n5 x5 => ?_
    refine EW.block ?_
    refine EW.seq fun Ψ6 n6 x6 => ?_
    refine EW.region gs_nil ?_
    simp [hc11, e1]
    refine n6 _ ?_; clear n6 x6
    refine EW.hide fun Ψ7 n7 => ?_
    refine EW.drawn [] mixed gs_nil (by kernel_rfl) ?_
    simp [hkl, e2]
    refine n7 _ _ ?_; clear n7
    refine n5 _ ?_; clear n5 x5
    refine EW.hide fun Ψ8 n8 => ?_
    refine EW.region gs_nil ?_
    simp
    refine n8 _ _ ?_; clear n8
    have e3 : IntKind.i64.wrap ((k : Int) + 1) = k + 1 := wr_small (by omega) (by omega)
    refine ⟨(k + 1, wr (a + wr (l[k] * o.bins[k].w)), wr (b + wr (l[k] * o.bins[k].c))), (St.le_lit rfl (by simp [e3]) (by simp) (by simp) (by simp) (by simp)), ?_, ?_⟩
    · refine ⟨hc11, ?_⟩
      rw [← hw, List.drop_eq_getElem_cons hc11]; simp [weighL, hkl]
    · simp; omega
  · simp at hc11
    have hkl : k = l.length := by omega
    subst hkl
    simp [weighL] at hw
    refine EW.exit ?_
    refine x4 _ _ rfl ?_; clear n4 x4
    refine n1 _ ?_; clear n1 x1
    refine EW.seq fun Ψ9 n9 x9 => ?_
    refine EW.region gs_nil ?_
    simp
    refine n9 _ ?_; clear n9 x9
    refine EW.ret ?_
    refine ⟨_, _, _, rfl, ?_, ?_, ?_, ?_, ?_⟩ <;> simp [← hw]

end Go.Ev
end

section
set_option linter.all false
open Go Go.Ev Go.Proofs
namespace Go.Ev
set_option linter.unusedSimpArgs false
set_option linter.unusedVariables false


/-- All lists are short. -/
def szO (o : MOrd) : Prop := (o.limits.length : Int) < 1000000000 ∧ (o.bins.length : Int) < 1000000000 ∧ ∀ b ∈ o.bins, (b.grams.length : Int) < 1000000000
theorem check_ok' (o : MOrd) (h : szO o) : ACalls Tryz.prog 45 [.agg [.sl false false .U .no o.limits.length (eInts o.limits), .s (.int .i64 o.least), .s (.int .i64 o.most), .sl false false .U .no o.bins.length (eBins o.bins)]] [] (.ret (.s (.int .i64 (ordErr o))) [] []) :=
  check_ok o (by have := h.1; omega) (by have := h.2.1; omega) (fun b hb => by have := h.2.2 b hb; omega)
def grabErr (bins : List MBin) : List Int → Nat → Int
  | [], _ => 0
  | n :: l, i => match bins[i]? with
    | some b => if inB n 0 b.g = true then grabErr bins l (i + 1) else 1
    | none => 0
def blendErr (o : MOrd) (l : List Int) : Int :=
  if ordErr o = 0 then if l.length = o.bins.length then grabErr o.bins l 0 else 2 else ordErr o
def cbkS (o : MOrd) (l : List Int) (k : Nat) : St :=
  St.lit 36 [(2, .ptr (.own 2) 0), (19, .sl false false .U .no l.length (eInts l)), (20, .s (.int .i64 l.length)), (21, .s (.int .i64 k))] [(2, aOrdC o)] [] []
attribute [simp] cbkS

theorem checkBlend_ok (o : MOrd) (l : List Int) (hz : szO o) (hl : (l.length : Int) < 9223372036854775807) : ACalls Tryz.prog 42 [.agg [.sl false false .U .no o.limits.length (eInts o.limits), .s (.int .i64 o.least), .s (.int .i64 o.most), .sl false false .U .no o.bins.length (eBins o.bins)], .sl false false .U .no l.length (eInts l)] [] (.ret (.s (.int .i64 (blendErr o l))) [] []) := by
  refine acalls_of_ew Tryz.func42 rfl rfl (by simp [Tryz.f42]) (rs := [.tmp 4]) rfl ?_
  refine EW.seq fun Ψ0 n0 x0 => ?_
  refine EW.region gs_nil ?_
  simp
  refine n0 _ ?_; clear n0 x0
  refine EW.seq fun Ψ1 n1 x1 => ?_
  refine EW.seq fun Ψ2 n2 x2 => ?_
  refine EW.region (gs_cons (check_ok' o hz) gs_nil) ?_
  simp
  refine n2 _ ?_; clear n2 x2
  refine EW.seq fun Ψ3 n3 x3 => ?_
  refine EW.region gs_nil ?_
  simp
  refine n3 _ ?_; clear n3 x3
  refine EW.cond (t := _) (by rfl) (fun hc11 => ?_) (fun hc11 => ?_)
  · have g1 : ¬ ordErr o = 0 := by simpa using hc11
    have hv : blendErr o l = ordErr o := by simp [blendErr, g1]
    refine EW.seq fun Ψ4 n4 x4 => ?_
    refine EW.region gs_nil ?_
    simp
    refine n4 _ ?_; clear n4 x4
    refine EW.ret ?_
    refine x1 _ _ rfl ?_; clear n1 x1
    refine ⟨_, _, _, rfl, ?_, ?_, ?_, ?_, ?_⟩ <;> simp [hv]
  · have g1 : ordErr o = 0 := by simpa using hc11
    refine EW.skip ?_
    refine n1 _ ?_; clear n1 x1
    refine EW.seq fun Ψ5 n5 x5 => ?_
    refine EW.seq fun Ψ6 n6 x6 => ?_
    refine EW.region gs_nil ?_
    simp
    refine n6 _ ?_; clear n6 x6
    refine EW.cond (t := _) (by rfl) (fun hc18 => ?_) (fun hc18 => ?_)
    · have g2 : ¬ l.length = o.bins.length := by simp at hc18; omega
      have hv : blendErr o l = 2 := by simp [blendErr, g1, g2]
      refine EW.seq fun Ψ7 n7 x7 => ?_
      refine EW.region gs_nil ?_
      simp
      refine n7 _ ?_; clear n7 x7
      refine EW.ret ?_
      refine x5 _ _ rfl ?_; clear n5 x5
      refine ⟨_, _, _, rfl, ?_, ?_, ?_, ?_, ?_⟩ <;> simp [hv]
    · have g2 : l.length = o.bins.length := by simp at hc18; omega
      have hE : blendErr o l = grabErr o.bins l 0 := by simp [blendErr, g1, g2]
      refine EW.skip ?_
      refine n5 _ ?_; clear n5 x5
      refine EW.seq fun Ψ8 n8 x8 => ?_
      refine EW.seq fun Ψ9 n9 x9 => ?_
      refine EW.region gs_nil ?_
      simp
      refine n9 _ ?_; clear n9 x9
      refine EW.block ?_
      refine EW.loopA (cbkS o l) (fun k => k ≤ l.length ∧ grabErr o.bins (l.drop k) k = grabErr o.bins l 0) (fun k => l.length - k) 0 (St.le_lit rfl (by simp) (by simp) (by simp) (by simp) (by simp)) ?_ fun p hk => ?_
      · simp
      rename Nat => k
      obtain ⟨hk, hw⟩ := hk
      refine EW.seq fun Ψ10 n10 x10 => ?_
      refine EW.region gs_nil ?_
      simp
      refine n10 _ ?_; clear n10 x10
      refine EW.seq fun Ψ11 n11 x11 => ?_
      refine EW.cond (t := _) (by rfl) (fun hc22 => ?_) (fun hc22 => ?_)
      · simp at hc22
        have hkb : k < o.bins.length := by omega
        have e1 : l[k]? = some l[k] := List.getElem?_eq_getElem hc22
        have e2 : o.bins[k]? = some o.bins[k] := List.getElem?_eq_getElem hkb
        refine EW.skip ?_
        refine n11 _ ?_; clear n11 x11
        refine EW.seq fun Ψ12 n12 x12 => ?_
        refine EW.block ?_
        refine EW.seq fun Ψ13 n13 x13 => ?_
        refine EW.region gs_nil ?_
        simp [hc22, e1]
        refine n13 _ ?_; clear n13 x13
        refine EW.seq fun Ψ14 n14 x14 => ?_
        cases q1 : inB l[k] 0 o.bins[k].g
        · skip
          refine EW.region (gI_ok gs_nil) ?_
          simp [hkb, e2, q1]
          refine n14 _ ?_; clear n14 x14
          refine EW.cond (t := _) (by rfl) (fun hc34 => ?_) (fun hc34 => ?_)
          · simp at hc34
            have hv : blendErr o l = 1 := by rw [hE, ← hw, List.drop_eq_getElem_cons hc22]; simp [grabErr, hkb, q1]
            refine EW.seq fun Ψ15 n15 x15 => ?_
            refine EW.region gs_nil ?_
            simp
            refine n15 _ ?_; clear n15 x15
            refine EW.ret ?_
            refine x12 _ _ rfl ?_; clear n12 x12
            refine x8 _ _ rfl ?_; clear n8 x8
            refine ⟨_, _, _, rfl, ?_, ?_, ?_, ?_, ?_⟩ <;> simp [hv]
          · simp at hc34
        · skip
          refine EW.region (gI_ok gs_nil) ?_
          simp [hkb, e2, q1]
          refine n14 _ ?_; clear n14 x14
          refine EW.cond (t := _) (by rfl) (fun hc34 => ?_) (fun hc34 => ?_)
          · simp at hc34
          · simp at hc34
            refine EW.skip ?_
            refine n12 _ ?_; clear n12 x12
            refine EW.hide fun Ψ16 n16 => ?_
            refine EW.region gs_nil ?_
            simp
            refine n16 _ _ ?_; clear n16
            have e3 : IntKind.i64.wrap ((k : Int) + 1) = k + 1 := wr_small (by omega) (by omega)
            refine ⟨k + 1, (St.le_lit rfl (by simp [e3]) (by simp) (by simp) (by simp) (by simp)), ?_, ?_⟩
            · refine ⟨hc22, ?_⟩
              rw [← hw, List.drop_eq_getElem_cons hc22]; simp [grabErr, hkb, q1]
            · omega
      · simp at hc22
        have hv : blendErr o l = 0 := by rw [hE, ← hw, List.drop_of_length_le (by omega)]; rfl
        refine EW.exit ?_
        refine x11 _ _ rfl ?_; clear n11 x11
        refine n8 _ ?_; clear n8 x8
        refine EW.seq fun Ψ17 n17 x17 => ?_
        refine EW.region gs_nil ?_
        simp
        refine n17 _ ?_; clear n17 x17
        refine EW.ret ?_
        refine ⟨_, _, _, rfl, ?_, ?_, ?_, ?_, ?_⟩ <;> simp [hv]

end Go.Ev
end
