/- Lemmas for the claims of this seat: an evaluator over abstract values, its soundness, and the contracts of the functions of melt that it walks; no premise beyond what each theorem states. -/
import Derived.Test.YtdcelpomnboeoaaProg
import Derived.Test.YtdcelpomnboeoaaKD
import Derived.Test.YtdcelpomnboeoaaKE

section
set_option linter.all false
namespace Go.Ev
open Go Go.Proofs
theorem cells3 : Try.prog.cellsOf 3 = 1 := by kernel_rfl
theorem bytes3 : Try.prog.bytesOf 3 = 8 := by kernel_rfl
theorem info3 : (Try.prog.info? 3).isSome = true := by kernel_rfl
theorem zero3 : zeroCells Try.prog 3 = some [.s (.int .i64 0)] := by kernel_rfl
theorem zok3 : zeroOk Try.prog 3 = true := by kernel_rfl
attribute [simp] cells3 bytes3 info3 zero3 zok3
theorem cells4 : Try.prog.cellsOf 4 = 1 := by kernel_rfl
theorem bytes4 : Try.prog.bytesOf 4 = 1 := by kernel_rfl
theorem info4 : (Try.prog.info? 4).isSome = true := by kernel_rfl
theorem zero4 : zeroCells Try.prog 4 = some [.s (.bool false)] := by kernel_rfl
theorem zok4 : zeroOk Try.prog 4 = true := by kernel_rfl
attribute [simp] cells4 bytes4 info4 zero4 zok4
theorem cells12 : Try.prog.cellsOf 12 = 1 := by kernel_rfl
theorem bytes12 : Try.prog.bytesOf 12 = 8 := by kernel_rfl
theorem info12 : (Try.prog.info? 12).isSome = true := by kernel_rfl
theorem zero12 : zeroCells Try.prog 12 = some [.s (.int .u64 0)] := by kernel_rfl
theorem zok12 : zeroOk Try.prog 12 = true := by kernel_rfl
attribute [simp] cells12 bytes12 info12 zero12 zok12
theorem cells22 : Try.prog.cellsOf 22 = 1 := by kernel_rfl
theorem bytes22 : Try.prog.bytesOf 22 = 24 := by kernel_rfl
theorem info22 : (Try.prog.info? 22).isSome = true := by kernel_rfl
theorem zero22 : zeroCells Try.prog 22 = some [AV.nilsl] := by kernel_rfl
theorem zok22 : zeroOk Try.prog 22 = true := by kernel_rfl
attribute [simp] cells22 bytes22 info22 zero22 zok22
theorem cells23 : Try.prog.cellsOf 23 = 1 := by kernel_rfl
theorem bytes23 : Try.prog.bytesOf 23 = 24 := by kernel_rfl
theorem info23 : (Try.prog.info? 23).isSome = true := by kernel_rfl
theorem zero23 : zeroCells Try.prog 23 = some [AV.nilsl] := by kernel_rfl
theorem zok23 : zeroOk Try.prog 23 = true := by kernel_rfl
attribute [simp] cells23 bytes23 info23 zero23 zok23
theorem cells25 : Try.prog.cellsOf 25 = 4 := by kernel_rfl
theorem bytes25 : Try.prog.bytesOf 25 = 64 := by kernel_rfl
theorem info25 : (Try.prog.info? 25).isSome = true := by kernel_rfl
theorem zero25 : zeroCells Try.prog 25 = some [AV.nilsl, .s (.int .i64 0), .s (.int .i64 0), AV.nilsl] := by kernel_rfl
theorem zok25 : zeroOk Try.prog 25 = true := by kernel_rfl
attribute [simp] cells25 bytes25 info25 zero25 zok25
theorem cells31 : Try.prog.cellsOf 31 = 1 := by kernel_rfl
theorem bytes31 : Try.prog.bytesOf 31 = 24 := by kernel_rfl
theorem info31 : (Try.prog.info? 31).isSome = true := by kernel_rfl
theorem zero31 : zeroCells Try.prog 31 = some [AV.nilsl] := by kernel_rfl
theorem zok31 : zeroOk Try.prog 31 = true := by kernel_rfl
attribute [simp] cells31 bytes31 info31 zero31 zok31
theorem cells33 : Try.prog.cellsOf 33 = 1 := by kernel_rfl
theorem bytes33 : Try.prog.bytesOf 33 = 8 := by kernel_rfl
theorem info33 : (Try.prog.info? 33).isSome = true := by kernel_rfl
theorem zero33 : zeroCells Try.prog 33 = some [.s (.int .i64 0)] := by kernel_rfl
theorem zok33 : zeroOk Try.prog 33 = true := by kernel_rfl
attribute [simp] cells33 bytes33 info33 zero33 zok33
theorem cells43 : Try.prog.cellsOf 43 = 1 := by kernel_rfl
theorem bytes43 : Try.prog.bytesOf 43 = 24 := by kernel_rfl
theorem info43 : (Try.prog.info? 43).isSome = true := by kernel_rfl
theorem zero43 : zeroCells Try.prog 43 = some [AV.nilsl] := by kernel_rfl
theorem zok43 : zeroOk Try.prog 43 = true := by kernel_rfl
attribute [simp] cells43 bytes43 info43 zero43 zok43
theorem cells47 : Try.prog.cellsOf 47 = 2 := by kernel_rfl
theorem bytes47 : Try.prog.bytesOf 47 = 16 := by kernel_rfl
theorem info47 : (Try.prog.info? 47).isSome = true := by kernel_rfl
theorem zero47 : zeroCells Try.prog 47 = some [.s (.int .i64 0), .s (.int .i64 0)] := by kernel_rfl
theorem zok47 : zeroOk Try.prog 47 = true := by kernel_rfl
attribute [simp] cells47 bytes47 info47 zero47 zok47
theorem cells48 : Try.prog.cellsOf 48 = 1 := by kernel_rfl
theorem bytes48 : Try.prog.bytesOf 48 = 24 := by kernel_rfl
theorem info48 : (Try.prog.info? 48).isSome = true := by kernel_rfl
theorem zero48 : zeroCells Try.prog 48 = some [AV.nilsl] := by kernel_rfl
theorem zok48 : zeroOk Try.prog 48 = true := by kernel_rfl
attribute [simp] cells48 bytes48 info48 zero48 zok48
theorem cells50 : Try.prog.cellsOf 50 = 4 := by kernel_rfl
theorem bytes50 : Try.prog.bytesOf 50 = 48 := by kernel_rfl
theorem info50 : (Try.prog.info? 50).isSome = true := by kernel_rfl
theorem zero50 : zeroCells Try.prog 50 = some [AV.nilsl, .s (.int .i64 0), .s (.int .i64 0), .s (.int .i64 0)] := by kernel_rfl
theorem zok50 : zeroOk Try.prog 50 = true := by kernel_rfl
attribute [simp] cells50 bytes50 info50 zero50 zok50
theorem cells62 : Try.prog.cellsOf 62 = 1 := by kernel_rfl
theorem bytes62 : Try.prog.bytesOf 62 = 24 := by kernel_rfl
theorem info62 : (Try.prog.info? 62).isSome = true := by kernel_rfl
theorem zero62 : zeroCells Try.prog 62 = some [AV.nilsl] := by kernel_rfl
theorem zok62 : zeroOk Try.prog 62 = true := by kernel_rfl
attribute [simp] cells62 bytes62 info62 zero62 zok62
theorem cells64 : Try.prog.cellsOf 64 = 3 := by kernel_rfl
theorem bytes64 : Try.prog.bytesOf 64 = 24 := by kernel_rfl
theorem info64 : (Try.prog.info? 64).isSome = true := by kernel_rfl
theorem zero64 : zeroCells Try.prog 64 = some [.s (.int .i64 0), .s (.int .i64 0), .s (.int .i64 0)] := by kernel_rfl
theorem zok64 : zeroOk Try.prog 64 = true := by kernel_rfl
attribute [simp] cells64 bytes64 info64 zero64 zok64
theorem cells67 : Try.prog.cellsOf 67 = 1 := by kernel_rfl
theorem bytes67 : Try.prog.bytesOf 67 = 24 := by kernel_rfl
theorem info67 : (Try.prog.info? 67).isSome = true := by kernel_rfl
theorem zero67 : zeroCells Try.prog 67 = some [AV.nilsl] := by kernel_rfl
theorem zok67 : zeroOk Try.prog 67 = true := by kernel_rfl
attribute [simp] cells67 bytes67 info67 zero67 zok67
theorem cells77 : Try.prog.cellsOf 77 = 1 := by kernel_rfl
theorem bytes77 : Try.prog.bytesOf 77 = 8 := by kernel_rfl
theorem info77 : (Try.prog.info? 77).isSome = true := by kernel_rfl
theorem zero77 : zeroCells Try.prog 77 = some [.s (.int .u64 0)] := by kernel_rfl
theorem zok77 : zeroOk Try.prog 77 = true := by kernel_rfl
attribute [simp] cells77 bytes77 info77 zero77 zok77
theorem cells79 : Try.prog.cellsOf 79 = 1 := by kernel_rfl
theorem bytes79 : Try.prog.bytesOf 79 = 8 := by kernel_rfl
theorem info79 : (Try.prog.info? 79).isSome = true := by kernel_rfl
theorem zero79 : zeroCells Try.prog 79 = some [.s (.int .u64 0)] := by kernel_rfl
theorem zok79 : zeroOk Try.prog 79 = true := by kernel_rfl
attribute [simp] cells79 bytes79 info79 zero79 zok79
theorem cells103 : Try.prog.cellsOf 103 = 2 := by kernel_rfl
theorem bytes103 : Try.prog.bytesOf 103 = 48 := by kernel_rfl
theorem info103 : (Try.prog.info? 103).isSome = true := by kernel_rfl
theorem zero103 : zeroCells Try.prog 103 = some [AV.nilsl, AV.nilsl] := by kernel_rfl
theorem zok103 : zeroOk Try.prog 103 = true := by kernel_rfl
attribute [simp] cells103 bytes103 info103 zero103 zok103
theorem cells106 : Try.prog.cellsOf 106 = 5 := by kernel_rfl
theorem bytes106 : Try.prog.bytesOf 106 = 72 := by kernel_rfl
theorem info106 : (Try.prog.info? 106).isSome = true := by kernel_rfl
theorem zero106 : zeroCells Try.prog 106 = some [AV.nilsl, .s (.int .i64 0), .s (.int .i64 0), AV.nilsl, .s (.int .i64 0)] := by kernel_rfl
theorem zok106 : zeroOk Try.prog 106 = true := by kernel_rfl
attribute [simp] cells106 bytes106 info106 zero106 zok106
theorem cells110 : Try.prog.cellsOf 110 = 6 := by kernel_rfl
theorem bytes110 : Try.prog.bytesOf 110 = 96 := by kernel_rfl
theorem info110 : (Try.prog.info? 110).isSome = true := by kernel_rfl
theorem zero110 : zeroCells Try.prog 110 = some [AV.nilsl, .s (.int .i64 0), .s (.int .i64 0), AV.nilsl, .s (.int .i64 0), AV.nilsl] := by kernel_rfl
theorem zok110 : zeroOk Try.prog 110 = true := by kernel_rfl
attribute [simp] cells110 bytes110 info110 zero110 zok110
theorem cells113 : Try.prog.cellsOf 113 = 2 := by kernel_rfl
theorem bytes113 : Try.prog.bytesOf 113 = 16 := by kernel_rfl
theorem info113 : (Try.prog.info? 113).isSome = true := by kernel_rfl
theorem zero113 : zeroCells Try.prog 113 = some [.s (.int .i64 0), .s (.int .i64 0)] := by kernel_rfl
theorem zok113 : zeroOk Try.prog 113 = true := by kernel_rfl
attribute [simp] cells113 bytes113 info113 zero113 zok113
theorem cells115 : Try.prog.cellsOf 115 = 8 := by kernel_rfl
theorem bytes115 : Try.prog.bytesOf 115 = 64 := by kernel_rfl
theorem info115 : (Try.prog.info? 115).isSome = true := by kernel_rfl
theorem zero115 : zeroCells Try.prog 115 = some [.s (.int .i64 0), .s (.int .i64 0), .s (.int .i64 0), .s (.int .i64 0), .s (.int .i64 0), .s (.int .i64 0), .s (.int .i64 0), .s (.int .i64 0)] := by kernel_rfl
theorem zok115 : zeroOk Try.prog 115 = true := by kernel_rfl
attribute [simp] cells115 bytes115 info115 zok115
theorem cells124 : Try.prog.cellsOf 124 = 0 := by kernel_rfl
theorem bytes124 : Try.prog.bytesOf 124 = 0 := by kernel_rfl
theorem info124 : (Try.prog.info? 124).isSome = true := by kernel_rfl
theorem zero124 : zeroCells Try.prog 124 = some [] := by kernel_rfl
theorem zok124 : zeroOk Try.prog 124 = true := by kernel_rfl
attribute [simp] cells124 bytes124 info124 zero124 zok124
end Go.Ev
end

section
set_option linter.all false
open Go Go.Ev Go.Proofs
namespace Go.Ev
set_option linter.unusedSimpArgs false
set_option linter.unusedVariables false
theorem mixed : Try.prog.follows .mixedOrders = true := by kernel_rfl
/-! data -/
@[ext] structure MBin where
  grams : List (Int × Int)
  w : Int
  c : Int
  g : Int
  deriving DecidableEq
@[ext] structure MOrd where
  limits : List Int
  least : Int
  most : Int
  bins : List MBin
  deriving DecidableEq
def dI (n : Int) : D := .s (.int .i64 n)
def eInts (l : List Int) : List D := l.map dI
def eRngs (l : List (Int × Int)) : List D := l.flatMap fun r => [dI r.1, dI r.2]
def eBin (b : MBin) : List D := [.sl b.grams.length (eRngs b.grams), dI b.w, dI b.c, dI b.g]
def eBins (l : List MBin) : List D := l.flatMap eBin
def aSl (n : Nat) (cs : List D) : AV := .sl false false .U .no n cs
def aI (n : Int) : AV := .s (.int .i64 n)
def aB (b : Bool) : AV := .s (.bool b)
def aOrdC (o : MOrd) : List AV := [.sl false false .U .no o.limits.length (eInts o.limits), .s (.int .i64 o.least), .s (.int .i64 o.most), .sl false false .U .no o.bins.length (eBins o.bins)]

theorem flat_get {α : Type} (f : α → List D) (k : Nat) (hk : ∀ x, (f x).length = k) : ∀ (l : List α) (i j : Nat), j < k → (l.flatMap f)[i * k + j]? = (l[i]?).bind fun x => (f x)[j]?
  | [], i, j, h => by simp
  | x :: l, 0, j, h => by
    simp only [List.flatMap_cons, Nat.zero_mul, Nat.zero_add, List.getElem?_cons_zero, Option.bind_some]
    rw [List.getElem?_append_left (by rw [hk]; exact h)]
  | x :: l, i + 1, j, h => by
    simp only [List.flatMap_cons, List.getElem?_cons_succ]
    rw [List.getElem?_append_right (by rw [hk, Nat.succ_mul]; omega), hk, ← flat_get f k hk l i j h]
    congr 1
    rw [Nat.succ_mul]; omega
@[simp] theorem eBins_0 (l : List MBin) (i : Nat) : (eBins l)[i * 4]? = (l[i]?).map fun b => .sl b.grams.length (eRngs b.grams) := by
  have := flat_get eBin 4 (fun _ => rfl) l i 0 (by omega)
  simp only [Nat.add_zero] at this
  rw [eBins, this]; cases l[i]? <;> rfl
@[simp] theorem eBins_1 (l : List MBin) (i : Nat) : (eBins l)[i * 4 + 1]? = (l[i]?).map fun b => dI b.w := by
  rw [eBins, flat_get eBin 4 (fun _ => rfl) l i 1 (by omega)]; cases l[i]? <;> rfl
@[simp] theorem eBins_2 (l : List MBin) (i : Nat) : (eBins l)[i * 4 + 2]? = (l[i]?).map fun b => dI b.c := by
  rw [eBins, flat_get eBin 4 (fun _ => rfl) l i 2 (by omega)]; cases l[i]? <;> rfl
@[simp] theorem eBins_3 (l : List MBin) (i : Nat) : (eBins l)[i * 4 + 3]? = (l[i]?).map fun b => dI b.g := by
  rw [eBins, flat_get eBin 4 (fun _ => rfl) l i 3 (by omega)]; cases l[i]? <;> rfl
@[simp] theorem eInts_get (l : List Int) (i : Nat) : (eInts l)[i]? = (l[i]?).map dI := by simp [eInts]
attribute [simp] dI


attribute [simp] St.lit aOrdC
@[simp] theorem eInts_nil : eInts [] = [] := rfl
@[simp] theorem eInts_cons (a : Int) (l : List Int) : eInts (a :: l) = D.s (.int .i64 a) :: eInts l := rfl
@[simp] theorem eInts_len (l : List Int) : (eInts l).length = l.length := by simp [eInts]
@[simp] theorem eInts_gE (l : List Int) (i : Nat) (h : i < (eInts l).length) : (eInts l)[i] = D.s (.int .i64 (l[i]'(by simpa using h))) := by simp [eInts, dI]
theorem eInts_snoc (l : List Int) (a : Int) : eInts (l ++ [a]) = eInts l ++ [D.s (.int .i64 a)] := by simp [eInts]
@[simp] theorem eInts_app (l m : List Int) : eInts l ++ eInts m = eInts (l ++ m) := by simp [eInts]
@[simp] theorem eInts_app1 (l : List Int) (a : Int) : eInts l ++ [D.s (.int .i64 a)] = eInts (l ++ [a]) := by simp [eInts]
@[simp] theorem eRngs_nil : eRngs [] = [] := rfl
@[simp] theorem eRngs_app1 (l : List (Int × Int)) (a b : Int) : eRngs l ++ [D.s (.int .i64 a), D.s (.int .i64 b)] = eRngs (l ++ [(a, b)]) := by simp [eRngs, dI]
@[simp] theorem eRngs_app (l m : List (Int × Int)) : eRngs l ++ eRngs m = eRngs (l ++ m) := by simp [eRngs]
@[simp] theorem eRngs_len (l : List (Int × Int)) : (eRngs l).length = l.length * 2 := by
  induction l with
  | nil => rfl
  | cons a l ih => simp only [eRngs, List.flatMap_cons, List.length_append, List.length_cons, List.length_nil] at ih ⊢; omega
@[simp] theorem eRngs_0 (l : List (Int × Int)) (i : Nat) : (eRngs l)[i * 2]? = (l[i]?).map fun b => D.s (.int .i64 b.1) := by
  have := flat_get (fun r : Int × Int => [dI r.1, dI r.2]) 2 (fun _ => rfl) l i 0 (by omega)
  simp only [Nat.add_zero] at this
  rw [eRngs, this]; cases l[i]? <;> rfl
@[simp] theorem eRngs_1 (l : List (Int × Int)) (i : Nat) : (eRngs l)[i * 2 + 1]? = (l[i]?).map fun b => D.s (.int .i64 b.2) := by
  rw [eRngs, flat_get (fun r : Int × Int => [dI r.1, dI r.2]) 2 (fun _ => rfl) l i 1 (by omega)]; cases l[i]? <;> rfl
@[simp] theorem eBins_nil : eBins [] = [] := rfl
@[simp] theorem eBins_len (l : List MBin) : (eBins l).length = l.length * 4 := by
  induction l with
  | nil => rfl
  | cons a l ih => simp only [eBins, List.flatMap_cons, List.length_append, eBin, List.length_cons, List.length_nil] at ih ⊢; omega
@[simp] theorem eBins_app1 (l : List MBin) (n : Nat) (g : List (Int × Int)) (hn : n = g.length) (a b c : Int) :
    eBins l ++ [D.sl n (eRngs g), D.s (.int .i64 a), D.s (.int .i64 b), D.s (.int .i64 c)] = eBins (l ++ [⟨g, a, b, c⟩]) := by subst hn; simp [eBins, eBin, dI]

@[ext] structure MBd where
  r : Int
  a : Int
  c : Int
  deriving DecidableEq
def eBd (b : MBd) : List D := [D.s (.int .i64 b.r), D.s (.int .i64 b.a), D.s (.int .i64 b.c)]
def eBds (l : List MBd) : List D := l.flatMap eBd
@[simp] theorem eBds_nil : eBds [] = [] := rfl
@[simp] theorem eBds_cons (b : MBd) (l : List MBd) : eBds (b :: l) = D.s (.int .i64 b.r) :: D.s (.int .i64 b.a) :: D.s (.int .i64 b.c) :: eBds l := rfl
@[simp] theorem eBds_len (l : List MBd) : (eBds l).length = l.length * 3 := by
  induction l with
  | nil => rfl
  | cons a l ih => simp only [eBds, List.flatMap_cons, List.length_append, eBd, List.length_cons, List.length_nil] at ih ⊢; omega
@[simp] theorem eBds_app (l m : List MBd) : eBds l ++ eBds m = eBds (l ++ m) := by simp [eBds]
theorem eBds_0 (l : List MBd) (i : Nat) : (eBds l)[i * 3]? = (l[i]?).map fun b => D.s (.int .i64 b.r) := by
  have := flat_get eBd 3 (fun _ => rfl) l i 0 (by omega)
  simp only [Nat.add_zero] at this
  rw [eBds, this]; cases l[i]? <;> rfl
theorem eBds_1 (l : List MBd) (i : Nat) : (eBds l)[i * 3 + 1]? = (l[i]?).map fun b => D.s (.int .i64 b.a) := by
  rw [eBds, flat_get eBd 3 (fun _ => rfl) l i 1 (by omega)]; cases l[i]? <;> rfl
theorem eBds_2 (l : List MBd) (i : Nat) : (eBds l)[i * 3 + 2]? = (l[i]?).map fun b => D.s (.int .i64 b.c) := by
  rw [eBds, flat_get eBd 3 (fun _ => rfl) l i 2 (by omega)]; cases l[i]? <;> rfl
attribute [simp] eBds_0 eBds_1 eBds_2

@[simp] theorem eBins_g0 (l : List MBin) (i : Nat) (h : i * 4 < (eBins l).length) : (eBins l)[i * 4] = D.sl (l[i]'(by simp at h; omega)).grams.length (eRngs (l[i]'(by simp at h; omega)).grams) := by
  have hi : i < l.length := by simp at h; omega
  have := eBins_0 l i
  rw [List.getElem?_eq_getElem h, List.getElem?_eq_getElem hi] at this
  exact Option.some.inj this
@[simp] theorem eRngs_g0 (l : List (Int × Int)) (i : Nat) (h : i * 2 < (eRngs l).length) : (eRngs l)[i * 2] = D.s (.int .i64 (l[i]'(by simp at h; omega)).1) := by
  have hi : i < l.length := by simp at h; omega
  have := eRngs_0 l i
  rw [List.getElem?_eq_getElem h, List.getElem?_eq_getElem hi] at this
  exact Option.some.inj this
@[simp] theorem eBds_g0 (l : List MBd) (i : Nat) (h : i * 3 < (eBds l).length) : (eBds l)[i * 3] = D.s (.int .i64 (l[i]'(by simp at h; omega)).r) := by
  have hi : i < l.length := by simp at h; omega
  have := eBds_0 l i
  rw [List.getElem?_eq_getElem h, List.getElem?_eq_getElem hi] at this
  exact Option.some.inj this
/-! whole elements -/
theorem flat_take {α : Type} (f : α → List D) (k : Nat) (hk : ∀ x, (f x).length = k) : ∀ (l : List α) (i : Nat) (x : α), l[i]? = some x → ((l.flatMap f).drop (i * k)).take k = f x
  | [], i, x, h => by simp at h
  | y :: l, 0, x, h => by
    simp at h
    subst h
    simp only [Nat.zero_mul, List.drop_zero, List.flatMap_cons]
    rw [List.take_append_of_le_length (by rw [hk]; omega), List.take_of_length_le (by rw [hk]; omega)]
  | y :: l, i + 1, x, h => by
    simp only [List.flatMap_cons]
    rw [List.drop_append, List.drop_of_length_le (by rw [hk, Nat.succ_mul]; omega), List.nil_append, hk, show (i + 1) * k - k = i * k by rw [Nat.succ_mul]; omega]
    exact flat_take f k hk l i x (by simpa using h)
theorem eBins_at (l : List MBin) (i : Nat) (x : MBin) (h : l[i]? = some x) : ((eBins l).drop (i * 4)).take 4 = eBin x := flat_take eBin 4 (fun _ => rfl) l i x h
theorem eRngs_at (l : List (Int × Int)) (i : Nat) (x : Int × Int) (h : l[i]? = some x) : ((eRngs l).drop (i * 2)).take 2 = [dI x.1, dI x.2] := flat_take (fun r : Int × Int => [dI r.1, dI r.2]) 2 (fun _ => rfl) l i x h
theorem eBds_at (l : List MBd) (i : Nat) (x : MBd) (h : l[i]? = some x) : ((eBds l).drop (i * 3)).take 3 = eBd x := flat_take eBd 3 (fun _ => rfl) l i x h
theorem eRngs_atm (f g : Bool) (l : List (Int × Int)) (i : Nat) (x : Int × Int) (h : l[i]? = some x) : ((List.map (D.av f g) (eRngs l)).drop (i * 2)).take 2 = [.s (.int .i64 x.1), .s (.int .i64 x.2)] := by
  rw [← List.map_drop, ← List.map_take, eRngs_at l i x h]; rfl
theorem eBds_atm (f g : Bool) (l : List MBd) (i : Nat) (x : MBd) (h : l[i]? = some x) : ((List.map (D.av f g) (eBds l)).drop (i * 3)).take 3 = [.s (.int .i64 x.r), .s (.int .i64 x.a), .s (.int .i64 x.c)] := by
  rw [← List.map_drop, ← List.map_take, eBds_at l i x h]; rfl
theorem eBins_atm (f g : Bool) (l : List MBin) (i : Nat) (x : MBin) (h : l[i]? = some x) : ((List.map (D.av f g) (eBins l)).drop (i * 4)).take 4 = [.sl g g .U .no x.grams.length (eRngs x.grams), .s (.int .i64 x.w), .s (.int .i64 x.c), .s (.int .i64 x.g)] := by
  rw [← List.map_drop, ← List.map_take, eBins_at l i x h]; rfl
theorem wr_lt (n : Int) : wr n < 9223372036854775808 := by
  simp only [wr, IntKind.wrap, IntKind.signed, IntKind.bits]
  simp
  split <;> omega
@[simp] theorem wrap_lt (n : Int) : IntKind.i64.wrap n < 9223372036854775808 := wr_lt n
theorem wr_ge (n : Int) : -9223372036854775808 ≤ wr n := by
  simp only [wr, IntKind.wrap, IntKind.signed, IntKind.bits]
  simp
  split <;> omega
end Go.Ev
end

section
set_option linter.all false
set_option linter.unusedSimpArgs false
set_option linter.unusedVariables false
open Go Go.Ev Go.Proofs
namespace Go.Ev
theorem pe_int {P : Program} (d : Nat) (t : TypeId) (k k' : IntKind) (a b : Int) (hu : P.underlying t = some (.int k)) : pureP P (Op.equalIn (d + 1) t (.int k' a) (.int k' b)) = some (a == b) := by
  unfold Op.equalIn
  rw [pureP_bind P _ _ _ (underlying_pure t _ hu)]
  simp
def eqL (P : Program) (d : Nat) (xs ys : Array Value) : List Field → Option Bool
  | [] => some true
  | f :: fs => if f.name ≠ "_" then
      bnd (pureP P (part f.type xs f.offset)) fun a => bnd (pureP P (part f.type ys f.offset)) fun b => bnd (pureP P (Op.equalIn d f.type a b)) fun r => if r = true then eqL P d xs ys fs else some false
    else eqL P d xs ys fs
theorem pe_loop {P : Program} (d : Nat) (xs ys : Array Value) (body : Field → Option Bool × Unit → Sem (ForInStep (Option Bool × Unit)))
    (hb : ∀ f s, body f s = if f.name ≠ "_" then (do
          let a ← part f.type xs f.offset
          let b ← part f.type ys f.offset
          let e ← Op.equalIn d f.type a b
          if (!e) = true then pure (ForInStep.done (some false, ())) else pure (ForInStep.yield (none, ())))
        else pure (ForInStep.yield (none, ()))) : ∀ (fs : List Field) (r : Bool), eqL P d xs ys fs = some r →
    pureP P (forIn fs ((none : Option Bool), ()) body) = some (if r then none else some false, ())
  | [], r, h => by simp [eqL] at h; subst h; simp
  | f :: fs, r, h => by
    have ih := pe_loop (P := P) d xs ys body hb fs
    simp only [eqL] at h
    rw [List.forIn_cons, hb]
    split at h
    · rename_i hn
      obtain ⟨a, h1, h⟩ := bnd_eq h
      obtain ⟨b, h2, h⟩ := bnd_eq h
      obtain ⟨e, h3, h⟩ := bnd_eq h
      rw [if_pos hn]
      simp only [bind_assoc]
      rw [pureP_bind P _ _ _ h1, pureP_bind P _ _ _ h2, pureP_bind P _ _ _ h3]
      cases e with
      | true => simp only [Bool.not_true, Bool.false_eq_true, if_false, pure_bind]; exact ih r (by simpa using h)
      | false => simp at h; subst h; simp
    · rename_i hn
      rw [if_neg hn]
      simp only [pure_bind]
      exact ih r h
theorem pe_struct {P : Program} (d : Nat) (t : TypeId) (xs ys : Array Value) (fs : Array Field) (r : Bool) (hu : P.underlying t = some (.struct fs)) (hp : P.stoodInHeld t = false) (h : eqL P d xs ys fs.toList = some r) :
    pureP P (Op.equalIn (d + 1) t (.agg xs) (.agg ys)) = some r := by
  unfold Op.equalIn
  rw [pureP_bind P _ _ _ (underlying_pure t _ hu)]
  simp only []
  rw [pureP_bind P program _ P rfl]
  simp only [hp, Bool.false_eq_true, if_false]
  rw [← Array.forIn_toList, pureP_bind P _ _ _ (pe_loop d xs ys _ (fun _ _ => rfl) fs.toList r h)]
  cases r <;> rfl
theorem part_cell {P : Program} (t : TypeId) (cs : Array Value) (off : Nat) (v : Value) (h : pureP P (isAgg t) = some false) (hv : cs[off]? = some v) : pureP P (part t cs off) = some v := by
  unfold part
  rw [pureP_bind P _ _ _ h]
  simp [hv]
theorem part_agg {P : Program} (t : TypeId) (cs : Array Value) (off n : Nat) (h : pureP P (isAgg t) = some true) (hn : pureP P (sizeOf t) = some n) : pureP P (part t cs off) = some (.agg (cs.extract off (off + n))) := by
  unfold part
  rw [pureP_bind P _ _ _ h]
  simp only [if_true]
  rw [pureP_bind P _ _ _ hn]
  simp
theorem agg3 : pureP Try.prog (isAgg 3) = some false := by kernel_rfl
theorem agg113 : pureP Try.prog (isAgg 113) = some true := by kernel_rfl
theorem size113 : pureP Try.prog (sizeOf 113) = some 2 := by kernel_rfl
theorem pe_2 (d : Nat) (t : TypeId) (n1 n2 : Field) (hu : Try.prog.underlying t = some (.struct #[n1, n2])) (hp : Try.prog.stoodInHeld t = false)
    (h1 : n1.name ≠ "_" ∧ n1.type = 3 ∧ n1.offset = 0) (h2 : n2.name ≠ "_" ∧ n2.type = 3 ∧ n2.offset = 1) (a b c e : Int) : pureP Try.prog (Op.equalIn (d + 2) t (.agg #[.int .i64 a, .int .i64 b]) (.agg #[.int .i64 c, .int .i64 e])) = some (decide (a = c ∧ b = e)) := by
  refine pe_struct _ _ _ _ _ _ hu hp ?_
  simp only [eqL, h1, h2]
  rw [part_cell 3 _ 0 (.int .i64 a) agg3 rfl, part_cell 3 _ 0 (.int .i64 c) agg3 rfl, part_cell 3 _ 1 (.int .i64 b) agg3 rfl, part_cell 3 _ 1 (.int .i64 e) agg3 rfl]
  simp [pe_int d 3 .i64 .i64 _ _ Try.underlying3]
  by_cases h : a = c <;> by_cases h' : b = e <;> simp [h, h', h1.1, h2.1]
theorem pe_3 (d : Nat) (t : TypeId) (n1 n2 n3 : Field) (hu : Try.prog.underlying t = some (.struct #[n1, n2, n3])) (hp : Try.prog.stoodInHeld t = false)
    (h1 : n1.name ≠ "_" ∧ n1.type = 3 ∧ n1.offset = 0) (h2 : n2.name ≠ "_" ∧ n2.type = 3 ∧ n2.offset = 1) (h3 : n3.name ≠ "_" ∧ n3.type = 3 ∧ n3.offset = 2) (a b c a' b' c' : Int) :
    pureP Try.prog (Op.equalIn (d + 2) t (.agg #[.int .i64 a, .int .i64 b, .int .i64 c]) (.agg #[.int .i64 a', .int .i64 b', .int .i64 c'])) = some (decide (a = a' ∧ b = b' ∧ c = c')) := by
  refine pe_struct _ _ _ _ _ _ hu hp ?_
  simp only [eqL, h1, h2, h3]
  rw [part_cell 3 _ 0 (.int .i64 a) agg3 rfl, part_cell 3 _ 0 (.int .i64 a') agg3 rfl, part_cell 3 _ 1 (.int .i64 b) agg3 rfl, part_cell 3 _ 1 (.int .i64 b') agg3 rfl, part_cell 3 _ 2 (.int .i64 c) agg3 rfl, part_cell 3 _ 2 (.int .i64 c') agg3 rfl]
  simp [pe_int d 3 .i64 .i64 _ _ Try.underlying3]
  by_cases h : a = a' <;> by_cases h' : b = b' <;> by_cases h'' : c = c' <;> simp [h, h', h'', h1.1, h2.1, h3.1]
theorem guard_no {P : Program} (t : TypeId) (x y : Operand) (xs ys : Array Value) (h : P.eqGuardType P.depth t = false) : pureP P (eqGuard .eql t x y (.agg xs) (.agg ys)) = some () := by
  unfold eqGuard
  simp only [Bool.not_true, Bool.false_eq_true, if_false]
  rw [pureP_bind P program _ P rfl, pureP_bind P program _ P rfl]
  simp [h]
theorem q_agg {P : Program} (t : TypeId) (x y : Operand) (xs ys : Array Value) (r : Bool) (h : P.eqGuardType P.depth t = false) (he : pureP P (Op.equalIn Op.maxDepth t (.agg xs) (.agg ys)) = some r) : qBinP P .eql t x y (some (.agg xs)) (some (.agg ys)) = some (.s (.bool r)) := by
  have h2 : pureP P (binOp .eql t (.agg xs) (.agg ys)) = some (.bool r) := by
    unfold binOp
    simp only [Op.equal]
    rw [pureP_bind P _ _ _ he]
    rfl
  simp only [qBinP, guard_no t x y xs ys h, bnd_some, h2]
  rfl
theorem stood47 : Try.prog.stoodInHeld 47 = false := by kernel_rfl
theorem stood64 : Try.prog.stoodInHeld 64 = false := by kernel_rfl
theorem stood113 : Try.prog.stoodInHeld 113 = false := by kernel_rfl
@[simp] theorem eq_rng (x y : Operand) (a b c e : Int) : qBinP Try.prog .eql 47 x y (some (.agg #[.int .i64 a, .int .i64 b])) (some (.agg #[.int .i64 c, .int .i64 e])) = some (.s (.bool (decide (a = c ∧ b = e)))) :=
  q_agg 47 x y _ _ _ Try.eqGuardType47 (pe_2 _ 47 _ _ Try.underlying47 stood47 (by simp) (by simp) a b c e)
@[simp] theorem eq_grabs (x y : Operand) (a b c e : Int) : qBinP Try.prog .eql 113 x y (some (.agg #[.int .i64 a, .int .i64 b])) (some (.agg #[.int .i64 c, .int .i64 e])) = some (.s (.bool (decide (a = c ∧ b = e)))) :=
  q_agg 113 x y _ _ _ Try.eqGuardType113 (pe_2 _ 113 _ _ Try.underlying113 stood113 (by simp) (by simp) a b c e)
@[simp] theorem eq_bd (x y : Operand) (a b c a' b' c' : Int) : qBinP Try.prog .eql 64 x y (some (.agg #[.int .i64 a, .int .i64 b, .int .i64 c])) (some (.agg #[.int .i64 a', .int .i64 b', .int .i64 c'])) = some (.s (.bool (decide (a = a' ∧ b = b' ∧ c = c')))) :=
  q_agg 64 x y _ _ _ Try.eqGuardType64 (pe_3 _ 64 _ _ _ Try.underlying64 stood64 (by simp) (by simp) (by simp) a b c a' b' c')
end Go.Ev
end

section
set_option linter.all false
open Go Go.Ev Go.Proofs
namespace Go.Ev
set_option linter.unusedSimpArgs false
set_option linter.unusedVariables false

theorem in_ok (a b c : Int) : ACalls Try.prog 56 [.s (.int .i64 a), .s (.int .i64 b), .s (.int .i64 c)] [] (.ret (.s (.bool (decide (b ≤ a) && decide (a ≤ c)))) [] []) := by
  refine acalls_of_ew Try.func56 rfl rfl (by simp [Try.f56]) (rs := [.tmp 6]) rfl ?_
  refine EW.seq fun Ψ0 n0 x0 => ?_
  refine EW.region gs_nil ?_
  simp
  refine n0 _ ?_; clear n0 x0
  refine EW.seq fun Ψ1 n1 x1 => ?_
  refine EW.region gs_nil ?_
  by_cases h : b ≤ a
  · by_cases h2 : a ≤ c
    · simp [h, h2]
      refine n1 _ ?_
      refine EW.ret ?_
      refine ⟨_, _, _, rfl, ?_, ?_, ?_, ?_, ?_⟩ <;> simp [h, h2]
    · simp [h, h2]
      refine n1 _ ?_
      refine EW.ret ?_
      refine ⟨_, _, _, rfl, ?_, ?_, ?_, ?_, ?_⟩ <;> simp [h, h2]
  · simp [h]
    refine n1 _ ?_
    refine EW.ret ?_
    refine ⟨_, _, _, rfl, ?_, ?_, ?_, ?_, ?_⟩ <;> simp [h]

theorem from_ok (a b c : Int) : ACalls Try.prog 68 [.s (.int .i64 a), .s (.int .i64 b), .s (.int .i64 c)] [] (.ret (.s (.bool (decide (b ≤ a) && decide (a ≤ c)))) [] []) := by
  refine acalls_of_ew Try.func68 rfl rfl (by simp [Try.f68]) (rs := [.tmp 6]) rfl ?_
  refine EW.seq fun Ψ0 n0 x0 => ?_
  refine EW.region gs_nil ?_
  simp
  refine n0 _ ?_; clear n0 x0
  refine EW.seq fun Ψ1 n1 x1 => ?_
  refine EW.region gs_nil ?_
  by_cases h : b ≤ a
  · by_cases h2 : a ≤ c
    · simp [h, h2]
      refine n1 _ ?_
      refine EW.ret ?_
      refine ⟨_, _, _, rfl, ?_, ?_, ?_, ?_, ?_⟩ <;> simp [h, h2]
    · simp [h, h2]
      refine n1 _ ?_
      refine EW.ret ?_
      refine ⟨_, _, _, rfl, ?_, ?_, ?_, ?_, ?_⟩ <;> simp [h, h2]
  · simp [h]
    refine n1 _ ?_
    refine EW.ret ?_
    refine ⟨_, _, _, rfl, ?_, ?_, ?_, ?_, ?_⟩ <;> simp [h]


def nx1 (x : Int) : Int := if x = 0 then 1 else x
def nx2 (x : Int) : Int := xorI .u64 (nx1 x) (IntKind.u64.wrap (nx1 x * 2 ^ 13))
def nx3 (x : Int) : Int := xorI .u64 (nx2 x) ((nx2 x).fdiv (2 ^ 7))
/-- The feed's next state, and its number. -/
def nxS (x : Int) : Int := xorI .u64 (nx3 x) (IntKind.u64.wrap (nx3 x * 2 ^ 17))
def nxV (x : Int) : Int := IntKind.u64.wrap (nxS x * 2685821657736338717)

theorem next_ok (x : Int) : ACalls Try.prog 51 [.ptr (.ext 0) 0] [[.s (.int .u64 x)]] (.ret (.s (.int .u64 (nxV x))) [[.s (.int .u64 (nxS x))]] []) := by
  refine acalls_of_ew Try.func51 rfl rfl (by simp [Try.f51]) (rs := [.tmp 2]) rfl ?_
  refine EW.seq fun Ψ0 n0 x0 => ?_
  refine EW.region gs_nil ?_
  simp
  refine n0 _ ?_; clear n0 x0
  refine EW.seq fun Ψ1 n1 x1 => ?_
  refine EW.seq fun Ψ2 n2 x2 => ?_
  refine EW.region gs_nil ?_
  simp
  refine n2 _ ?_; clear n2 x2
  refine EW.cond (t := _) (by rfl) (fun hc7 => ?_) (fun hc7 => ?_)
  · simp at hc7
    refine EW.region gs_nil ?_
    simp
    refine n1 _ ?_; clear n1 x1
    refine EW.seq fun Ψ3 n3 x3 => ?_
    refine EW.drawn [] mixed gs_nil (by kernel_rfl) ?_
    simp [q_shl]
    refine n3 _ ?_; clear n3 x3
    refine EW.seq fun Ψ4 n4 x4 => ?_
    refine EW.drawn [] mixed gs_nil (by kernel_rfl) ?_
    simp [q_shr]
    refine n4 _ ?_; clear n4 x4
    refine EW.seq fun Ψ5 n5 x5 => ?_
    refine EW.drawn [] mixed gs_nil (by kernel_rfl) ?_
    simp [q_shl]
    refine n5 _ ?_; clear n5 x5
    refine EW.seq fun Ψ6 n6 x6 => ?_
    refine EW.region gs_nil ?_
    simp
    refine n6 _ ?_; clear n6 x6
    refine EW.ret ?_
    refine ⟨_, _, _, rfl, ?_, ?_, ?_, ?_, ?_⟩ <;> simp [nxV, nxS, nx3, nx2, nx1, hc7]
  · simp at hc7
    refine EW.skip ?_
    refine n1 _ ?_; clear n1 x1
    refine EW.seq fun Ψ7 n7 x7 => ?_
    refine EW.drawn [] mixed gs_nil (by kernel_rfl) ?_
    simp [q_shl]
    refine n7 _ ?_; clear n7 x7
    refine EW.seq fun Ψ8 n8 x8 => ?_
    refine EW.drawn [] mixed gs_nil (by kernel_rfl) ?_
    simp [q_shr]
    refine n8 _ ?_; clear n8 x8
    refine EW.seq fun Ψ9 n9 x9 => ?_
    refine EW.drawn [] mixed gs_nil (by kernel_rfl) ?_
    simp [q_shl]
    refine n9 _ ?_; clear n9 x9
    refine EW.seq fun Ψ10 n10 x10 => ?_
    refine EW.region gs_nil ?_
    simp
    refine n10 _ ?_; clear n10 x10
    refine EW.ret ?_
    refine ⟨_, _, _, rfl, ?_, ?_, ?_, ?_, ?_⟩ <;> simp [nxV, nxS, nx3, nx2, nx1, hc7]


def belS (n x : Int) : Int := if n < 2 then x else nxS x
def belV (n x : Int) : Int := if n < 2 then 0 else wr (((nxV x).fdiv (2 ^ 8)).tmod (IntKind.u64.wrap n))

theorem below_ok (n x : Int) (hn : n < 9223372036854775808) : ACalls Try.prog 28 [.ptr (.ext 0) 0, .s (.int .i64 n)] [[.s (.int .u64 x)]] (.ret (.s (.int .i64 (belV n x))) [[.s (.int .u64 (belS n x))]] []) := by
  refine acalls_of_ew Try.func28 rfl rfl (by simp [Try.f28]) (rs := [.tmp 4]) rfl ?_
  refine EW.seq fun Ψ0 n0 x0 => ?_
  refine EW.region gs_nil ?_
  simp
  refine n0 _ ?_; clear n0 x0
  refine EW.seq fun Ψ1 n1 x1 => ?_
  refine EW.seq fun Ψ2 n2 x2 => ?_
  refine EW.region gs_nil ?_
  simp
  refine n2 _ ?_; clear n2 x2
  refine EW.cond (t := _) (by rfl) (fun hc6 => ?_) (fun hc6 => ?_)
  · simp at hc6
    refine EW.seq fun Ψ3 n3 x3 => ?_
    refine EW.region gs_nil ?_
    simp
    refine n3 _ ?_; clear n3 x3
    refine EW.ret ?_
    refine x1 _ _ rfl ?_; clear n1 x1
    refine ⟨_, _, _, rfl, ?_, ?_, ?_, ?_, ?_⟩ <;> simp [belV, belS, hc6] <;> (intros; omega)
  · simp at hc6
    have hw : IntKind.u64.wrap n = n := by simp [IntKind.wrap, IntKind.signed, IntKind.bits]; omega
    have hne : IntKind.u64.wrap n ≠ 0 := by omega
    refine EW.skip ?_
    refine n1 _ ?_; clear n1 x1
    refine EW.seq fun Ψ4 n4 x4 => ?_
    refine EW.region (gs_cons (next_ok x) gs_nil) ?_
    simp [q_shr, q_rem _ _ _ _ _ _ hne, conv_int _ _ _ _ _ _ Try.underlying3 Try.underlying77, conv_int _ _ _ _ _ _ Try.underlying77 Try.underlying3]
    refine n4 _ ?_; clear n4 x4
    refine EW.ret ?_
    refine ⟨_, _, _, rfl, ?_, ?_, ?_, ?_, ?_⟩ <;> simp [belV, belS, hc6] <;> (intros; omega)


theorem u64ge (n : Int) : 0 ≤ IntKind.u64.wrap n := by
  simp [IntKind.wrap, IntKind.signed]; omega
theorem bel_ge (n x : Int) (h : n < 9223372036854775808) : 0 ≤ belV n x := by
  unfold belV
  split
  · omega
  · have hw : IntKind.u64.wrap n = n := by simp [IntKind.wrap, IntKind.signed]; omega
    have h1 : 0 ≤ (nxV x).fdiv (2 ^ 8) := by
      rw [Int.fdiv_eq_ediv_of_nonneg _ (by decide)]
      exact Int.ediv_nonneg (u64ge _) (by decide)
    have h2 := Int.tmod_nonneg n h1
    have h3 := Int.tmod_lt_of_pos ((nxV x).fdiv (2 ^ 8)) (show 0 < n by omega)
    rw [hw, wr_small (by omega) (by omega)]
    exact h2
theorem bel_lt (n x : Int) (h1 : 1 ≤ n) (h : n < 9223372036854775808) : belV n x < n := by
  unfold belV
  split
  · omega
  · have hw : IntKind.u64.wrap n = n := by simp [IntKind.wrap, IntKind.signed]; omega
    have h1 : 0 ≤ (nxV x).fdiv (2 ^ 8) := by
      rw [Int.fdiv_eq_ediv_of_nonneg _ (by decide)]
      exact Int.ediv_nonneg (u64ge _) (by decide)
    have h2 := Int.tmod_nonneg n h1
    have h3 := Int.tmod_lt_of_pos ((nxV x).fdiv (2 ^ 8)) (show 0 < n by omega)
    rw [hw, wr_small (by omega) (by omega)]
    exact h3

def betS (lo hi x : Int) : Int := belS (wr (wr (hi - lo) + 1)) x
def betV (lo hi x : Int) : Int := wr (lo + belV (wr (wr (hi - lo) + 1)) x)

theorem between_ok (a b x : Int) : ACalls Try.prog 29 [.ptr (.ext 0) 0, .s (.int .i64 a), .s (.int .i64 b)] [[.s (.int .u64 x)]] (.ret (.s (.int .i64 (betV a b x))) [[.s (.int .u64 (betS a b x))]] []) := by
  refine acalls_of_ew Try.func29 rfl rfl (by simp [Try.f29]) (rs := [.tmp 6]) rfl ?_
  refine EW.seq fun Ψ0 n0 x0 => ?_
  refine EW.region gs_nil ?_
  simp
  refine n0 _ ?_; clear n0 x0
  refine EW.seq fun Ψ1 n1 x1 => ?_
  refine EW.region (gs_cons (below_ok (wr (wr (b - a) + 1)) x (wr_lt _)) gs_nil) ?_
  simp
  refine n1 _ ?_; clear n1 x1
  refine EW.ret ?_
  refine ⟨_, _, _, rfl, ?_, ?_, ?_, ?_, ?_⟩ <;> simp [betV, betS]


def eitS (l : List Int) (x : Int) : Int := if l.length = 0 then x else belS l.length x
def eitV (l : List Int) (x : Int) : Int := if l.length = 0 then 0 else l.getD (belV l.length x).toNat 0

theorem either_ok (l : List Int) (x : Int) (hl : (l.length : Int) < 9223372036854775808) : ACalls Try.prog 27 [.ptr (.ext 0) 0, .sl false false .U .no l.length (eInts l)] [[.s (.int .u64 x)]] (.ret (.s (.int .i64 (eitV l x))) [[.s (.int .u64 (eitS l x))]] []) := by
  refine acalls_of_ew Try.func27 rfl rfl (by simp [Try.f27]) (rs := [.tmp 4]) rfl ?_
  refine EW.seq fun Ψ0 n0 x0 => ?_
  refine EW.region gs_nil ?_
  simp
  refine n0 _ ?_; clear n0 x0
  refine EW.seq fun Ψ1 n1 x1 => ?_
  refine EW.seq fun Ψ2 n2 x2 => ?_
  refine EW.region gs_nil ?_
  simp
  refine n2 _ ?_; clear n2 x2
  refine EW.cond (t := _) (by rfl) (fun hc7 => ?_) (fun hc7 => ?_)
  · have hz : l.length = 0 := by simpa using hc7
    refine EW.seq fun Ψ3 n3 x3 => ?_
    refine EW.region gs_nil ?_
    simp
    refine n3 _ ?_; clear n3 x3
    refine EW.ret ?_
    refine x1 _ _ rfl ?_; clear n1 x1
    refine ⟨_, _, _, rfl, ?_, ?_, ?_, ?_, ?_⟩ <;> simp [eitV, eitS, *]
  · simp at hc7
    have hne : ¬ l.length = 0 := by simpa using hc7
    have b1 := bel_ge l.length x hl
    have b2 := bel_lt l.length x (by omega) hl
    have b3 : (belV l.length x).toNat < l.length := by omega
    have b4 : l[(belV l.length x).toNat]? = some l[(belV l.length x).toNat] := List.getElem?_eq_getElem b3
    refine EW.skip ?_
    refine n1 _ ?_; clear n1 x1
    refine EW.seq fun Ψ4 n4 x4 => ?_
    refine EW.region (gs_cons (below_ok l.length x hl) gs_nil) ?_
    simp [b1, b2, b4]
    refine n4 _ ?_; clear n4 x4
    refine EW.ret ?_
    refine ⟨_, _, _, rfl, ?_, ?_, ?_, ?_, ?_⟩ <;> simp [eitV, eitS, *]


def gBel : List AV → List (List AV) → Option Out
  | [.ptr (.ext 0) 0, .s (.int .i64 n)], [[.s (.int .u64 x)]] => if n < 9223372036854775808 then some (.ret (.s (.int .i64 (belV n x))) [[.s (.int .u64 (belS n x))]] []) else none
  | _, _ => none
def gBet : List AV → List (List AV) → Option Out
  | [.ptr (.ext 0) 0, .s (.int .i64 a), .s (.int .i64 b)], [[.s (.int .u64 x)]] => some (.ret (.s (.int .i64 (betV a b x))) [[.s (.int .u64 (betS a b x))]] [])
  | _, _ => none
theorem gBel_ok : ∀ a e o, gBel a e = some o → ACalls Try.prog 28 a e o := by
  intro a e o h
  unfold gBel at h
  split at h
  · split at h
    · cases h; exact below_ok _ _ ‹_›
    · cases h
  · cases h
theorem gBet_ok : ∀ a e o, gBet a e = some o → ACalls Try.prog 29 a e o := by
  intro a e o h
  unfold gBet at h
  split at h
  · cases h; exact between_ok _ _ _
  · cases h
/-- The numbers of a feed. -/
def gF (Γ : Gam) : Gam := gAlt 28 gBel (gAlt 29 gBet Γ)
theorem gF_ok {Γ : Gam} (h : Sound Try.prog Γ) : Sound Try.prog (gF Γ) := gAlt_sound gBel_ok (gAlt_sound gBet_ok h)
attribute [simp] gBel gBet gF

end Go.Ev
end

section
set_option linter.all false
open Go Go.Ev Go.Proofs
namespace Go.Ev
set_option linter.unusedSimpArgs false
set_option linter.unusedVariables false


/-- A range that the feed makes. -/
def rngA (lo hi x : Int) : Int := betV lo hi x
def rngX1 (lo hi x : Int) : Int := betS lo hi x
def rngX2 (lo hi x : Int) : Int := belS 4 (rngX1 lo hi x)
def rngM (lo hi x : Int) : Int := minI hi (wr (rngA lo hi x + belV 4 (rngX1 lo hi x)))
def rngL (lo hi x : Int) : List Int := [rngA lo hi x, rngM lo hi x, betV (rngA lo hi x) hi (rngX2 lo hi x)]
def rngX3 (lo hi x : Int) : Int := betS (rngA lo hi x) hi (rngX2 lo hi x)
def rngB (lo hi x : Int) : Int := eitV (rngL lo hi x) (rngX3 lo hi x)
def rngS (lo hi x : Int) : Int := eitS (rngL lo hi x) (rngX3 lo hi x)

theorem range_ok (a b x : Int) : ACalls Try.prog 52 [.ptr (.ext 0) 0, .s (.int .i64 a), .s (.int .i64 b)] [[.s (.int .u64 x)]] (.ret (.agg [.s (.int .i64 (rngA a b x)), .s (.int .i64 (rngB a b x))]) [[.s (.int .u64 (rngS a b x))]] []) := by
  refine acalls_of_ew Try.func52 rfl rfl (by simp [Try.f52]) (rs := [.cell 6 47]) rfl ?_
  refine EW.seq fun Ψ0 n0 x0 => ?_
  refine EW.region gs_nil ?_
  simp
  refine n0 _ ?_; clear n0 x0
  refine EW.seq fun Ψ1 n1 x1 => ?_
  refine EW.region (gs_cons (between_ok a b x) gs_nil) ?_
  simp
  refine n1 _ ?_; clear n1 x1
  refine EW.seq fun Ψ2 n2 x2 => ?_
  refine EW.region (gF_ok (gs_cons (either_ok (rngL a b x) (rngX3 a b x) (by show ((3 : Nat) : Int) < _; omega)) gs_nil)) ?_
  simp [rngL, rngA, rngX1, rngX2, rngX3, rngM]
  refine n2 _ ?_; clear n2 x2
  refine EW.seq fun Ψ3 n3 x3 => ?_
  refine EW.region gs_nil ?_
  simp
  refine n3 _ ?_; clear n3 x3
  refine EW.ret ?_
  refine ⟨_, _, _, rfl, ?_, ?_, ?_, ?_, ?_⟩ <;> simp [rngA, rngB, rngS, rngL, rngX1, rngX2, rngX3, rngM]


def inL (a b x : Int) : List Int := [a, b, betV a b x, betV a b (betS a b x)]
def inX (a b x : Int) : Int := betS a b (betS a b x)
def inV (a b x : Int) : Int := eitV (inL a b x) (inX a b x)
def inS (a b x : Int) : Int := eitS (inL a b x) (inX a b x)

theorem feedIn_ok (a b x : Int) : ACalls Try.prog 61 [.ptr (.ext 0) 0, .agg [.s (.int .i64 a), .s (.int .i64 b)]] [[.s (.int .u64 x)]] (.ret (.s (.int .i64 (inV a b x))) [[.s (.int .u64 (inS a b x))]] []) := by
  refine acalls_of_ew Try.func61 rfl rfl (by simp [Try.f61]) (rs := [.tmp 4]) rfl ?_
  refine EW.seq fun Ψ0 n0 x0 => ?_
  refine EW.region gs_nil ?_
  simp
  refine n0 _ ?_; clear n0 x0
  refine EW.seq fun Ψ1 n1 x1 => ?_
  refine EW.drawn [(2, 10), (4, 10), (10, 13), (10, 15), (2, 16), (4, 16)] mixed (gF_ok (gs_cons (either_ok (inL a b x) (inX a b x) (by show ((4 : Nat) : Int) < _; omega)) gs_nil)) (by kernel_rfl) ?_
  simp [inL, inX]
  refine n1 _ ?_; clear n1 x1
  refine EW.ret ?_
  refine ⟨_, _, _, rfl, ?_, ?_, ?_, ?_, ?_⟩ <;> simp [inV, inS, inL, inX]

theorem often_ok (a b x : Int) (hb : b < 9223372036854775808) : ACalls Try.prog 78 [.ptr (.ext 0) 0, .s (.int .i64 a), .s (.int .i64 b)] [[.s (.int .u64 x)]] (.ret (.s (.bool (decide (belV b x < a)))) [[.s (.int .u64 (belS b x))]] []) := by
  refine acalls_of_ew Try.func78 rfl rfl (by simp [Try.f78]) (rs := [.tmp 6]) rfl ?_
  refine EW.seq fun Ψ0 n0 x0 => ?_
  refine EW.region gs_nil ?_
  simp
  refine n0 _ ?_; clear n0 x0
  refine EW.seq fun Ψ1 n1 x1 => ?_
  refine EW.region (gs_cons (below_ok b x hb) gs_nil) ?_
  simp
  refine n1 _ ?_; clear n1 x1
  refine EW.ret ?_
  refine ⟨_, _, _, rfl, ?_, ?_, ?_, ?_, ?_⟩ <;> simp


def gNx : List AV → List (List AV) → Option Out
  | [.ptr (.ext 0) 0], [[.s (.int .u64 x)]] => some (.ret (.s (.int .u64 (nxV x))) [[.s (.int .u64 (nxS x))]] [])
  | _, _ => none
def gRng : List AV → List (List AV) → Option Out
  | [.ptr (.ext 0) 0, .s (.int .i64 a), .s (.int .i64 b)], [[.s (.int .u64 x)]] => some (.ret (.agg [.s (.int .i64 (rngA a b x)), .s (.int .i64 (rngB a b x))]) [[.s (.int .u64 (rngS a b x))]] [])
  | _, _ => none
def gIn : List AV → List (List AV) → Option Out
  | [.ptr (.ext 0) 0, .agg [.s (.int .i64 a), .s (.int .i64 b)]], [[.s (.int .u64 x)]] => some (.ret (.s (.int .i64 (inV a b x))) [[.s (.int .u64 (inS a b x))]] [])
  | _, _ => none
def gOft : List AV → List (List AV) → Option Out
  | [.ptr (.ext 0) 0, .s (.int .i64 a), .s (.int .i64 b)], [[.s (.int .u64 x)]] => if b < 9223372036854775808 then some (.ret (.s (.bool (decide (belV b x < a)))) [[.s (.int .u64 (belS b x))]] []) else none
  | _, _ => none
theorem gNx_ok : ∀ a e o, gNx a e = some o → ACalls Try.prog 51 a e o := by
  intro a e o h
  unfold gNx at h
  split at h
  · cases h; exact next_ok _
  · cases h
theorem gRng_ok : ∀ a e o, gRng a e = some o → ACalls Try.prog 52 a e o := by
  intro a e o h
  unfold gRng at h
  split at h
  · cases h; exact range_ok _ _ _
  · cases h
theorem gIn_ok : ∀ a e o, gIn a e = some o → ACalls Try.prog 61 a e o := by
  intro a e o h
  unfold gIn at h
  split at h
  · cases h; exact feedIn_ok _ _ _
  · cases h
theorem gOft_ok : ∀ a e o, gOft a e = some o → ACalls Try.prog 78 a e o := by
  intro a e o h
  unfold gOft at h
  split at h
  · split at h
    · cases h; exact often_ok _ _ _ ‹_›
    · cases h
  · cases h
/-- The numbers of a feed. -/
def gG (Γ : Gam) : Gam := gF (gAlt 51 gNx (gAlt 52 gRng (gAlt 61 gIn (gAlt 78 gOft Γ))))
theorem gG_ok {Γ : Gam} (h : Sound Try.prog Γ) : Sound Try.prog (gG Γ) := gF_ok (gAlt_sound gNx_ok (gAlt_sound gRng_ok (gAlt_sound gIn_ok (gAlt_sound gOft_ok h))))
attribute [simp] gNx gRng gIn gOft gG

end Go.Ev
end

section
set_option linter.all false
open Go Go.Ev Go.Proofs
namespace Go.Ev
set_option linter.unusedSimpArgs false
set_option linter.unusedVariables false


/-- The state of a feed made of a list. -/
def feedGo : List Int → Int → Int
  | [], x => x
  | n :: l, x => feedGo l (nxS (xorI .u64 x (IntKind.u64.wrap (IntKind.u64.wrap n * 15485907386658061715))))
def feedS (l : List Int) : Int := feedGo l 88172645463325252
def feedOfS (l : List Int) (p : Nat × Int) : St :=
  St.lit 30 [(0, .sl false false .U .no l.length (eInts l)), (3, .ptr (.own 6) 0), (4, .s (.int .i64 p.1))] [(6, [.s (.int .u64 p.2)])] [] []
attribute [simp] feedOfS

theorem feedOf_ok (l : List Int) (hl : (l.length : Int) < 9223372036854775807) : ACalls Try.prog 16 [.sl false false .U .no l.length (eInts l)] [] (.ret (.ptr (.own 6) 0) [] [(6, [.s (.int .u64 (feedS l))])]) := by
  refine acalls_of_ew Try.func16 rfl rfl (by simp [Try.f16]) (rs := [.tmp 2]) rfl ?_
  refine EW.seq fun Ψ0 n0 x0 => ?_
  refine EW.region gs_nil ?_
  simp
  refine n0 _ ?_; clear n0 x0
  refine EW.seq fun Ψ1 n1 x1 => ?_
  refine EW.region gs_nil ?_
  simp
  refine n1 _ ?_; clear n1 x1
  refine EW.seq fun Ψ2 n2 x2 => ?_
  refine EW.seq fun Ψ3 n3 x3 => ?_
  refine EW.region gs_nil ?_
  simp
  refine n3 _ ?_; clear n3 x3
  refine EW.block ?_
  refine EW.loopA (feedOfS l) (fun p => p.1 ≤ l.length ∧ feedGo (l.drop p.1) p.2 = feedS l) (fun p => l.length - p.1) (0, 88172645463325252) (St.le_lit rfl (by simp) (by simp) (by simp) (by simp) (by simp)) ?_ fun p hk => ?_
  · simp [feedS]
  obtain ⟨k, y⟩ := p
  obtain ⟨hk, hw⟩ := hk
  simp only at hk hw
  refine EW.seq fun Ψ4 n4 x4 => ?_
  refine EW.seq fun Ψ5 n5 x5 => ?_
  refine EW.region gs_nil ?_
  simp
  refine n5 _ ?_; clear n5 x5
  refine EW.cond (t := _) (by rfl) (fun hc10 => ?_) (fun hc10 => ?_)
  · simp at hc10
    have e1 : l[k]? = some l[k] := List.getElem?_eq_getElem hc10
    refine EW.skip ?_
    refine n4 _ ?_; clear n4 x4
    refine EW.seq fun Ψ6 n6 x6 => ?_
    refine EW.block ?_
    refine EW.seq fun Ψ7 n7 x7 => ?_
    refine EW.drawn [] mixed gs_nil (by kernel_rfl) ?_
    simp [hc10, e1, conv_int _ _ _ _ _ _ Try.underlying3 Try.underlying77]
    refine n7 _ ?_; clear n7 x7
    refine EW.hide fun Ψ8 n8 => ?_
    refine EW.region (gG_ok gs_nil) ?_
    simp
    refine n8 _ _ ?_; clear n8
    refine n6 _ ?_; clear n6 x6
    refine EW.hide fun Ψ9 n9 => ?_
    refine EW.region gs_nil ?_
    simp
    refine n9 _ _ ?_; clear n9
    have e3 : IntKind.i64.wrap ((k : Int) + 1) = k + 1 := wr_small (by omega) (by omega)
    refine ⟨(k + 1, nxS (xorI .u64 y (IntKind.u64.wrap (IntKind.u64.wrap l[k] * 15485907386658061715)))), (St.le_lit rfl (by simp [e3]) (by simp) (by simp) (by simp) (by simp)), ?_, ?_⟩
    · refine ⟨hc10, ?_⟩
      rw [← hw, List.drop_eq_getElem_cons hc10]
      rfl
    · simp; omega
  · simp at hc10
    have hkl : k = l.length := by omega
    subst hkl
    simp [feedGo] at hw
    refine EW.exit ?_
    refine x4 _ _ rfl ?_; clear n4 x4
    refine n2 _ ?_; clear n2 x2
    refine EW.seq fun Ψ10 n10 x10 => ?_
    refine EW.region gs_nil ?_
    simp
    refine n10 _ ?_; clear n10 x10
    refine EW.ret ?_
    refine ⟨_, _, _, rfl, ?_, ?_, ?_, ?_, ?_⟩ <;> simp [hw]

theorem ints_ok (l : List Int) (hl : (l.length : Int) < 1000000000) : ACalls Try.prog 30 [.sl false false .U .no l.length (eInts l)] [] (.ret (.sl true false .E .no l.length (eInts l)) [] []) := by
  refine acalls_of_ew Try.func30 rfl rfl (by simp [Try.f30]) (rs := [.tmp 2]) rfl ?_
  refine EW.seq fun Ψ0 n0 x0 => ?_
  refine EW.region gs_nil ?_
  simp
  refine n0 _ ?_; clear n0 x0
  refine EW.seq fun Ψ1 n1 x1 => ?_
  refine EW.region gs_nil ?_
  simp [show l.length * 8 ≤ 140737488355328 by omega]
  refine n1 _ ?_; clear n1 x1
  refine EW.ret ?_
  refine ⟨_, _, _, rfl, ?_, ?_, ?_, ?_, ?_⟩ <;> simp

theorem ranges_ok (l : List (Int × Int)) (hl : (l.length : Int) < 1000000000) : ACalls Try.prog 53 [.sl false false .U .no l.length (eRngs l)] [] (.ret (.sl true false .E .no l.length (eRngs l)) [] []) := by
  refine acalls_of_ew Try.func53 rfl rfl (by simp [Try.f53]) (rs := [.tmp 2]) rfl ?_
  refine EW.seq fun Ψ0 n0 x0 => ?_
  refine EW.region gs_nil ?_
  simp
  refine n0 _ ?_; clear n0 x0
  refine EW.seq fun Ψ1 n1 x1 => ?_
  refine EW.region gs_nil ?_
  simp [show l.length * 16 ≤ 140737488355328 by omega]
  refine n1 _ ?_; clear n1 x1
  refine EW.ret ?_
  refine ⟨_, _, _, rfl, ?_, ?_, ?_, ?_, ?_⟩ <;> simp

end Go.Ev
end
