/- Lemmas for the claims of this seat: an evaluator over abstract values, its soundness, and the contracts of the functions of melt that it walks; no premise beyond what each theorem states. -/
import Derived.WalkKit
import Derived.KernelRfl

section
set_option linter.all false
set_option linter.unusedVariables false
namespace Go.Ev

/-- 'Option.bind', into whose continuation simp does not look. -/
def bnd {α β : Type} (x : Option α) (f : α → Option β) : Option β := x.bind f
@[congr] theorem bnd_congr {α β : Type} {x y : Option α} {f : α → Option β} (h : x = y) : bnd x f = bnd y f := by rw [h]
@[simp] theorem bnd_some {α β : Type} (x : α) (f : α → Option β) : bnd (some x) f = f x := Eq.trans rfl rfl
@[simp] theorem bnd_none {α β : Type} (f : α → Option β) : bnd none f = none := Eq.trans rfl rfl

inductive Knd where | Z | E | U
  deriving DecidableEq
inductive Own where | no | full | tok (k : Nat) | grw (k z : Nat)
  deriving DecidableEq
inductive Ref where | own (k : Nat) | ext (i : Nat)
  deriving DecidableEq

/-- Closed, immutable data in cells: a scalar, or a slice of such cells. -/
inductive D where
  | s (v : Value)
  | sl (n : Nat) (cs : List D)

/-- A loop over a function: its record, the world in which it was laid, what may be read, which blocks a round may turn. -/
structure YG where
  loop : Loop
  w : World
  rd : Nat → Nat → Prop
  be : List Nat
/-- The number under which a table keeps what is known of a round. -/
def YID : FuncId := 1000000007

/-- Where a state keeps that an object may grow. -/
@[irreducible] def XK (k : Nat) : Nat := k + 1000000
theorem XK_eq (k : Nat) : XK k = k + 1000000 := by unfold XK; rfl
/-- Abstract values. 'sl f g k o n cs': a slice of n elements with the cells cs; f: its block is new since the frame was entered, g: so are those inside. -/
inductive AV where
  | s (v : Value)
  | sl (f g : Bool) (k : Knd) (o : Own) (n : Nat) (cs : List D)
  | sm (r : Ref) (n : Nat) (o : Own)
  | ptr (r : Ref) (off : Nat)
  | pv (f g : Bool) (cs : List D)
  | fn (f : FuncId) (cap : List AV)
  | ifc (t : TypeId) (x : AV)
  | agg (cs : List AV)
  | tup (xs : List AV)
  | junk
  | yl (l : Nat) (G : YG) (rs : List Ref)

instance : Inhabited AV := ⟨.junk⟩

def AV.nilsl : AV := .sl true true .Z .full 0 []

/-- A value that the text writes out, or a zero value's cell. -/
def AV.ofFnAs (v : Value) : Fn → Bool → Bool → AV
  | .func f, true, true => .fn f []
  | _, _, _ => .s v
def AV.ofFn (v : Value) : AV :=
  match v with
  | .func f first cap => AV.ofFnAs v f first.isEmpty cap.isEmpty
  | v => .s v
def AV.ofSl (v : Value) : Option Addr → Nat → Nat → AV
  | none, 0, 0 => AV.nilsl
  | _, _, _ => .s v
def AV.ofCell (v : Value) : AV :=
  match v with
  | .slice a n c => AV.ofSl v a n c
  | v => AV.ofFn v
def AV.ofVal : Value → AV
  | .agg cs => .agg (cs.toList.map AV.ofCell)
  | .tuple vs => if vs.toList.isEmpty then .s (.tuple #[]) else .tup (vs.toList.map AV.ofCell)
  | v => AV.ofCell v

def AV.cell? : AV → Option Value
  | .s v => if v.oneCell' then some v else none
  | .sl _ _ .Z .full 0 [] => some (.slice none 0 0)
  | .fn f [] => some (.func (.func f) #[] #[])
  | _ => none
/-- The value itself, where no address is in it. -/
def AV.val? : AV → Option Value
  | .agg cs => (cs.mapM AV.cell?).map fun l => .agg l.toArray
  | .tup cs => (cs.mapM AV.cell?).map fun l => .tuple l.toArray
  | .s v => some v
  | x => x.cell?

def AV.isCell : AV → Bool
  | .s v => v.oneCell'
  | .sl .. | .sm .. | .ptr .. | .pv .. | .fn .. | .ifc .. | .yl .. => true
  | _ => false
def AV.cells : AV → List AV
  | .agg cs => cs
  | x => [x]
def AV.toD? : AV → Option (D × Bool)   -- the datum; is all in it new?
  | .s v => if v.oneCell' then some (.s v, true) else none
  | .sl f g _ _ n cs => some (.sl n cs, f && g)
  | .fn f [] => some (.s (.func (.func f) #[] #[]), true)
  | _ => none
def D.av (f g : Bool) : D → AV
  | .s v => AV.ofFn v
  | .sl n cs => .sl g g .U .no n cs
def toDs? : List AV → Option (List D × Bool)
  | [] => some ([], true)
  | x :: r => (x.toD?).bind fun (d, b) => (toDs? r).map fun (ds, c) => (d :: ds, b && c)

abbrev Env := Nat → Option AV
def upd {α : Type} (f : Nat → Option α) (d : Nat) (x : α) : Nat → Option α := fun e => if e = d then some x else f e
def ofL {α : Type} : List (Nat × α) → Nat → Option α
  | [], _ => none
  | (d, x) :: r, e => if e = d then some x else ofL r e

structure St where
  nt : Nat
  env : Env
  own : Nat → Option (List AV)
  ext : List (List AV)
  tok : Nat → Option (Nat × Nat)

def St.mem (st : St) : Ref → Option (List AV)
  | .own k => st.own k
  | .ext i => st.ext[i]?
def St.setMem (st : St) : Ref → List AV → St
  | .own k, cs => { st with own := upd st.own k cs }
  | .ext i, cs => { st with ext := st.ext.set i cs }
def St.setAll : St → List Ref → List (List AV) → St
  | st, r :: rs, c :: cs => (st.setMem r c).setAll rs cs
  | st, _, _ => st

def St.opd (st : St) : Operand → Option AV
  | .tmp t => st.env t
  | .const v => some (AV.ofVal v)
  | .func f => some (.fn f [])
  | .global _ => none

/-- What a function leaves. -/
inductive Out where
  | ret (r : AV) (ext : List (List AV)) (own : List (Nat × List AV))
  | rtok (k : Knd) (n z : Nat) (cs : List D)   -- a slice with the room behind it
  | pan (v : Value)

abbrev Gam := FuncId → List AV → List (List AV) → Option Out

mutual
def AV.refs : AV → List Ref
  | .sm r _ _ => [r]
  | .ptr r _ => [r]
  | .fn _ cap => refsL cap
  | .ifc _ x => x.refs
  | .agg cs => refsL cs
  | .tup xs => refsL xs
  | .yl _ _ rs => rs
  | _ => []
def refsL : List AV → List Ref
  | [] => []
  | x :: r => x.refs ++ refsL r
end

def mapRs (ρ : Ref → Option Ref) : List Ref → Option (List Ref)
  | [] => some []
  | r :: rs => bnd (ρ r) fun r' => bnd (mapRs ρ rs) fun rs' => some (r' :: rs')
def ylOf (l : Nat) (G : YG) : Option (List Ref) → AV
  | some rs => .yl l G rs
  | none => .junk
mutual
def AV.mapRef (ρ : Ref → Option Ref) : AV → AV
  | .sm r n _ => match ρ r with | some r' => .sm r' n .no | none => .junk
  | .ptr r off => match ρ r with | some r' => .ptr r' off | none => .junk
  | .fn f cap => .fn f (mapRefL ρ cap)
  | .ifc t x => .ifc t (x.mapRef ρ)
  | .agg cs => .agg (mapRefL ρ cs)
  | .tup xs => .tup (mapRefL ρ xs)
  | .yl l G rs => ylOf l G (mapRs ρ rs)
  | x => x
def mapRefL (ρ : Ref → Option Ref) : List AV → List AV
  | [] => []
  | x :: r => x.mapRef ρ :: mapRefL ρ r
end

mutual
/-- As it is handed to a function. -/
def AV.asArg : AV → AV
  | .sl _ _ _ _ n cs => .sl false false .U .no n cs
  | .sm r n _ => .sm r n .no
  | .pv _ _ cs => .pv false false cs
  | .fn f cap => .fn f (asArgL cap)
  | .ifc t x => .ifc t x.asArg
  | .agg cs => .agg (asArgL cs)
  | .tup xs => .tup (asArgL xs)
  | x => x
def asArgL : List AV → List AV
  | [] => []
  | x :: r => x.asArg :: asArgL r
end
mutual
/-- As it is handed to a function inside an object: whether it is nil stays known. -/
def AV.asObj : AV → AV
  | .sl _ _ k _ n cs => .sl false false k .no n cs
  | .sm r n _ => .sm r n .no
  | .pv _ _ cs => .pv false false cs
  | .fn f cap => .fn f (asObjL cap)
  | .ifc t x => .ifc t x.asObj
  | .agg cs => .agg (asObjL cs)
  | .tup xs => .tup (asObjL xs)
  | x => x
def asObjL : List AV → List AV
  | [] => []
  | x :: r => x.asObj :: asObjL r
end
mutual
/-- As it is handed back. -/
def AV.asRet : AV → AV
  | .sl f g k _ n cs => .sl f g k .no n cs
  | .sm r n _ => .sm r n .no
  | .fn f cap => .fn f (asRetL cap)
  | .ifc t x => .ifc t x.asRet
  | .agg cs => .agg (asRetL cs)
  | .tup xs => .tup (asRetL xs)
  | x => x
def asRetL : List AV → List AV
  | [] => []
  | x :: r => x.asRet :: asRetL r
end

def refsDedup : List Ref → List Ref
  | [] => []
  | r :: rs => if r ∈ rs then refsDedup rs else r :: refsDedup rs
def refIdx (rs : List Ref) (r : Ref) : Option Ref := (rs.findIdx? (· == r)).map Ref.ext
def refBack (rs : List Ref) (key : Nat) : Ref → Option Ref
  | .ext i => rs[i]?
  | .own k => some (.own (1000 * key + k))

/-- What an operation does. -/
inductive X where
  | val (x : AV)
  | skip
  | mem (x : Option AV) (os : List (List AV)) (news : List (Nat × List AV))
  | tok (x : AV) (new : Nat × Nat × Nat)
  | grow (x : AV) (d : Nat) (cs : List AV) (p : Nat × Nat)
  | pan (v : Value)

/-- The value of a meaning that looks at the program alone. -/
def pureP {α : Type} (P : Program) : Sem α → Option α
  | .pure a => some a
  | .program k => pureP P (k P)
  | _ => none

def cellsAt (P : Program) (t : TypeId) (cs : List AV) (off : Nat) : Option AV :=
  match P.underlying t with
  | some (.struct _) | some (.array _ _) => if off + P.cellsOf t ≤ cs.length then some (.agg ((cs.drop off).take (P.cellsOf t))) else none
  | some _ => cs[off]?
  | none => none
def cellsAtD (P : Program) (f g : Bool) (t : TypeId) (cs : List D) : Option AV :=
  match P.underlying t with
  | some (.struct _) | some (.array _ _) => if P.cellsOf t ≤ cs.length then some (.agg ((cs.take (P.cellsOf t)).map (D.av f g))) else none
  | some _ => (cs.head?).map (D.av f g)
  | none => none
def putAt (cs : List AV) (off : Nat) (xs : List AV) : List AV := cs.take off ++ xs ++ cs.drop (off + xs.length)

def fldOff (P : Program) (t : TypeId) (i : Nat) : Option Nat :=
  match P.underlying t with
  | some (.struct fs) => match fs[i]? with
    | some f => if P.cellsOf f.type = 0 then none else some f.offset
    | none => none
  | _ => none

def zeroCells (P : Program) (t : TypeId) : Option (List AV) :=
  match (P.info? t).bind (·.zero) with
  | some z => some (z.cells.toList.map AV.ofCell)
  | none => none

def zeroOk (P : Program) (e : TypeId) : Bool :=
  match zeroCells P e with
  | some z => z.length == P.cellsOf e
  | none => false

/-- The refs whose objects an operation may look at or turn. -/
def footP : List AV → List Ref
  | .ptr r _ :: _ => [r]
  | _ => []
/-- The refs in the objects that are handed on. -/
def St.inner (st : St) : List Ref → List Ref
  | [] => []
  | r :: rs => (match st.mem r with | some cs => refsL cs | none => []) ++ st.inner rs
def without (F : List Ref) : List Ref → List Ref
  | [] => []
  | r :: rs => if r ∈ F then without F rs else r :: without F rs
def St.reach (st : St) (F : List Ref) : List Ref := F ++ refsDedup (without F (st.inner F))
def St.footC (st : St) : List AV → List Ref
  | .fn _ cap :: args => st.reach (refsDedup (refsL (args ++ cap)))
  | .yl l G rs :: args => st.reach (refsDedup (refsL (args ++ [.yl l G rs])))
  | _ => []
def foot (st : St) (op : Op) (xs : List AV) : List Ref :=
  match op with
  | .load .. => footP xs
  | .store .. => footP xs
  | .call c => match c.callee with | .value _ => st.footC xs | _ => []
  | _ => []

/-- What a guard reads: a bool; nothing, where its operation was left out. -/
def bitOf : Value → Option Bool
  | .bool b => some b
  | _ => none
def bit (x : AV) : Option (Option Bool) := match x with | .s v => some (bitOf v) | _ => none

def isNil (n : Nat) : Knd → Option Bool
  | .Z => some (decide (n = 0))
  | .E => some false
  | .U => none

def fillA (P : Program) (fs : Array Field) : List AV → List Nat → List AV → Option (List AV)
  | acc, [], _ => some acc
  | acc, i :: is, x :: xs =>
    match fs[i]? with
    | some f => if x.cells.length = P.cellsOf f.type ∧ f.offset + x.cells.length ≤ acc.length ∧ x.cells.all AV.isCell = true then fillA P fs (putAt acc f.offset x.cells) is xs else none
    | none => none
  | _, _, _ => none


def qPick : List AV → Option AV
  | [.s (.bool t), a, b] => some (if t then a else b)
  | _ => none
def qOne : List AV → Option AV
  | [x] => some x
  | _ => none
def qExtract (i : Nat) : List AV → Option AV
  | [.tup vs] => vs[i]?
  | _ => none
def qLoad (P : Program) (t : TypeId) : List AV → List (List AV) → Option AV
  | [.ptr _ off], [cs] => cellsAt P t cs off
  | [.pv f g cs], _ => cellsAtD P f g t cs
  | _, _ => none
def qField (P : Program) (t : TypeId) (i : Nat) : List AV → Option AV
  | [.ptr r off] => (fldOff P t i).map fun d => .ptr r (off + d)
  | [.pv f g cs] => (fldOff P t i).map fun d => .pv f g (cs.drop d)
  | _ => none
def qIndexAt (P : Program) (i : Int) : Option TypeDesc → AV → Option AV
  | some (.array len e), .ptr r off => if 0 ≤ i ∧ i < len ∧ 0 < P.cellsOf e then some (.ptr r (off + i.toNat * P.cellsOf e)) else none
  | some (.slice e), .sl f g _ _ n cs => if 0 ≤ i ∧ i < n ∧ 0 < P.cellsOf e then some (.pv f g (cs.drop (i.toNat * P.cellsOf e))) else none
  | some (.slice e), .sm r n _ => if 0 ≤ i ∧ i < n ∧ 0 < P.cellsOf e then some (.ptr r (i.toNat * P.cellsOf e)) else none
  | _, _ => none
def qIndex (P : Program) (t : TypeId) : List AV → Option AV
  | [x, .s (.int _ i)] => qIndexAt P i (P.underlying t) x
  | _ => none
def qLenOf : Option TypeDesc → AV → Option AV
  | some (.slice _), .sl _ _ _ _ n _ => some (.s (.int .i64 n))
  | some (.slice _), .sm _ n _ => some (.s (.int .i64 n))
  | some .string, .s (.string s) => some (.s (.int .i64 s.size))
  | _, _ => none
def tdesc (P : Program) : Option TypeId → Option TypeDesc
  | some t => P.underlying t
  | none => none
def qLen (d : Option TypeDesc) : List AV → Option AV
  | [x] => qLenOf d x
  | _ => none
def qBuildAs (P : Program) (is : List Nat) (xs : List AV) : Option TypeDesc → Option (List AV) → Option AV
  | some (.struct fs), some z => if (fs.all fun f => decide (0 < P.cellsOf f.type)) = true ∧ z.all AV.isCell = true then (fillA P fs z is xs).map AV.agg else none
  | _, _ => none
def qBuildSlice (P : Program) (len : Nat) (is : List Nat) (xs : List AV) : Option TypeDesc → Option AV
  | some (.slice e) =>
    if is = List.range len ∧ (xs.all fun x => decide (x.cells.length = P.cellsOf e) && x.cells.all AV.isCell) = true ∧ len * P.cellsOf e ≤ 16777216 ∧ xs.length = len ∧ (zeroCells P e).isSome = true then
      (toDs? (xs.flatMap AV.cells)).map fun (ds, g) => .sl true g .E .full len ds
    else none
  | _ => none
def qNilCheck : List AV → Option AV
  | [.ptr r o] => some (.ptr r o)
  | [.pv f g cs] => some (.pv f g cs)
  | _ => none
def isSlice : Option TypeDesc → Bool
  | some (.slice _) => true
  | _ => false
def qEqNil (P : Program) (t : TypeId) (neg : Bool) : AV → AV → Option AV
  | .sl _ _ k _ n _, .sl _ _ .Z .full 0 [] => if isSlice (P.underlying t) = true then (isNil n k).map fun b => .s (.bool (b != neg)) else none
  | _, _ => none
def qBinP (P : Program) (op : BinOp) (xt : TypeId) (xo yo : Operand) : Option Value → Option Value → Option AV
  | some x, some y => bnd (pureP P (eqGuard op xt xo yo x y)) fun _ => bnd (pureP P (binOp op xt x y)) fun v => some (AV.ofVal v)
  | _, _ => none
def orElse' (x y : Option AV) : Option AV := match x with | some a => some a | none => y
def qBin (P : Program) (op : BinOp) (xt : TypeId) (xo yo : Operand) : List AV → Option AV
  | [a, b] =>
    match op with
    | .eql => orElse' (qEqNil P xt false a b) (qBinP P op xt xo yo a.val? b.val?)
    | .neq => orElse' (qEqNil P xt true a b) (qBinP P op xt xo yo a.val? b.val?)
    | op => qBinP P op xt xo yo a.val? b.val?
  | _ => none
def qUn (P : Program) (op : UnOp) : List AV → Option AV
  | [.s x] => bnd (pureP P (Op.unary op x)) fun v => some (AV.ofVal v)
  | _ => none
def isByte : Option TypeDesc → Bool
  | some (.int .u8) => true
  | _ => false
/-- A byte in a slice of its own, as a text. -/
def qBytes (P : Program) : Option TypeDesc → Option TypeDesc → Nat → List D → Option AV
  | some (.slice e), some .string, 1, [.s (.int .u8 b)] => if isByte (P.underlying e) = true then some (.s (.string ⟨#[UInt8.ofNat b.toNat]⟩)) else none
  | _, _, _, _ => none
def qConv (P : Program) (a b : TypeId) : List AV → Option AV
  | [.s x] => bnd (pureP P (convert a b x)) fun v => some (AV.ofVal v)
  | [.sl _ _ _ _ n cs] => qBytes P (P.underlying a) (P.underlying b) n cs
  | _ => none
def qIdx (P : Program) (t : TypeId) : List AV → Option AV
  | [.s x, .s y] => bnd (pureP P (Instr.index t x y)) fun v => some (AV.ofVal v)
  | _ => none
def taL : List Value → Option AV
  | [x, b] => some (.tup [AV.ofVal x, AV.ofVal b])
  | _ => none
def taOf : Value → Option AV
  | .tuple vs => taL vs.toList
  | _ => none
def qTA (P : Program) (xt a : TypeId) (ok : Bool) : List AV → Option AV
  | [.s x] => bnd (pureP P (Instr.typeAssert x xt a ok)) taOf
  | _ => none
def isIface : Option TypeDesc → Bool
  | some (.interface _) => true
  | none => true
  | _ => false
def qIface (P : Program) (t : TypeId) : List AV → Option AV
  | [x] => if isIface (P.underlying t) = false then some (.ifc t x) else none
  | _ => none
def qSliceAs (P : Program) (l h : Int) (f g : Bool) (n : Nat) (cs : List D) : Option TypeDesc → Option AV
  | some (.slice e) => if 0 ≤ l ∧ l ≤ h ∧ h ≤ n ∧ 0 < P.cellsOf e then some (.sl f g .U .no (h - l).toNat ((cs.drop (l.toNat * P.cellsOf e)).take ((h - l).toNat * P.cellsOf e))) else none
  | _ => none
def qSlice (P : Program) (t : TypeId) (lo hi : Bool) : List AV → Option AV
  | [.sl f g _ _ n cs] => if lo || hi then none else qSliceAs P 0 n f g n cs (P.underlying t)
  | [.sl f g _ _ n cs, .s (.int _ i)] => if lo then (if hi then none else qSliceAs P i n f g n cs (P.underlying t)) else (if hi then qSliceAs P 0 i f g n cs (P.underlying t) else none)
  | [.sl f g _ _ n cs, .s (.int _ i), .s (.int _ j)] => qSliceAs P i j f g n cs (P.underlying t)
  | [.s x, .s i] => if lo then (if hi then none else bnd (pureP P (Instr.sliceAt t x (some i) none none)) fun v => some (AV.ofVal v)) else (if hi then bnd (pureP P (Instr.sliceAt t x none (some i) none)) fun v => some (AV.ofVal v) else none)
  | [.s x, .s i, .s j] => if lo && hi then bnd (pureP P (Instr.sliceAt t x (some i) (some j) none)) fun v => some (AV.ofVal v) else none
  | _ => none

def qFunc : Fn → Bool → List AV → Option AV
  | .func f, true, xs => some (.fn f xs)
  | _, _, _ => none

def minI (x y : Int) : Int := if y < x then y else x
def maxI (x y : Int) : Int := if y > x then y else x
def qMin : List AV → Option AV
  | [.s (.int k x), .s (.int _ y)] => some (.s (.int k (minI x y)))
  | _ => none
def qMax : List AV → Option AV
  | [.s (.int k x), .s (.int _ y)] => some (.s (.int k (maxI x y)))
  | _ => none
def qBuiltin (P : Program) : Callee → Option TypeDesc → List AV → Option AV
  | .builtin .len, d, xs => qLen d xs
  | .builtin .min, _, xs => qMin xs
  | .builtin .max, _, xs => qMax xs
  | _, _, _ => none

def zeroDs (P : Program) (e : TypeId) : Option (List D × Bool) := bnd (zeroCells P e) toDs?
def qMake (P : Program) : Option TypeDesc → List AV → Option AV
  | some (.slice e), [.s (.int _ n), .s (.int _ m)] => if m = n ∧ 0 ≤ n ∧ P.bytesOf e * n ≤ 140737488355328 ∧ n ≤ 140737488355328 ∧ zeroOk P e = true then bnd (zeroDs P e) fun z => some (.sl true z.2 .E .full n.toNat (List.replicate n.toNat z.1).flatten) else none
  | _, _ => none
/-- The operations that are no effect. -/
def execQ (P : Program) (op : Op) (xs : List AV) (os : List (List AV)) : Option AV :=
  match op with
  | .move _ => qOne xs
  | .pick .. => qPick xs
  | .extract _ i => qExtract i xs
  | .load t _ => qLoad P t xs os
  | .fieldAddr t _ i => qField P t i xs
  | .indexAddr t _ _ => qIndex P t xs
  | .call c => qBuiltin P c.callee (tdesc P c.argTypes[0]?) xs
  | .build t parts => qBuildAs P (parts.toList.map (·.1)) xs (P.underlying t) (zeroCells P t)
  | .buildSlice t len parts => qBuildSlice P len (parts.toList.map (·.1)) xs (P.underlying t)
  | .makeSlice t _ _ => qMake P (P.underlying t) xs
  | .makeFunc fn first _ => qFunc fn first.isEmpty xs
  | .nilCheck _ => qNilCheck xs
  | .binOp op xt xo yo _ => qBin P op xt xo yo xs
  | .unOp op _ _ => qUn P op xs
  | .convert a b _ => qConv P a b xs
  | .typeAssert _ xt a ok => qTA P xt a ok xs
  | .index t _ _ => qIdx P t xs
  | .makeInterface t _ => qIface P t xs
  | .slice t _ lo hi none => qSlice P t lo.isSome hi.isSome xs
  | _ => none

def fAlloc (own : Nat → Option (List AV)) : Option Nat → Option (List AV) → Option X
  | some d, some z => if z.all AV.isCell = true ∧ own d = none then some (.mem (some (.ptr (.own d) 0)) [] [(d, z)]) else none
  | _, _ => none
def fBox (own : Nat → Option (List AV)) : Option Nat → List AV → Option X
  | some d, [x] => if x.cells.all AV.isCell = true ∧ own d = none then some (.mem (some (.ptr (.own d) 0)) [] [(d, x.cells)]) else none
  | _, _ => none
def fStore (P : Program) (t : TypeId) : List AV → List (List AV) → Option X
  | [.ptr _ off, x], [cs] => if (P.info? t).isSome = true ∧ x.cells.length = P.cellsOf t ∧ off + x.cells.length ≤ cs.length ∧ x.cells.all AV.isCell = true then some (.mem none [putAt cs off x.cells] []) else none
  | _, _ => none
def fAppendAs (P : Program) (d : Nat) (tk : Nat → Option (Nat × Nat)) (f g : Bool) (k : Knd) (n : Nat) (cs : List D) (f' g' : Bool) (m : Nat) (ds : List D) (e : TypeId) : Own → Option X
  | .full =>
    if (n + m) * P.bytesOf e ≤ 140737488355328 ∧ cs.length = n * P.cellsOf e ∧ ds.length = m * P.cellsOf e ∧ 0 < P.cellsOf e ∧ 0 < P.bytesOf e ∧ zeroOk P e = true ∧ tk d = none then
      some (.tok (.sl (f || m != 0) (g && g') (if k = .U ∧ m ≠ 0 then .E else k) (.tok d) (n + m) (cs ++ ds)) (d, n + m, P.cellsOf e))
    else none
  | .tok key =>
    if (n + m) * P.bytesOf e ≤ 140737488355328 ∧ cs.length = n * P.cellsOf e ∧ ds.length = m * P.cellsOf e ∧ 0 < P.cellsOf e ∧ 0 < P.bytesOf e ∧ zeroOk P e = true ∧ tk key = some (n, P.cellsOf e) then
      some (.tok (.sl (f || m != 0) (g && g') (if k = .U ∧ m ≠ 0 then .E else k) (.tok key) (n + m) (cs ++ ds)) (key, n + m, P.cellsOf e))
    else none
  | .no => none
  | .grw _ _ => none
def fAppend (P : Program) (tk : Nat → Option (Nat × Nat)) : Option TypeDesc → Option TypeDesc → Option Nat → List AV → Option X
  | some (.slice e), some (.slice _), some d, [.sl f g k o n cs, .sl f' g' _ _ m ds] => fAppendAs P d tk f g k n cs f' g' m ds e o
  | _, _, _, _ => none
def AV.mentions (d : Nat) (x : AV) : Bool := decide (Ref.own d ∈ x.refs)
def noMen (d : Nat) (xs : List AV) : Bool := xs.all fun x => !x.mentions d
/-- Is the slice that an operation makes to be one that may be turned? -/
def hintM (Γ : Gam) : Option Nat → Bool
  | some d => (Γ YID [.s (.int .i64 d)] []).isSome
  | none => false
def fAppendX (P : Program) (own : Nat → Option (List AV)) (tk : Nat → Option (Nat × Nat)) (d : Nat) (e : TypeId) (n m : Nat) (new : List AV) (old : List AV) : Option X :=
  if (n + m) * P.bytesOf e ≤ 140737488355328 ∧ old.length = n * P.cellsOf e ∧ new.length = m * P.cellsOf e ∧ 0 < P.cellsOf e ∧ 0 < P.bytesOf e ∧ zeroOk P e = true ∧ noMen d old = true ∧ noMen d new = true ∧ (tk (XK d) = none ∨ tk (XK d) = some (0, P.cellsOf e)) then
    some (.grow (.sm (.own d) (n + m) (.grw d (P.cellsOf e))) d (old ++ new) (0, P.cellsOf e))
  else none
/-- What is appended, as cells. -/
def newCells (own : Nat → Option (List AV)) : AV → Option (Nat × List AV)
  | .sl _ g _ _ m ds => some (m, ds.map (D.av g g))
  | .sm (.own k) m _ => bnd (own k) fun cs => some (m, cs)
  | _ => none
def fAppendM (P : Program) (own : Nat → Option (List AV)) (tk : Nat → Option (Nat × Nat)) : Option TypeDesc → Option TypeDesc → Option Nat → List AV → Option X
  | some (.slice e), some (.slice _), some d, [.sl _ _ _ .full 0 [], y] => if own d = none then bnd (newCells own y) fun q => fAppendX P own tk d e 0 q.1 q.2 [] else none
  | some (.slice e), some (.slice _), some d, [.sm (.own d') n (.grw d'' z), y] => if d' = d ∧ d'' = d ∧ z = P.cellsOf e then bnd (newCells own y) fun q => bnd (own d) fun cs => fAppendX P own tk d e n q.1 q.2 cs else none
  | _, _, _, _ => none
/-- Is the slice that an append makes out of an empty one a new row that may be turned, but does not grow? -/
def hintC (Γ : Gam) : Option Nat → Bool
  | some d => (Γ YID [.s (.int .i64 ((d : Int) + 1000000000))] []).isSome
  | none => false
def fAppendC (P : Program) (own : Nat → Option (List AV)) : Option TypeDesc → Option TypeDesc → Option Nat → List AV → Option X
  | some (.slice e), some (.slice _), some d, [.sl _ _ _ .full 0 [], .sl _ g _ _ m ds] =>
    if m * P.bytesOf e ≤ 140737488355328 ∧ ds.length = m * P.cellsOf e ∧ 0 < P.bytesOf e ∧ zeroOk P e = true ∧ 0 < m ∧ own d = none then some (.mem (some (.sm (.own d) m .no)) [] [(d, ds.map (D.av g g))]) else none
  | _, _, _, _ => none
def fBack (own0 : Nat → Option (List AV)) (tk : Nat → Option (Nat × Nat)) (rs : List Ref) (d : Nat) (m : Nat) : Option Out → Option X
  | some (.ret r ext own) => if ext.length = m ∧ (own.all fun p => (own0 (1000 * (d + 1) + p.1)).isNone) = true then some (.mem (some (r.mapRef (refBack rs (d + 1)))) (ext.map (mapRefL (refBack rs (d + 1)))) (own.map fun (k, cs) => (1000 * (d + 1) + k, mapRefL (refBack rs (d + 1)) cs))) else none
  | some (.pan v) => some (.pan v)
  | some (.rtok k n z cs) => if m = 0 ∧ tk d = none then some (.tok (.sl true true k (.tok d) n cs) (d, n, z)) else none
  | none => none
def fCallAs (Γ : Gam) (own0 : Nat → Option (List AV)) (tk : Nat → Option (Nat × Nat)) (F : List Ref) (os : List (List AV)) (d : Nat) (f : FuncId) (xs : List AV) : Option X :=
  if (F.all fun r => match r with | .own k => (tk (XK k)).isNone | .ext _ => true) = true ∧ (os.all fun cs => !cs.isEmpty) = true then fBack own0 tk F d os.length (Γ f (mapRefL (refIdx F) (asArgL xs)) (os.map fun cs => mapRefL (refIdx F) (asObjL cs))) else none
def fCall (Γ : Gam) (own0 : Nat → Option (List AV)) (tk : Nat → Option (Nat × Nat)) (F : List Ref) (os : List (List AV)) : Option Nat → List AV → Option X
  | some d, .fn fid cap :: args => if fid = YID then none else fCallAs Γ own0 tk F os d fid (args ++ cap)
  | some d, .yl l G rs :: args => fCallAs Γ own0 tk F os d YID (args ++ [.yl l G rs])
  | _, _ => none
def fPanic : List AV → Option X
  | [.ifc t (.agg [])] => some (.pan (.iface t (.agg #[])))
  | _ => none
def fAssign : List AV → Option X
  | [x] => some (.val x)
  | _ => none

def execF (P : Program) (Γ : Gam) (op : Op) (dst : Option Nat) (xs : List AV) (F : List Ref) (os : List (List AV)) (own : Nat → Option (List AV)) (tk : Nat → Option (Nat × Nat)) : Option X :=
  match op with
  | .assign _ => fAssign xs
  | .alloc t => fAlloc own dst (zeroCells P t)
  | .box _ _ => fBox own dst xs
  | .store t _ _ => fStore P t xs os
  | .panic _ => fPanic xs
  | .call c => match c.callee with
    | .builtin .append => if hintC Γ dst = true then fAppendC P own (tdesc P c.argTypes[0]?) (tdesc P c.argTypes[1]?) dst xs else if hintM Γ dst = true then fAppendM P own tk (tdesc P c.argTypes[0]?) (tdesc P c.argTypes[1]?) dst xs else fAppend P tk (tdesc P c.argTypes[0]?) (tdesc P c.argTypes[1]?) dst xs
    | .value _ => fCall Γ own tk F os dst xs
    | _ => none
  | _ => none

def St.put (st : St) (dst : Option Nat) (x : AV) : St :=
  match dst with
  | some d => { st with env := upd st.env d x }
  | none => st

def purgeAV (d : Nat) (x : AV) : AV := if x.mentions d = true then .junk else x
/-- What speaks of an object is forgotten. -/
def St.purge (d : Nat) (st : St) : St :=
  { st with env := fun e => (st.env e).map (purgeAV d), own := fun k => (st.own k).map (List.map (purgeAV d)), ext := st.ext.map (List.map (purgeAV d)) }
inductive Res where
  | go (st : St)
  | pan (v : Value)

def X.run (st : St) (o : Oper) (F : List Ref) : X → Res
  | .val x => .go (st.put o.dst x)
  | .skip => .go (st.put o.dst (.s (.tuple #[])))
  | .mem x os news =>
    let st := st.setAll F os
    let st := { st with own := news.foldl (fun own (k, cs) => upd own k cs) st.own }
    .go (st.put o.dst (x.getD (.s (.tuple #[]))))
  | .tok x new => .go ({ st with tok := upd st.tok new.1 new.2 }.put o.dst x)
  | .grow x d cs p => let st := st.purge d; .go ({ st with own := upd st.own d cs, tok := upd st.tok (XK d) p }.put o.dst x)
  | .pan v => .pan v

def St.opds (st : St) : List Operand → Option (List AV)
  | [] => some []
  | x :: r => bnd (st.opd x) fun v => bnd (st.opds r) fun vs => some (v :: vs)
def St.mems (st : St) : List Ref → Option (List (List AV))
  | [] => some []
  | x :: r => bnd (st.mem x) fun v => bnd (st.mems r) fun vs => some (v :: vs)

def quietC : Callee → Bool
  | .builtin .len => true
  | .builtin .min => true
  | .builtin .max => true
  | _ => false
def quiet : Op → Bool
  | .alloc _ | .box .. | .assign _ | .store .. | .panic _ => false
  | .call c => quietC c.callee
  | _ => true

/-- Slices that are made, and may be turned. -/
def hBuild (P : Program) (own : Nat → Option (List AV)) (tk : Nat → Option (Nat × Nat)) (len : Nat) (is : List Nat) (xs : List AV) : Option TypeDesc → Option Nat → Option X
  | some (.slice e), some d =>
    if is = List.range len ∧ (xs.all fun x => decide (x.cells.length = P.cellsOf e) && x.cells.all AV.isCell) = true ∧ len * P.cellsOf e ≤ 16777216 ∧ xs.length = len ∧ (zeroCells P e).isSome = true ∧ own d = none ∧ noMen d (xs.flatMap AV.cells) = true ∧ 0 < len * P.cellsOf e ∧ (tk (XK d) = none ∨ tk (XK d) = some (0, P.cellsOf e)) then
      some (.grow (.sm (.own d) len (.grw d (P.cellsOf e))) d (xs.flatMap AV.cells) (0, P.cellsOf e))
    else none
  | _, _ => none
def hMake (P : Program) (own : Nat → Option (List AV)) (tk : Nat → Option (Nat × Nat)) : Option TypeDesc → List AV → Option Nat → Option X
  | some (.slice e), [.s (.int _ n), .s (.int _ m)], some d =>
    if m = n ∧ 0 ≤ n ∧ P.bytesOf e * n ≤ 140737488355328 ∧ n ≤ 140737488355328 ∧ zeroOk P e = true ∧ own d = none ∧ (tk (XK d) = none ∨ tk (XK d) = some (0, P.cellsOf e)) then
      bnd (zeroDs P e) fun z => some (.grow (.sm (.own d) n.toNat (.grw d (P.cellsOf e))) d ((List.replicate n.toNat z.1).flatten.map (D.av z.2 z.2)) (0, P.cellsOf e))
    else none
  | _, _, _ => none
def execH (P : Program) (op : Op) (dst : Option Nat) (xs : List AV) (own : Nat → Option (List AV)) (tk : Nat → Option (Nat × Nat)) : Option X :=
  match op with
  | .buildSlice t len parts => hBuild P own tk len (parts.toList.map (·.1)) xs (P.underlying t) dst
  | .makeSlice t _ _ => hMake P own tk (P.underlying t) xs dst
  | _ => none
def hinted (Γ : Gam) (dst : Option Nat) : Op → Bool
  | .buildSlice .. => hintM Γ dst
  | .makeSlice .. => hintM Γ dst
  | _ => false
def dstOk (nt : Nat) : Option Nat → Bool
  | some d => decide (d < nt)
  | none => true
def stepRun (P : Program) (Γ : Gam) (st : St) (o : Oper) : Option Res :=
  bnd (st.opds o.op.operands.toList) fun xs =>
  bnd (st.mems (foot st o.op xs)) fun os =>
  if hinted Γ o.dst o.op = true then bnd (execH P o.op o.dst xs st.own st.tok) fun x => some (x.run st o (foot st o.op xs))
  else if quiet o.op then bnd (execQ P o.op xs os) fun x => some (.go (st.put o.dst x))
  else bnd (execF P Γ o.op o.dst xs (foot st o.op xs) os st.own st.tok) fun x => some (x.run st o (foot st o.op xs))

def guardOf (st : St) (ops : List Oper) (j : Nat) : Option AV :=
  match ops[j]? with
  | some o => match o.dst with | some d => st.env d | none => none
  | none => none
def guarded (b : Option Bool) (w : Bool) (x y : Option Res) : Option Res := if b = some w then x else y
@[congr] theorem guarded_congr {b b' : Option Bool} {w : Bool} {x y : Option Res} (h : b = b') : guarded b w x y = guarded b' w x y := by rw [h]
def stepOp (P : Program) (Γ : Gam) (ops : List Oper) (st : St) (o : Oper) : Option Res :=
  if dstOk st.nt o.dst = true then match o.guard with
  | none => stepRun P Γ st o
  | some (j, w) => bnd (guardOf st ops j) fun x => bnd (bit x) fun b => guarded b w (stepRun P Γ st o) (some (.go (st.put o.dst (.s (.tuple #[])))))
  else none

inductive Ex where
  | normal | exit (id : Nat) | ret | pan (v : Value)

def St.void : St := ⟨0, fun _ => none, fun _ => none, [], fun _ => none⟩
def Res.next (K : St → Option (Ex × St)) : Res → Option (Ex × St)
  | .go st' => K st'
  | .pan v => some (.pan v, St.void)
theorem Res.next_go (K : St → Option (Ex × St)) (s : St) : Res.next K (.go s) = K s := Eq.trans rfl rfl
theorem Res.next_pan (K : St → Option (Ex × St)) (v : Value) : Res.next K (.pan v) = some (.pan v, St.void) := Eq.trans rfl rfl
def runOps (P : Program) (Γ : Gam) (ops : List Oper) : List Oper → St → Option (Ex × St)
  | [], st => some (.normal, st)
  | o :: r, st => bnd (stepOp P Γ ops st o) fun x => x.next (runOps P Γ ops r)

def Ex.andThen (x : Ex × St) (K : St → Option (Ex × St)) : Option (Ex × St) :=
  match x with
  | (.normal, st) => K st
  | x => some x
def Ex.leave (id : Nat) : Ex × St → Ex × St
  | (.exit i, st) => (if i = id then .normal else .exit i, st)
  | x => x
def branch (x : AV) (a b : Option (Ex × St)) : Option (Ex × St) :=
  match x with
  | .s (.bool t) => if t then a else b
  | _ => none
@[congr] theorem branch_congr {x y : AV} {a b : Option (Ex × St)} (h : x = y) : branch x a b = branch y a b := by rw [h]
@[simp] theorem branch_true (a b : Option (Ex × St)) : branch (.s (.bool true)) a b = a := rfl
@[simp] theorem branch_false (a b : Option (Ex × St)) : branch (.s (.bool false)) a b = b := rfl
@[simp] theorem guarded_tt (x y : Option Res) : guarded (some true) true x y = x := rfl
@[simp] theorem guarded_ff (x y : Option Res) : guarded (some false) false x y = x := rfl
@[simp] theorem guarded_tf (x y : Option Res) : guarded (some true) false x y = y := rfl
@[simp] theorem guarded_ft (x y : Option Res) : guarded (some false) true x y = y := rfl
@[simp] theorem guarded_n (w : Bool) (x y : Option Res) : guarded none w x y = y := rfl

/-- Code without a loop. -/
def evC (P : Program) (Γ : Gam) : Code → St → Option (Ex × St)
  | .skip, st => some (.normal, st)
  | .ret, st => some (.ret, st)
  | .exit id, st => some (.exit id, st)
  | .seq a b, st => bnd (evC P Γ a st) fun x => Ex.andThen x (evC P Γ b)
  | .cond c a b, st => bnd (st.opd c) fun x => branch x (evC P Γ a st) (evC P Γ b st)
  | .block id c, st => bnd (evC P Γ c st) fun x => some (Ex.leave id x)
  | .region _ ops _, st => runOps P Γ ops.toList ops.toList st
  | _, _ => none

@[simp] theorem pureP_pure {α : Type} (P : Program) (a : α) : pureP P (pure a : Sem α) = some a := rfl

end Go.Ev
end

section
set_option linter.all false
set_option linter.unusedVariables false
set_option linter.unusedSimpArgs false
namespace Go.Ev

/-- How abstract values are read: which cells stay as they are (of those that are new: true), where objects lie, which slice owns its block. -/
structure Cx where
  im : Bool → Nat → Nat → Prop
  rb : Ref → Option Nat
  tc : Nat → Nat → Option Addr → Nat → Prop
  fz : Nat → Prop
  xc : Nat → Nat → Nat → Prop

def RefsB (rb : Ref → Option Nat) : List Ref → List Nat → Prop
  | [], [] => True
  | r :: rs, b :: bs => rb r = some b ∧ RefsB rb rs bs
  | _, _ => False
theorem RefsB.imp {rb rb' : Ref → Option Nat} : ∀ {rs : List Ref} {bs : List Nat}, (∀ r ∈ rs, ∀ b, rb r = some b → rb' r = some b) → RefsB rb rs bs → RefsB rb' rs bs
  | [], [], _, _ => trivial
  | [], _ :: _, _, h => h.elim
  | _ :: _, [], _, h => h.elim
  | r :: rs, b :: bs, hi, h => ⟨hi r (by simp) b h.1, RefsB.imp (fun r hr => hi r (by simp [hr])) h.2⟩
/-- How the value is read that a loop over a function hands out. -/
structure YR (w : World) (c : Cx) (l : Nat) (G : YG) (rs : List Ref) : Prop where
  fz : c.fz l
  lp : w.heap[l]? = some (.loop G.loop)
  rd : ∀ b o, G.rd b o → c.im false b o ∧ w.cell? ⟨b, o, none⟩ = G.w.cell? ⟨b, o, none⟩
  rs : RefsB c.rb rs G.be

mutual
def RD (w : World) (im : Nat → Nat → Prop) : D → Value → Prop
  | .s x, v => v = x
  | .sl n cs, v => ∃ a cap, v = .slice a n cap ∧ n ≤ cap ∧ (match a with
    | none => n = 0 ∧ cap = 0 ∧ cs = []
    | some ad => (ad.spot = none ∨ (n = 0 ∧ cs = [])) ∧ RDs w im im cs ad.block ad.off)
def RDs (w : World) (i1 i2 : Nat → Nat → Prop) : List D → Nat → Nat → Prop
  | [], _, _ => True
  | c :: r, b, o => i1 b o ∧ (∃ v, w.cell? ⟨b, o, none⟩ = some v ∧ v.oneCell' = true ∧ RD w i2 c v) ∧ RDs w i1 i2 r b (o + 1)
end

def RO (c : Cx) (k : Own) (n : Nat) (a : Option Addr) (cap : Nat) : Prop :=
  match k with
  | .no => True
  | .full => cap = n
  | .tok key => c.tc key n a cap
  | .grw _ _ => False
def RS (w : World) (c : Cx) (f g : Bool) (k : Knd) (o : Own) (n : Nat) (cs : List D) (v : Value) : Prop :=
  ∃ a cap, v = .slice a n cap ∧ n ≤ cap ∧ (match a with
    | none => n = 0 ∧ cap = 0 ∧ cs = [] ∧ k ≠ .E
    | some ad => (ad.spot = none ∨ (n = 0 ∧ cs = [])) ∧ (k = .Z → n ≠ 0) ∧ RDs w (c.im f) (c.im g) cs ad.block ad.off) ∧ RO c o n a cap

def RM (c : Cx) (r : Ref) (n : Nat) (o : Own) (a : Option Addr) (cap : Nat) : Prop :=
  match o with
  | .no => True
  | .full => False
  | .tok _ => False
  | .grw d z => r = .own d ∧ c.xc d z cap
theorem RM.imp {c c' : Cx} {r : Ref} {n : Nat} {o : Own} {a : Option Addr} {cap : Nat} (h : RM c r n o a cap) (ht : ∀ d z, o = .grw d z → c.xc d z cap → c'.xc d z cap) : RM c' r n o a cap := by
  cases o with
  | no => trivial
  | full => exact h.elim
  | tok d => exact h.elim
  | grw d z => exact ⟨h.1, ht d z rfl h.2⟩
mutual
def RV (w : World) (c : Cx) : AV → Value → Prop
  | .s x, v => v = x
  | .sl f g k o n cs, v => RS w c f g k o n cs v
  | .sm r n o, v => ∃ a cap, v = .slice a n cap ∧ n ≤ cap ∧ ((∃ b, c.rb r = some b ∧ a = some ⟨b, 0, none⟩) ∨ (n = 0 ∧ cap = 0)) ∧ RM c r n o a cap
  | .ptr r off, v => ∃ b, c.rb r = some b ∧ v = .pointer (some ⟨b, off, none⟩)
  | .pv f g cs, v => ∃ b o, v = .pointer (some ⟨b, o, none⟩) ∧ RDs w (c.im f) (c.im g) cs b o
  | .fn f cap, v => ∃ vs : List Value, v = .func (.func f) #[] vs.toArray ∧ RVs w c cap vs
  | .ifc t x, v => ∃ y, v = .iface t y ∧ RV w c x y
  | .agg cs, v => ∃ vs : List Value, v = .agg vs.toArray ∧ RVs w c cs vs
  | .tup xs, v => ∃ vs : List Value, v = .tuple vs.toArray ∧ RVs w c xs vs
  | .junk, _ => True
  | .yl l G rs, v => v = .func (.yield l) #[] #[] ∧ YR w c l G rs
def RVs (w : World) (c : Cx) : List AV → List Value → Prop
  | [], vs => vs = []
  | x :: xs, vs => ∃ v r, vs = v :: r ∧ RV w c x v ∧ RVs w c xs r
end

/-- What was known stays known. -/
structure Cx.le (w : World) (c : Cx) (w' : World) (c' : Cx) : Prop where
  im : ∀ f b o, c.im f b o → c'.im f b o
  cell : ∀ f b o, c.im f b o → w'.cell? ⟨b, o, none⟩ = w.cell? ⟨b, o, none⟩
  rb : ∀ r b, c.rb r = some b → c'.rb r = some b
  tc : ∀ k n a cap, c.tc k n a cap → c'.tc k n a cap
  fz : ∀ b, c.fz b → c'.fz b
  blk : ∀ b, c.fz b → w'.heap[b]? = w.heap[b]?
  xc : ∀ d z cap, c.xc d z cap → c'.xc d z cap

theorem Cx.le.refl (w : World) (c : Cx) : Cx.le w c w c := ⟨fun _ _ _ h => h, fun _ _ _ _ => rfl, fun _ _ h => h, fun _ _ _ _ h => h, fun _ h => h, fun _ _ => rfl, fun _ _ _ h => h⟩
theorem Cx.le.trans {w w' w'' : World} {c c' c'' : Cx} (h : Cx.le w c w' c') (h' : Cx.le w' c' w'' c'') : Cx.le w c w'' c'' :=
  ⟨fun f b o i => h'.im f b o (h.im f b o i), fun f b o i => (h'.cell f b o (h.im f b o i)).trans (h.cell f b o i), fun r b i => h'.rb r b (h.rb r b i), fun k n a cap i => h'.tc k n a cap (h.tc k n a cap i), fun b i => h'.fz b (h.fz b i), fun b i => (h'.blk b (h.fz b i)).trans (h.blk b i), fun d z a i => h'.xc d z a (h.xc d z a i)⟩

mutual
theorem RD.mono {w w' : World} {im im' : Nat → Nat → Prop} (h : ∀ b o, im b o → im' b o) (hc : ∀ b o, im b o → w'.cell? ⟨b, o, none⟩ = w.cell? ⟨b, o, none⟩) :
    ∀ (d : D) (v : Value), RD w im d v → RD w' im' d v
  | .s x, v, hv => by simpa [RD] using hv
  | .sl n cs, v, hv => by
    simp only [RD] at hv ⊢
    obtain ⟨a, cap, h1, h2, h3⟩ := hv
    refine ⟨a, cap, h1, h2, ?_⟩
    cases a with
    | none => exact h3
    | some ad => exact ⟨h3.1, RDs.mono h hc h hc cs _ _ h3.2⟩
theorem RDs.mono {w w' : World} {i1 i1' i2 i2' : Nat → Nat → Prop} (h : ∀ b o, i1 b o → i1' b o) (hc : ∀ b o, i1 b o → w'.cell? ⟨b, o, none⟩ = w.cell? ⟨b, o, none⟩)
    (h2 : ∀ b o, i2 b o → i2' b o) (hc2 : ∀ b o, i2 b o → w'.cell? ⟨b, o, none⟩ = w.cell? ⟨b, o, none⟩) :
    ∀ (cs : List D) (b o : Nat), RDs w i1 i2 cs b o → RDs w' i1' i2' cs b o
  | [], _, _, _ => by simp [RDs]
  | c :: r, b, o, hv => by
    simp only [RDs] at hv ⊢
    obtain ⟨a1, ⟨v, a2, a3, a4⟩, a5⟩ := hv
    exact ⟨h _ _ a1, ⟨v, (hc _ _ a1).trans a2, a3, RD.mono h2 hc2 c v a4⟩, RDs.mono h hc h2 hc2 r b (o + 1) a5⟩
end

theorem RS.mono {w w' : World} {c c' : Cx} (h : Cx.le w c w' c') {f g : Bool} {k : Knd} {o : Own} {n : Nat} {cs : List D} {v : Value} (hv : RS w c f g k o n cs v) : RS w' c' f g k o n cs v := by
  obtain ⟨a, cap, h1, h2, h3, h4⟩ := hv
  refine ⟨a, cap, h1, h2, ?_, ?_⟩
  · cases a with
    | none => exact h3
    | some ad => exact ⟨h3.1, h3.2.1, RDs.mono (h.im f) (h.cell f) (h.im g) (h.cell g) cs _ _ h3.2.2⟩
  · cases o with
    | no => trivial
    | full => exact h4
    | tok key => exact h.tc _ _ _ _ h4
    | grw _ _ => exact h4.elim

theorem YR.mono {w w' : World} {c c' : Cx} {l : Nat} {G : YG} {rs : List Ref} (h : Cx.le w c w' c') (hy : YR w c l G rs) : YR w' c' l G rs :=
  ⟨h.fz l hy.fz, (h.blk l hy.fz).trans hy.lp, fun b o hb => ⟨h.im _ _ _ (hy.rd b o hb).1, (h.cell _ _ _ (hy.rd b o hb).1).trans (hy.rd b o hb).2⟩, hy.rs.imp fun r _ b => h.rb r b⟩

mutual
theorem RV.mono {w w' : World} {c c' : Cx} (h : Cx.le w c w' c') : ∀ (x : AV) (v : Value), RV w c x v → RV w' c' x v
  | .s x, v, hv => by simpa [RV] using hv
  | .sl .., v, hv => by simp only [RV] at hv ⊢; exact hv.mono h
  | .sm r n o, v, hv => by
    simp only [RV] at hv ⊢
    obtain ⟨a, cap, h1, h2, h3, h4⟩ := hv
    exact ⟨a, cap, h1, h2, h3.imp (fun ⟨b, x, y⟩ => ⟨b, h.rb _ _ x, y⟩) id, h4.imp fun d z _ x => h.xc _ _ _ x⟩
  | .ptr r off, v, hv => by simp only [RV] at hv ⊢; obtain ⟨b, h1, h2⟩ := hv; exact ⟨b, h.rb _ _ h1, h2⟩
  | .pv f g cs, v, hv => by simp only [RV] at hv ⊢; obtain ⟨b, o, h1, h2⟩ := hv; exact ⟨b, o, h1, RDs.mono (h.im f) (h.cell f) (h.im g) (h.cell g) cs _ _ h2⟩
  | .fn f cap, v, hv => by simp only [RV] at hv ⊢; obtain ⟨vs, h1, h2⟩ := hv; exact ⟨vs, h1, RVs.mono h cap vs h2⟩
  | .ifc t x, v, hv => by simp only [RV] at hv ⊢; obtain ⟨y, h1, h2⟩ := hv; exact ⟨y, h1, RV.mono h x y h2⟩
  | .agg cs, v, hv => by simp only [RV] at hv ⊢; obtain ⟨vs, h1, h2⟩ := hv; exact ⟨vs, h1, RVs.mono h cs vs h2⟩
  | .tup xs, v, hv => by simp only [RV] at hv ⊢; obtain ⟨vs, h1, h2⟩ := hv; exact ⟨vs, h1, RVs.mono h xs vs h2⟩
  | .junk, _, _ => by simp [RV]
  | .yl l G rs, v, hv => by simp only [RV] at hv ⊢; exact ⟨hv.1, hv.2.mono h⟩
theorem RVs.mono {w w' : World} {c c' : Cx} (h : Cx.le w c w' c') : ∀ (xs : List AV) (vs : List Value), RVs w c xs vs → RVs w' c' xs vs
  | [], vs, hv => by simpa [RVs] using hv
  | x :: xs, vs, hv => by
    simp only [RVs] at hv ⊢
    obtain ⟨v, r, h1, h2, h3⟩ := hv
    exact ⟨v, r, h1, RV.mono h x v h2, RVs.mono h xs r h3⟩
end

theorem RVs.length {w : World} {c : Cx} : ∀ {xs : List AV} {vs : List Value}, RVs w c xs vs → vs.length = xs.length
  | [], _, h => by simp only [RVs] at h; subst h; rfl
  | x :: xs, _, h => by
    simp only [RVs] at h
    obtain ⟨v, r, rfl, _, h⟩ := h
    simp [RVs.length h]
theorem RVs.append {w : World} {c : Cx} : ∀ {xs ys : List AV} {vs us : List Value}, RVs w c xs vs → RVs w c ys us → RVs w c (xs ++ ys) (vs ++ us)
  | [], _, _, _, h, h' => by simp only [RVs] at h; subst h; exact h'
  | x :: xs, _, _, _, h, h' => by
    simp only [RVs] at h
    obtain ⟨v, r, rfl, h1, h⟩ := h
    simp only [List.cons_append, RVs]
    exact ⟨v, _, rfl, h1, RVs.append h h'⟩
theorem RVs.get {w : World} {c : Cx} : ∀ {xs : List AV} {vs : List Value}, RVs w c xs vs → ∀ (i : Nat) (x : AV), xs[i]? = some x → ∃ v, vs[i]? = some v ∧ RV w c x v
  | [], _, _, i, x, hi => by simp at hi
  | y :: ys, _, h, i, x, hi => by
    simp only [RVs] at h
    obtain ⟨v, r, rfl, h1, h⟩ := h
    cases i with
    | zero => simp at hi; subst hi; exact ⟨v, by simp, h1⟩
    | succ i => simpa using RVs.get h i x (by simpa using hi)
theorem RVs.of_get {w : World} {c : Cx} : ∀ {xs : List AV} {vs : List Value}, vs.length = xs.length → (∀ (i : Nat) (x : AV) (v : Value), xs[i]? = some x → vs[i]? = some v → RV w c x v) → RVs w c xs vs
  | [], [], _, _ => by simp [RVs]
  | [], _ :: _, h, _ => by simp at h
  | x :: xs, [], h, _ => by simp at h
  | x :: xs, v :: vs, h, k => by
    simp only [RVs]
    exact ⟨v, vs, rfl, k 0 x v (by simp) (by simp), RVs.of_get (by simpa using h) (fun i x v h1 h2 => k (i + 1) x v (by simpa using h1) (by simpa using h2))⟩

/-! ### Cells of a row -/
theorem RDs.get {w : World} {i1 i2 : Nat → Nat → Prop} : ∀ {cs : List D} {b o : Nat}, RDs w i1 i2 cs b o → ∀ (j : Nat) (d : D), cs[j]? = some d →
    i1 b (o + j) ∧ ∃ v, w.cell? ⟨b, o + j, none⟩ = some v ∧ v.oneCell' = true ∧ RD w i2 d v
  | [], _, _, _, j, d, hj => by simp at hj
  | c :: r, b, o, h, j, d, hj => by
    simp only [RDs] at h
    cases j with
    | zero => simp at hj; subst hj; exact ⟨h.1, h.2.1⟩
    | succ j =>
      have := RDs.get h.2.2 j d (by simpa using hj)
      rwa [show o + 1 + j = o + (j + 1) by omega] at this
theorem RDs.of_get {w : World} {i1 i2 : Nat → Nat → Prop} : ∀ {cs : List D} {b o : Nat}, (∀ (j : Nat) (d : D), cs[j]? = some d → i1 b (o + j) ∧ ∃ v, w.cell? ⟨b, o + j, none⟩ = some v ∧ v.oneCell' = true ∧ RD w i2 d v) →
    RDs w i1 i2 cs b o
  | [], _, _, _ => by simp [RDs]
  | c :: r, b, o, h => by
    simp only [RDs]
    refine ⟨(h 0 c (by simp)).1, (h 0 c (by simp)).2, RDs.of_get fun j d hj => ?_⟩
    have := h (j + 1) d (by simpa using hj)
    rwa [show o + (j + 1) = o + 1 + j by omega] at this
theorem RDs.drop {w : World} {i1 i2 : Nat → Nat → Prop} {cs : List D} {b o : Nat} (h : RDs w i1 i2 cs b o) (k : Nat) : RDs w i1 i2 (cs.drop k) b (o + k) :=
  RDs.of_get fun j d hj => by
    have := h.get (k + j) d (by simpa using hj)
    rwa [show o + (k + j) = o + k + j by omega] at this
theorem RDs.take {w : World} {i1 i2 : Nat → Nat → Prop} {cs : List D} {b o : Nat} (h : RDs w i1 i2 cs b o) (k : Nat) : RDs w i1 i2 (cs.take k) b o :=
  RDs.of_get fun j d hj => h.get j d (by
    rw [List.getElem?_take] at hj
    split at hj
    · exact hj
    · simp at hj)

theorem RV.ofFn {w : World} {c : Cx} (v : Value) : RV w c (AV.ofFn v) v := by
  unfold AV.ofFn
  split
  · rename_i f first cap
    unfold AV.ofFnAs
    split
    · rename_i f h1 h2
      have e1 : first = #[] := by simpa using h1
      have e2 : cap = #[] := by simpa using h2
      subst e1; subst e2
      simp only [RV]; exact ⟨[], rfl, by simp [RVs]⟩
    · simp [RV]
  · simp [RV]
theorem RV.ofCell {w : World} {c : Cx} (v : Value) : RV w c (AV.ofCell v) v := by
  unfold AV.ofCell
  split
  · unfold AV.ofSl
    split
    · simp only [AV.nilsl, RV, RS, RO]; exact ⟨none, 0, rfl, Nat.le_refl _, by simp, rfl⟩
    · simp [RV]
  · exact RV.ofFn v
theorem RVs.ofCells {w : World} {c : Cx} : ∀ (vs : List Value), RVs w c (vs.map AV.ofCell) vs
  | [] => by simp [RVs]
  | v :: r => by simp only [List.map_cons, RVs]; exact ⟨v, r, rfl, RV.ofCell v, RVs.ofCells r⟩
theorem RV.ofVal {w : World} {c : Cx} (v : Value) : RV w c (AV.ofVal v) v := by
  unfold AV.ofVal
  split
  · rename_i cs; simp only [RV]; exact ⟨cs.toList, by simp, RVs.ofCells _⟩
  · rename_i vs
    split
    · rename_i h
      have : vs = #[] := by apply Array.ext'; simpa using h
      subst this; simp [RV]
    · simp only [RV]; exact ⟨vs.toList, by simp, RVs.ofCells _⟩
  · exact RV.ofCell v

theorem av_of_D {w : World} {c : Cx} {f g : Bool} {d : D} {v : Value} (h : RD w (c.im g) d v) : RV w c (D.av f g d) v := by
  cases d with
  | s x =>
    simp only [RD] at h
    subst h
    exact RV.ofFn v
  | sl n cs =>
    simp only [RD] at h
    obtain ⟨a, cap, h1, h2, h3⟩ := h
    simp only [D.av, RV]
    refine ⟨a, cap, h1, h2, ?_, trivial⟩
    cases a with
    | none => exact ⟨h3.1, h3.2.1, h3.2.2, by simp⟩
    | some ad => exact ⟨h3.1, by simp, h3.2⟩

/-- A value in which no address is. -/
theorem cell?_sound {w : World} {c : Cx} {x : AV} {u v : Value} (h : x.cell? = some u) (hv : RV w c x v) : v = u := by
  unfold AV.cell? at h
  split at h
  · split at h
    · cases h; simpa [RV] using hv
    · cases h
  · cases h
    simp only [RV, RS] at hv
    obtain ⟨a, cap, rfl, _, h3, h4⟩ := hv
    cases a with
    | none => obtain ⟨_, rfl, _⟩ := h3; rfl
    | some ad => exact absurd rfl (h3.2.1 trivial)
  · cases h
    simp only [RV, RVs] at hv
    obtain ⟨vs, rfl, rfl⟩ := hv
    rfl
  · cases h
theorem cells?_sound {w : World} {c : Cx} : ∀ {xs : List AV} {us vs : List Value}, xs.mapM AV.cell? = some us → RVs w c xs vs → vs = us
  | [], us, vs, h, hv => by simp at h; subst h; simpa [RVs] using hv
  | x :: xs, us, vs, h, hv => by
    simp only [List.mapM_cons, Option.bind_eq_bind, Option.bind_eq_some_iff, Option.pure_def, Option.some.injEq] at h
    obtain ⟨u, h1, us', h2, rfl⟩ := h
    simp only [RVs] at hv
    obtain ⟨v, r, rfl, h3, h4⟩ := hv
    rw [cell?_sound h1 h3, cells?_sound h2 h4]
theorem val?_sound {w : World} {c : Cx} {x : AV} {u v : Value} (h : x.val? = some u) (hv : RV w c x v) : v = u := by
  unfold AV.val? at h
  split at h
  · simp only [Option.map_eq_some_iff] at h
    obtain ⟨us, h1, rfl⟩ := h
    simp only [RV] at hv
    obtain ⟨vs, rfl, h2⟩ := hv
    rw [cells?_sound h1 h2]
  · simp only [Option.map_eq_some_iff] at h
    obtain ⟨us, h1, rfl⟩ := h
    simp only [RV] at hv
    obtain ⟨vs, rfl, h2⟩ := hv
    rw [cells?_sound h1 h2]
  · cases h; simpa [RV] using hv
  · exact cell?_sound h hv

/-- A meaning that looks at the program alone. -/
theorem pureP_run {α : Type} {P : Program} : ∀ {s : Sem α} {a : α}, pureP P s = some a → ∀ w, s.run P w = .ok a w
  | .pure a, b, h, w => by simp only [pureP, Option.some.injEq] at h; subst h; rfl
  | .program k, b, h, w => by simp only [pureP] at h; exact pureP_run h w
  | .load .., _, h, _ => by simp [pureP] at h
  | .store .., _, h, _ => by simp [pureP] at h
  | .new .., _, h, _ => by simp [pureP] at h
  | .shape .., _, h, _ => by simp [pureP] at h
  | .freeze .., _, h, _ => by simp [pureP] at h
  | .frozen .., _, h, _ => by simp [pureP] at h
  | .getObj .., _, h, _ => by simp [pureP] at h
  | .setObj .., _, h, _ => by simp [pureP] at h
  | .choose .., _, h, _ => by simp [pureP] at h
  | .sys .., _, h, _ => by simp [pureP] at h
  | .mark .., _, h, _ => by simp [pureP] at h
  | .halt .., _, h, _ => by simp [pureP] at h

theorem isCell_sound {w : World} {c : Cx} {x : AV} {v : Value} (h : x.isCell = true) (hv : RV w c x v) : v.oneCell' = true := by
  unfold AV.isCell at h
  split at h
  · simp only [RV] at hv; subst hv; exact h
  · simp only [RV, RS] at hv; obtain ⟨a, cap, rfl, _⟩ := hv; rfl
  · simp only [RV] at hv; obtain ⟨a, cap, rfl, _⟩ := hv; rfl
  · simp only [RV] at hv; obtain ⟨a, _, rfl⟩ := hv; rfl
  · simp only [RV] at hv; obtain ⟨a, cap, rfl, _⟩ := hv; rfl
  · simp only [RV] at hv; obtain ⟨a, rfl, _⟩ := hv; rfl
  · simp only [RV] at hv; obtain ⟨a, rfl, _⟩ := hv; rfl
  · simp only [RV] at hv; obtain ⟨rfl, _⟩ := hv; rfl
  · cases h

/-- The cells of a value. -/
theorem cells_sound {w : World} {c : Cx} {x : AV} {v : Value} (hc : x.cells.all AV.isCell = true) (hv : RV w c x v) :
    RVs w c x.cells v.cells.toList ∧ ∀ u ∈ v.cells.toList, u.oneCell' = true := by
  have key : RVs w c x.cells v.cells.toList := by
    cases x with
    | agg cs =>
      simp only [RV] at hv
      obtain ⟨vs, rfl, h⟩ := hv
      simpa [AV.cells, Value.cells] using h
    | _ =>
      all_goals
        have h1 := isCell_sound (by simpa [AV.cells] using hc) hv
        have : v.cells = #[v] := by cases v <;> first | rfl | simp [Value.oneCell'] at h1
        rw [this]
        simpa [AV.cells, RVs] using hv
  refine ⟨key, fun u hu => ?_⟩
  obtain ⟨i, hi, rfl⟩ := List.mem_iff_getElem.1 hu
  have hl := key.length
  have hx : x.cells[i]? = some (x.cells[i]'(by omega)) := by simp [show i < x.cells.length by omega]
  obtain ⟨u, h1, h2⟩ := key.get i _ hx
  rw [List.getElem?_eq_getElem hi] at h1
  cases h1
  exact isCell_sound (List.all_eq_true.1 hc _ (List.getElem_mem _)) h2

theorem toD?_sound {w : World} {c : Cx} {x : AV} {v : Value} {d : D} {b : Bool} (hi : ∀ b o, c.im true b o → c.im false b o) (h : x.toD? = some (d, b)) (hv : RV w c x v) :
    v.oneCell' = true ∧ RD w (c.im b) d v := by
  unfold AV.toD? at h
  split at h
  · split at h
    · cases h; simp only [RV] at hv; subst hv; exact ⟨by assumption, by simp [RD]⟩
    · cases h
  · rename_i f g k o n cs
    cases h
    simp only [RV, RS] at hv
    obtain ⟨a, cap, rfl, h2, h3, h4⟩ := hv
    refine ⟨rfl, ?_⟩
    simp only [RD]
    refine ⟨a, cap, rfl, h2, ?_⟩
    have up : ∀ (x : Bool), (f && g) = true ∨ (f && g) = false := fun _ => by cases f <;> cases g <;> simp
    cases a with
    | none => exact ⟨h3.1, h3.2.1, h3.2.2.1⟩
    | some ad =>
      refine ⟨h3.1, RDs.mono ?_ (fun _ _ _ => rfl) ?_ (fun _ _ _ => rfl) cs _ _ h3.2.2⟩
      · intro b o; cases f <;> cases g <;> simp <;> first | exact id | exact hi b o
      · intro b o; cases f <;> cases g <;> simp <;> first | exact id | exact hi b o
  · cases h
    simp only [RV, RVs] at hv
    obtain ⟨vs, rfl, rfl⟩ := hv
    exact ⟨rfl, by simp [RD]⟩
  · cases h
end Go.Ev
end

section
set_option linter.all false
set_option linter.unusedVariables false
set_option linter.unusedSimpArgs false
namespace Go.Ev

inductive Who where
  | free | obj | tok (thr : Nat)

/-- What may be read: cells; whole blocks; and the marks of this frame's loops over functions. -/
structure Rd where
  c : Nat → Nat → Prop
  z : Nat → Prop
  d : List Nat
  e : List Nat
instance : CoeFun Rd (fun _ => Nat → Nat → Prop) := ⟨Rd.c⟩
/-- Where things lie. -/
structure Lay where
  rd : Rd
  be : List Nat
  rb : Ref → Option Nat
  ow : Nat → Who
  bt : Nat → Option (Nat × Nat)
  xt : Nat → Option (Nat × Nat)

def whoLets : Who → Nat → Prop
  | .free, _ => True
  | .obj, _ => False
  | .tok thr, o => o < thr
def fresh (w0 w : World) (l : Lay) (b o : Nat) : Prop := w0.heap.size ≤ b ∧ b < w.heap.size ∧ whoLets (l.ow b) o
def Lay.live (l : Lay) (k n n' : Nat) (a : Option Addr) (cap : Nat) : Prop :=
  n = n' → match l.bt k with
    | none => cap = n
    | some (b, cap') => a = some ⟨b, 0, none⟩ ∧ cap = cap'
def cx (w0 w : World) (l : Lay) (tk : Nat → Option (Nat × Nat)) : Cx where
  im f b o := fresh w0 w l b o ∨ (f = false ∧ l.rd b o)
  rb := l.rb
  tc k n a cap := ∃ n' z, tk k = some (n', z) ∧ n ≤ n' ∧ l.live k n n' a cap
  fz b := l.rd.z b ∨ b ∈ l.rd.d ++ l.rd.e
  xc d z cap := match l.xt d with | some (c, z') => cap = c ∧ z = z' | none => cap = 0

def objR (w : World) (c : Cx) (b : Nat) (cells : List AV) : Prop :=
  ∃ (cv : Array Value) (T : TypeId), w.heap[b]? = some (.cells cv T (0, 0)) ∧ cells.length ≤ cv.size ∧ ∀ (j : Nat) (x : AV), cells[j]? = some x → ∃ v, cv[j]? = some v ∧ v.oneCell' = true ∧ RV w c x v

theorem objR.mono {w w' : World} {c c' : Cx} {b : Nat} {cells : List AV} (h : objR w c b cells) (hle : Cx.le w c w' c') (hb : w'.heap[b]? = w.heap[b]?) : objR w' c' b cells := by
  obtain ⟨cv, T, h1, h2, h3⟩ := h
  refine ⟨cv, T, hb.trans h1, h2, fun j x hj => ?_⟩
  obtain ⟨v, a, b, d⟩ := h3 j x hj
  exact ⟨v, a, b, RV.mono hle x v d⟩

/-- The blocks that stay whole. -/
structure Fzs (w0 w : World) (l : Lay) : Prop where
  z : ∀ b, l.rd.z b → b < w0.heap.size ∧ b ∉ l.be
  d : ∀ D, D ∈ l.rd.d → w0.heap.size ≤ D ∧ D < w.heap.size ∧ l.ow D = .free ∧ w.heap[D]? = some (.deferred (some []))
  nd : l.rd.d.Nodup
  e : ∀ D, D ∈ l.rd.e → w0.heap.size ≤ D ∧ D < w.heap.size ∧ l.ow D = .free
theorem Fzs.de {w0 w : World} {l : Lay} (h : Fzs w0 w l) (D : Nat) (hD : D ∈ l.rd.d ++ l.rd.e) : w0.heap.size ≤ D ∧ D < w.heap.size ∧ l.ow D = .free := by
  rcases List.mem_append.1 hD with hD | hD
  · have := h.d D hD; exact ⟨this.1, this.2.1, this.2.2.1⟩
  · exact h.e D hD
theorem Fzs.step {w0 w w' : World} {l l' : Lay} (h : Fzs w0 w l) (hs : w.heap.size ≤ w'.heap.size) (hd : ∀ D, D ∈ l.rd.d ++ l.rd.e → w'.heap[D]? = w.heap[D]?) (ho : ∀ D, D < w.heap.size → l.ow D = .free → l'.ow D = .free)
    (hr : l'.rd = l.rd) (hb : l'.be = l.be) : Fzs w0 w' l' :=
  ⟨fun b hz => by rw [hb]; exact h.z b (by rw [← hr]; exact hz), fun D hD => by
    rw [hr] at hD
    obtain ⟨a1, a2, a3, a4⟩ := h.d D hD
    exact ⟨a1, Nat.lt_of_lt_of_le a2 hs, ho D a2 a3, (hd D (List.mem_append_left _ hD)).trans a4⟩, by rw [hr]; exact h.nd, fun D hD => by
    rw [hr] at hD
    obtain ⟨a1, a2, a3⟩ := h.e D hD
    exact ⟨a1, Nat.lt_of_lt_of_le a2 hs, ho D a2 a3⟩⟩

structure MR (w0 w : World) (l : Lay) (st : St) : Prop where
  os : w.os = w0.os
  tape : w.tape = w0.tape
  output : w.output = w0.output
  size : w0.heap.size ≤ w.heap.size
  old : ∀ b, b < w0.heap.size → b ∉ l.be → w.heap[b]? = w0.heap[b]?
  bel : ∀ b ∈ l.be, b < w0.heap.size
  ext : ∀ i, l.rb (.ext i) = l.be[i]?
  extn : st.ext.length = l.be.length
  inj : ∀ r r' b, l.rb r = some b → l.rb r' = some b → r = r'
  dom : ∀ r b, l.rb r = some b → ∃ cs, st.mem r = some cs
  obj : ∀ r cs, st.mem r = some cs → (cs = [] ∧ l.rb r = none) ∨ ∃ b, l.rb r = some b ∧ objR w (cx w0 w l st.tok) b cs
  rblt : ∀ r b, l.rb r = some b → b < w.heap.size
  rbow : ∀ k b, l.rb (.own k) = some b → w0.heap.size ≤ b ∧ l.ow b = .obj
  owobj : ∀ b, l.ow b = .obj → ∃ k, l.rb (.own k) = some b
  owfree : ∀ b, w.heap.size ≤ b → l.ow b = .free
  owold : ∀ b, b < w0.heap.size → l.ow b = .free
  rdok : ∀ b o, l.rd b o → b < w0.heap.size ∧ b ∉ l.be
  tokd : ∀ k b cap, l.bt k = some (b, cap) → ∃ n z, st.tok k = some (n, z) ∧ l.ow b = .tok (n * z) ∧ w0.heap.size ≤ b ∧ b < w.heap.size ∧ n ≤ cap ∧ ∃ (cv : Array Value) (T : TypeId), w.heap[b]? = some (.cells cv T (0, 0)) ∧ cap * z ≤ cv.size
  tokinj : ∀ k k' b cap cap', l.bt k = some (b, cap) → l.bt k' = some (b, cap') → k = k'
  fzs : Fzs w0 w l
  xtd : ∀ k cap z, l.xt k = some (cap, z) → (st.tok (XK k)).isSome = true ∧ ∃ b, l.rb (.own k) = some b ∧ ∃ (cv : Array Value) (T : TypeId), w.heap[b]? = some (.cells cv T (0, 0)) ∧ cap * z ≤ cv.size

variable {w0 w : World} {l : Lay} {st : St}

theorem cx_down (tk : Nat → Option (Nat × Nat)) (f : Bool) : ∀ b o, (cx w0 w l tk).im f b o → (cx w0 w l tk).im false b o := fun b o h => h.imp id (fun h => ⟨rfl, h.2⟩)

/-- The parts of MR that turn neither objects nor tokens. -/
theorem cell_of_heap {w w' : World} {b o : Nat} (h : w'.heap[b]? = w.heap[b]?) : w'.cell? ⟨b, o, none⟩ = w.cell? ⟨b, o, none⟩ := by simp [World.cell?, h]

theorem cxle_of {w' : World} {l' : Lay} {tk tk' : Nat → Option (Nat × Nat)} (h : MR w0 w l st) (hrd : l'.rd = l.rd) (hold : ∀ b, b < w0.heap.size → b ∉ l.be → w'.heap[b]? = w0.heap[b]?)
    (hf : ∀ b o, fresh w0 w l b o → fresh w0 w' l' b o ∧ w'.cell? ⟨b, o, none⟩ = w.cell? ⟨b, o, none⟩) (hrb : ∀ r b, l.rb r = some b → l'.rb r = some b)
    (htc : ∀ k n a cap, (cx w0 w l tk).tc k n a cap → (cx w0 w' l' tk').tc k n a cap) (hd : ∀ D, D ∈ l.rd.d ++ l.rd.e → w'.heap[D]? = w.heap[D]?) (hxc : ∀ d z cap, (cx w0 w l tk).xc d z cap → (cx w0 w' l' tk').xc d z cap := by exact fun _ _ _ h => h) : Cx.le w (cx w0 w l tk) w' (cx w0 w' l' tk') := by
  refine ⟨fun f b o hi => ?_, fun f b o hi => ?_, hrb, htc, fun b hb => by show l'.rd.z b ∨ b ∈ l'.rd.d ++ l'.rd.e; rw [hrd]; exact hb, fun b hb => ?_, hxc⟩
  · rcases hi with hi | ⟨h1, h2⟩
    · exact .inl (hf b o hi).1
    · exact .inr ⟨h1, by rw [hrd]; exact h2⟩
  · rcases hi with hi | ⟨h1, h2⟩
    · exact (hf b o hi).2
    · have := h.rdok b o h2
      exact cell_of_heap ((hold b this.1 this.2).trans (h.old b this.1 this.2).symm)
  · rcases hb with hb | hb
    · have := h.fzs.z b hb
      exact (hold b this.1 this.2).trans (h.old b this.1 this.2).symm
    · exact hd b hb

theorem heap_alloc_lt (w : World) (o : Obj) (i : Nat) (h : i < w.heap.size) : (w.alloc o).heap[i]? = w.heap[i]? := Go.RowKit.Below.heap_alloc w o i h

/-- A new block. -/
theorem MR.alloc (h : MR w0 w l st) (o : Obj) : MR w0 (w.alloc o) l st ∧ Cx.le w (cx w0 w l st.tok) (w.alloc o) (cx w0 (w.alloc o) l st.tok) := by
  have hs : (w.alloc o).heap.size = w.heap.size + 1 := by simp
  have hle : Cx.le w (cx w0 w l st.tok) (w.alloc o) (cx w0 (w.alloc o) l st.tok) := cxle_of h rfl
    (fun b hb hn => (heap_alloc_lt w o b (Nat.lt_of_lt_of_le hb h.size)).trans (h.old b hb hn))
    (fun b o' hb => ⟨⟨hb.1, by rw [hs]; exact Nat.lt_succ_of_lt hb.2.1, hb.2.2⟩, cell_of_heap (heap_alloc_lt w o b hb.2.1)⟩) (fun _ _ h => h) (fun _ _ _ _ h => h) (fun D hD => heap_alloc_lt w o D (h.fzs.de D hD).2.1)
  refine ⟨⟨h.os, h.tape, h.output, by rw [hs]; exact Nat.le_succ_of_le h.size, fun b hb hn => (heap_alloc_lt w o b (Nat.lt_of_lt_of_le hb h.size)).trans (h.old b hb hn), h.bel, h.ext, h.extn, h.inj, h.dom, ?_, ?_, h.rbow, h.owobj, ?_, h.owold, h.rdok, ?_, h.tokinj, h.fzs.step (by rw [hs]; exact Nat.le_succ _) (fun D hD => heap_alloc_lt w o D (h.fzs.de D hD).2.1) (fun _ _ h => h) rfl rfl, fun k c z hk => ?_⟩, hle⟩
  · intro r cs hr
    rcases h.obj r cs hr with e | ⟨b, h1, h2⟩
    · exact .inl e
    · exact .inr ⟨b, h1, h2.mono hle (heap_alloc_lt w o b (h.rblt r b h1))⟩
  · intro r b hr; rw [hs]; exact Nat.lt_succ_of_lt (h.rblt r b hr)
  · intro b hb; exact h.owfree b (by rw [hs] at hb; exact Nat.le_of_succ_le hb)
  · intro k b cap hk
    obtain ⟨n, z, a1, a2, a3, a4, a5, cv, T, a6, a7⟩ := h.tokd k b cap hk
    exact ⟨n, z, a1, a2, a3, by rw [hs]; exact Nat.lt_succ_of_lt a4, a5, cv, T, (heap_alloc_lt w o b a4).trans a6, a7⟩
  · obtain ⟨a, b, q1, cv, T, q2, q3⟩ := h.xtd k c z hk
    exact ⟨a, b, q1, cv, T, (heap_alloc_lt w o b (h.rblt _ _ q1)).trans q2, q3⟩

theorem MR.drew (h : MR w0 w l st) : MR w0 w.drew l st ∧ Cx.le w (cx w0 w l st.tok) w.drew (cx w0 w.drew l st.tok) := by
  have hle : Cx.le w (cx w0 w l st.tok) w.drew (cx w0 w.drew l st.tok) := ⟨fun _ _ _ h => h, fun _ _ _ _ => rfl, fun _ _ h => h, fun _ _ _ _ h => h, fun _ h => h, fun _ _ => rfl, fun _ _ _ h => h⟩
  refine ⟨⟨h.os, h.tape, h.output, h.size, h.old, h.bel, h.ext, h.extn, h.inj, h.dom, ?_, h.rblt, h.rbow, h.owobj, h.owfree, h.owold, h.rdok, h.tokd, h.tokinj, h.fzs.step (Nat.le_refl _) (fun _ _ => rfl) (fun _ _ h => h) rfl rfl, h.xtd⟩, hle⟩
  intro r cs hr
  rcases h.obj r cs hr with e | ⟨b, h1, h2⟩
  · exact .inl e
  · exact .inr ⟨b, h1, h2.mono hle rfl⟩

/-- A slot is turned. -/
theorem MR.env (h : MR w0 w l st) (st' : St) (h1 : st'.own = st.own) (h2 : st'.ext = st.ext) (h3 : st'.tok = st.tok) : MR w0 w l st' := by
  have hm : ∀ r, st'.mem r = st.mem r := fun r => by cases r <;> simp [St.mem, h1, h2]
  refine ⟨h.os, h.tape, h.output, h.size, h.old, h.bel, h.ext, by rw [h2]; exact h.extn, h.inj, fun r b hr => ?_, fun r cs hr => ?_, h.rblt, h.rbow, h.owobj, h.owfree, h.owold, h.rdok, fun k b cap hk => ?_, h.tokinj, h.fzs, fun k c z hk => by rw [h3]; exact h.xtd k c z hk⟩
  · rw [hm]; exact h.dom r b hr
  · rw [h3]; exact h.obj r cs (by rwa [hm] at hr)
  · rw [h3]; exact h.tokd k b cap hk

/-- The slots. -/
def ER (w : World) (c : Cx) (st : St) (tmps : Array Value) : Prop := tmps.size = st.nt ∧ ∀ d x, st.env d = some x → d < st.nt ∧ RV w c x (tmps.getD d undef)

theorem ER.mono {w w' : World} {c c' : Cx} {tmps : Array Value} (h : ER w c st tmps) (hle : Cx.le w c w' c') : ER w' c' st tmps :=
  ⟨h.1, fun d x hd => ⟨(h.2 d x hd).1, RV.mono hle x _ (h.2 d x hd).2⟩⟩

theorem ER.put {w : World} {c : Cx} {a : Act} {dst : Option Nat} {x : AV} {v : Value} (h : ER w c st a.tmps) (hd : dstOk st.nt dst = true) (hv : RV w c x v) :
    ER w c (st.put dst x) (a.put dst v).tmps := by
  cases dst with
  | none => exact h
  | some d =>
    have hd' : d < st.nt := by simpa [dstOk] using hd
    refine ⟨by simp [Act.put, St.put, h.1], fun e y he => ?_⟩
    simp only [St.put, upd] at he
    by_cases hed : e = d
    · subst hed
      simp only [if_true] at he
      cases he
      refine ⟨by simpa [St.put] using hd', ?_⟩
      simp only [Act.put, Array.getD_eq_getD_getElem?]
      rw [Array.getElem?_setIfInBounds]
      simpa [h.1, hd'] using hv
    · simp only [hed, if_false] at he
      obtain ⟨h1, h2⟩ := h.2 e y he
      refine ⟨by simpa [St.put] using h1, ?_⟩
      simp only [Act.put, Array.getD_eq_getD_getElem?]
      rw [Array.getElem?_setIfInBounds_ne (fun h => hed h.symm)]
      simpa [Array.getD_eq_getD_getElem?] using h2

theorem St.put_own (st : St) (d : Option Nat) (x : AV) : (st.put d x).own = st.own := by cases d <;> rfl
theorem St.put_ext (st : St) (d : Option Nat) (x : AV) : (st.put d x).ext = st.ext := by cases d <;> rfl
theorem St.put_tok (st : St) (d : Option Nat) (x : AV) : (st.put d x).tok = st.tok := by cases d <;> rfl
theorem St.put_nt (st : St) (d : Option Nat) (x : AV) : (st.put d x).nt = st.nt := by cases d <;> rfl

/-- A new object. -/
theorem MR.newObjP (h : MR w0 w l st) (k : Nat) (hk : st.own k = none) (cells : List AV) (vs : List Value) (T : TypeId) (hl : cells.length ≤ vs.length) (hv : ∀ (j : Nat) (x : AV), cells[j]? = some x → ∃ v, vs[j]? = some v ∧ v.oneCell' = true ∧ RV w (cx w0 w l st.tok) x v) :
    ∃ l', MR w0 (w.alloc (.cells vs.toArray T)) l' { st with own := upd st.own k cells } ∧ Cx.le w (cx w0 w l st.tok) (w.alloc (.cells vs.toArray T)) (cx w0 (w.alloc (.cells vs.toArray T)) l' st.tok) ∧
      l'.rb (.own k) = some w.heap.size ∧ l'.rd = l.rd ∧ l'.be = l.be := by
  have hrb : l.rb (.own k) = none := by
    cases hh : l.rb (.own k) with
    | none => rfl
    | some b => obtain ⟨cs, hc⟩ := h.dom _ _ hh; simp [St.mem, hk] at hc
  let l' : Lay := { l with rb := fun r => if r = .own k then some w.heap.size else l.rb r, ow := fun b => if b = w.heap.size then .obj else l.ow b }
  have hs : (w.alloc (.cells vs.toArray T)).heap.size = w.heap.size + 1 := by simp
  have hrb' : ∀ r b, l.rb r = some b → l'.rb r = some b := fun r b hr => by
    have : r ≠ .own k := fun e => by subst e; rw [hrb] at hr; cases hr
    simp [l', this, hr]
  have hle : Cx.le w (cx w0 w l st.tok) (w.alloc (.cells vs.toArray T)) (cx w0 (w.alloc (.cells vs.toArray T)) l' st.tok) := cxle_of h rfl
    (fun b hb hn => (heap_alloc_lt w _ b (Nat.lt_of_lt_of_le hb h.size)).trans (h.old b hb hn))
    (fun b o' hb => ⟨⟨hb.1, by rw [hs]; exact Nat.lt_succ_of_lt hb.2.1, by simp only [l']; rw [if_neg (Nat.ne_of_lt hb.2.1)]; exact hb.2.2⟩, cell_of_heap (heap_alloc_lt w _ b hb.2.1)⟩) hrb' (fun _ _ _ _ h => h) (fun D hD => heap_alloc_lt w _ D (h.fzs.de D hD).2.1)
  have hmem : ∀ r, r ≠ .own k → ({ st with own := upd st.own k cells } : St).mem r = st.mem r := fun r hr => by
    cases r with
    | own j => have : j ≠ k := fun e => hr (by rw [e]); simp [St.mem, upd, this]
    | ext i => rfl
  refine ⟨l', ⟨h.os, h.tape, h.output, by rw [hs]; exact Nat.le_succ_of_le h.size, fun b hb hn => (heap_alloc_lt w _ b (Nat.lt_of_lt_of_le hb h.size)).trans (h.old b hb hn), h.bel, ?_, h.extn, ?_, ?_, ?_, ?_, ?_, ?_, ?_, ?_, h.rdok, ?_, h.tokinj, h.fzs.step (by rw [hs]; exact Nat.le_succ _) (fun D hD => heap_alloc_lt w _ D (h.fzs.de D hD).2.1) (fun D hD ho => by simp only [l']; rw [if_neg (Nat.ne_of_lt hD)]; exact ho) rfl rfl, fun j c z hj => ?_⟩, hle, by simp [l'], rfl, rfl⟩
  · intro i; simp only [l']; rw [if_neg (by simp)]; exact h.ext i
  · intro r r' b hr hr'
    simp only [l'] at hr hr'
    split at hr <;> split at hr'
    · rename_i a b; rw [a, b]
    · cases hr; exact absurd (h.rblt _ _ hr') (Nat.lt_irrefl _)
    · cases hr'; exact absurd (h.rblt _ _ hr) (Nat.lt_irrefl _)
    · exact h.inj _ _ _ hr hr'
  · intro r b hr
    by_cases e : r = .own k
    · subst e; exact ⟨cells, by simp [St.mem, upd]⟩
    · simp only [l', e, if_false] at hr
      rw [hmem r e]; exact h.dom r b hr
  · intro r cs hr
    by_cases e : r = .own k
    · subst e
      simp [St.mem, upd] at hr
      subst hr
      refine .inr ⟨w.heap.size, by simp [l'], vs.toArray, T, heap_alloc_new w _, by simpa using hl, fun j x hj => ?_⟩
      obtain ⟨v, a, h1, b⟩ := hv j x hj
      exact ⟨v, by simpa using a, h1, RV.mono hle x v b⟩
    · rw [hmem r e] at hr
      rcases h.obj r cs hr with e0 | ⟨b, a1, a2⟩
      · exact .inl ⟨e0.1, by simp only [l']; rw [if_neg e]; exact e0.2⟩
      · exact .inr ⟨b, hrb' r b a1, a2.mono hle (heap_alloc_lt w _ b (h.rblt r b a1))⟩
  · intro r b hr
    rw [hs]
    simp only [l'] at hr
    split at hr
    · cases hr; exact Nat.lt_succ_self _
    · exact Nat.lt_succ_of_lt (h.rblt _ _ hr)
  · intro j b hr
    simp only [l'] at hr ⊢
    split at hr
    · cases hr; exact ⟨h.size, by simp⟩
    · have := h.rbow j b hr
      rw [if_neg (Nat.ne_of_lt (h.rblt _ _ hr))]
      exact this
  · intro b hb
    simp only [l'] at hb
    split at hb
    · rename_i e; exact ⟨k, by simp [l', e]⟩
    · obtain ⟨j, hj⟩ := h.owobj b hb; exact ⟨j, hrb' _ _ hj⟩
  · intro b hb
    rw [hs] at hb
    simp only [l']
    rw [if_neg (by omega)]
    exact h.owfree b (by omega)
  · intro b hb
    simp only [l']
    rw [if_neg (by have := h.size; omega)]
    exact h.owold b hb
  · intro j b cap hj
    obtain ⟨n, z, a1, a2, a3, a4, a5, cv, T', a6, a7⟩ := h.tokd j b cap hj
    exact ⟨n, z, a1, by simp only [l']; rw [if_neg (Nat.ne_of_lt a4)]; exact a2, a3, by rw [hs]; exact Nat.lt_succ_of_lt a4, a5, cv, T', (heap_alloc_lt w _ b a4).trans a6, a7⟩
  · obtain ⟨a, b, q1, cv, T, q2, q3⟩ := h.xtd j c z hj
    exact ⟨a, b, hrb' _ _ q1, cv, T, (heap_alloc_lt w _ b (h.rblt _ _ q1)).trans q2, q3⟩
theorem MR.newObj' (h : MR w0 w l st) (k : Nat) (hk : st.own k = none) (cells : List AV) (vs : List Value) (T : TypeId) (hv : RVs w (cx w0 w l st.tok) cells vs) (h1 : ∀ u ∈ vs, u.oneCell' = true) :
    ∃ l', MR w0 (w.alloc (.cells vs.toArray T)) l' { st with own := upd st.own k cells } ∧ Cx.le w (cx w0 w l st.tok) (w.alloc (.cells vs.toArray T)) (cx w0 (w.alloc (.cells vs.toArray T)) l' st.tok) ∧
      l'.rb (.own k) = some w.heap.size ∧ l'.rd = l.rd ∧ l'.be = l.be :=
  h.newObjP k hk cells vs T (by rw [hv.length]; exact Nat.le_refl _) fun j x hj => by
    obtain ⟨v, a, b⟩ := hv.get j x hj
    exact ⟨v, a, h1 v (List.mem_of_getElem? a), b⟩

/-- A store into an object. -/
theorem MR.store (h : MR w0 w l st) (r : Ref) (cs : List AV) (hr : st.mem r = some cs) (b : Nat) (hb : l.rb r = some b) (cs' : List AV) (cv cv' : Array Value) (T : TypeId)
    (hcv : w.heap[b]? = some (.cells cv T (0, 0))) (hsz : cs'.length ≤ cv'.size) (hlen : cs'.length = cs.length ∨ True)
    (hcells : ∀ (j : Nat) (x : AV), cs'[j]? = some x → ∃ v, cv'[j]? = some v ∧ v.oneCell' = true ∧ RV w (cx w0 w l st.tok) x v) (hsame : cv'.size = cv.size) :
    MR w0 (w.setRow b cv') l (st.setMem r cs') ∧ Cx.le w (cx w0 w l st.tok) (w.setRow b cv') (cx w0 (w.setRow b cv') l st.tok) := by
  have hs : (w.setRow b cv').heap.size = w.heap.size := by simp
  have hnew := setRow_heap w b cv cv' T _ hcv
  have hob : ∀ k, k ≠ b → (w.setRow b cv').heap[k]? = w.heap[k]? := fun k hk => setRow_other w b k cv' hk
  have hnf : ∀ b' o, fresh w0 w l b' o → b' ≠ b := fun b' o hf e => by
    subst e
    cases r with
    | own k => have := (h.rbow k _ hb).2; simp [fresh, whoLets, this] at hf
    | ext i =>
      have h1 := h.ext i
      rw [hb] at h1
      exact absurd (h.bel _ (List.mem_of_getElem? h1.symm)) (Nat.not_lt.2 hf.1)
  have hold : ∀ b', b' < w0.heap.size → b' ∉ l.be → (w.setRow b cv').heap[b']? = w0.heap[b']? := fun b' h1 h2 => by
    have : b' ≠ b := fun e => by
      subst e
      cases r with
      | own k => exact absurd (h.rbow k _ hb).1 (Nat.not_le.2 h1)
      | ext i => have h3 := h.ext i; rw [hb] at h3; exact h2 (List.mem_of_getElem? h3.symm)
    rw [hob _ this]; exact h.old b' h1 h2
  have hdn : ∀ D, D ∈ l.rd.d ++ l.rd.e → D ≠ b := fun D hD e => by
    subst e
    have h4 := h.fzs.de D hD
    cases r with
    | own k => have := (h.rbow k _ hb).2; rw [h4.2.2] at this; cases this
    | ext i =>
      have h1 := h.ext i
      rw [hb] at h1
      exact absurd (h.bel _ (List.mem_of_getElem? h1.symm)) (Nat.not_lt.2 h4.1)
  have hle : Cx.le w (cx w0 w l st.tok) (w.setRow b cv') (cx w0 (w.setRow b cv') l st.tok) := cxle_of h rfl hold
    (fun b' o hf => ⟨⟨hf.1, by rw [hs]; exact hf.2.1, hf.2.2⟩, cell_of_heap (hob _ (hnf b' o hf))⟩) (fun _ _ h => h) (fun _ _ _ _ h => h) (fun D hD => hob D (hdn D hD))
  have hmem : ∀ r', r' ≠ r → (st.setMem r cs').mem r' = st.mem r' := fun r' hne => by
    cases r with
    | own k =>
      cases r' with
      | own j => have : j ≠ k := fun e => hne (by rw [e]); simp [St.mem, St.setMem, upd, this]
      | ext i => rfl
    | ext i =>
      cases r' with
      | own j => rfl
      | ext j => have : i ≠ j := fun e => hne (by rw [e]); simp [St.mem, St.setMem, List.getElem?_set, this]
  have hself : (st.setMem r cs').mem r = some cs' := by
    cases r with
    | own k => simp [St.mem, St.setMem, upd]
    | ext i =>
      simp only [St.mem] at hr
      have : i < st.ext.length := by
        rcases Nat.lt_or_ge i st.ext.length with h | h
        · exact h
        · simp [List.getElem?_eq_none h] at hr
      simp [St.mem, St.setMem, this]
  have htok : (st.setMem r cs').tok = st.tok := by cases r <;> rfl
  refine ⟨⟨h.os, h.tape, h.output, by rw [hs]; exact h.size, hold, h.bel, h.ext, ?_, h.inj, ?_, ?_, ?_, h.rbow, h.owobj, ?_, h.owold, h.rdok, ?_, h.tokinj, h.fzs.step (by rw [hs]; exact Nat.le_refl _) (fun D hD => hob D (hdn D hD)) (fun _ _ h => h) rfl rfl, fun k c z hk => ?_⟩, hle⟩
  · rw [← h.extn]; cases r <;> simp [St.setMem]
  · intro r' b' h'
    by_cases e : r' = r
    · subst e; exact ⟨cs', hself⟩
    · rw [hmem r' e]; exact h.dom r' b' h'
  · intro r' cs2 h'
    rw [htok]
    by_cases e : r' = r
    · subst e
      rw [hself] at h'
      cases h'
      refine .inr ⟨b, hb, cv', T, hnew, hsz, fun j x hj => ?_⟩
      obtain ⟨v, a1, a2, a3⟩ := hcells j x hj
      exact ⟨v, a1, a2, RV.mono hle x v a3⟩
    · rw [hmem r' e] at h'
      rcases h.obj r' cs2 h' with e0 | ⟨b', a1, a2⟩
      · exact .inl e0
      · exact .inr ⟨b', a1, a2.mono hle (hob b' (fun eb => e (h.inj _ _ _ (eb ▸ a1) hb)))⟩
  · intro r' b' h'; rw [hs]; exact h.rblt r' b' h'
  · intro b' h'; rw [hs] at h'; exact h.owfree b' h'
  · intro k b' cap hk
    rw [htok]
    obtain ⟨n, z, a1, a2, a3, a4, a5, cv2, T', a6, a7⟩ := h.tokd k b' cap hk
    have : b' ≠ b := fun e => by
      subst e
      cases r with
      | own j => rw [(h.rbow j _ hb).2] at a2; cases a2
      | ext i => have h1 := h.ext i; rw [hb] at h1; exact absurd (h.bel _ (List.mem_of_getElem? h1.symm)) (Nat.not_lt.2 a3)
    exact ⟨n, z, a1, a2, a3, by rw [hs]; exact a4, a5, cv2, T', (hob b' this).trans a6, a7⟩
  · rw [htok]
    obtain ⟨a, b', q1, cv2, T', q2, q3⟩ := h.xtd k c z hk
    by_cases e : b' = b
    · subst e
      rw [hcv] at q2
      cases q2
      exact ⟨a, b', q1, cv', T, hnew, by rw [hsame]; exact q3⟩
    · exact ⟨a, b', q1, cv2, T', (hob b' e).trans q2, q3⟩
end Go.Ev
end

section
set_option linter.all false
set_option linter.unusedVariables false
set_option linter.unusedSimpArgs false
namespace Go.Ev
variable {w0 w : World} {l : Lay} {st : St} {P : Program}

theorem opd_sound {w : World} {c : Cx} {a : Act} (h : ER w c st a.tmps) {x : Operand} {y : AV} (hx : st.opd x = some y) : RV w c y (a.eval x) := by
  cases x with
  | tmp t => exact (h.2 t y hx).2
  | const v => simp only [St.opd, Option.some.injEq] at hx; subst hx; exact RV.ofVal v
  | func f => simp only [St.opd, Option.some.injEq] at hx; subst hx; simp only [RV]; exact ⟨[], rfl, by simp [RVs]⟩
  | global g => simp [St.opd] at hx

theorem bnd_eq {α β : Type} {x : Option α} {f : α → Option β} {b : β} (h : bnd x f = some b) : ∃ a, x = some a ∧ f a = some b := by
  cases x with
  | none => simp at h
  | some a => exact ⟨a, rfl, h⟩

theorem opds_sound {w : World} {c : Cx} {a : Act} (h : ER w c st a.tmps) : ∀ {l : List Operand} {xs : List AV}, st.opds l = some xs → RVs w c xs (l.map a.eval)
  | [], xs, hx => by simp [St.opds] at hx; subst hx; simp [RVs]
  | x :: l, xs, hx => by
    simp only [St.opds] at hx
    obtain ⟨v, h1, hx⟩ := bnd_eq hx
    obtain ⟨vs, h2, hx⟩ := bnd_eq hx
    cases hx
    simp only [List.map_cons, RVs]
    exact ⟨_, _, rfl, opd_sound h h1, opds_sound h h2⟩

theorem info_of_underlying {t : TypeId} {d : TypeDesc} (h : P.underlying t = some d) : ∃ i, P.info? t = some i := by
  unfold Program.underlying at h
  cases hi : P.info? t with
  | none => simp [hi] at h
  | some i => exact ⟨i, rfl⟩
theorem run_sizeOf' {t : TypeId} {i : TypeInfo} (h : P.info? t = some i) (w : World) : (sizeOf t).run P w = .ok (P.cellsOf t) w := by
  simp [sizeOf, typeInfo, h, Program.cellsOf]

/-! ### Reading cells -/
theorem cell_in {cv : Array Value} {T : TypeId} {fr : Nat × Nat} {b j : Nat} (h : w.heap[b]? = some (.cells cv T fr)) : w.cell? ⟨b, j, none⟩ = cv[j]? := by simp [World.cell?, h]

theorem isAgg_run {t : TypeId} {d : TypeDesc} (h : P.underlying t = some d) (w : World) :
    (isAgg t).run P w = .ok (match d with | .struct _ => true | .array _ _ => true | _ => false) w := by
  simp only [isAgg, Sem.run_bind, run_underlying h, Result.andThen_ok]
  cases d <;> rfl

theorem list_get_range (n : Nat) (f : Nat → Value) (i : Nat) (h : i < n) : ((List.range n).map f)[i]? = some (f i) := by simp [h]

/-- A variable is read: its cells are known. -/
theorem run_loadVar_of {t : TypeId} {d : TypeDesc} (ht : P.underlying t = some d) (b off : Nat) (f : Nat → Value)
    (hc : ∀ j, j < (match d with | .struct _ => P.cellsOf t | .array _ _ => P.cellsOf t | _ => 1) → w.cell? ⟨b, off + j, none⟩ = some (f j)) :
    (loadVar t ⟨b, off, none⟩).run P w = .ok (match d with | .struct _ => .agg ((List.range (P.cellsOf t)).map f).toArray | .array _ _ => .agg ((List.range (P.cellsOf t)).map f).toArray | _ => f 0) w := by
  obtain ⟨i, hi⟩ := info_of_underlying ht
  unfold loadVar
  simp only [Sem.run_bind, isAgg_run ht, Result.andThen_ok]
  cases d <;>
    first
      | (simp only [Bool.false_eq_true, if_false]
         have := hc 0 (by simp)
         simp only [Nat.add_zero] at this
         simp [this]
         done)
      | (simp only [if_true, Sem.run_bind, run_sizeOf' hi, Result.andThen_ok]
         rw [run_loadCells w ⟨b, off, none⟩ (P.cellsOf t) f (fun j hj => by rw [Addr.add_lit]; exact hc j hj)]
         rfl)

/-- The cells of an object, or of a row, as values. -/
theorem load_obj {c : Cx} {b off : Nat} {cs : List AV} {t : TypeId} {x : AV} (ho : objR w c b cs) (hx : cellsAt P t cs off = some x) :
    ∃ v, (loadVar t ⟨b, off, none⟩).run P w = .ok v w ∧ RV w c x v := by
  obtain ⟨cv, T, h1, h2, h3⟩ := ho
  unfold cellsAt at hx
  have key : ∀ j, off + j < cs.length → w.cell? ⟨b, off + j, none⟩ = some (cv.getD (off + j) undef) := fun j hj => by
    rw [cell_in h1]; simp [show off + j < cv.size by omega]
  have agg : ∀ d, P.underlying t = some d → ((∃ fs, d = .struct fs) ∨ (∃ n e, d = .array n e)) → off + P.cellsOf t ≤ cs.length → x = .agg ((cs.drop off).take (P.cellsOf t)) →
      ∃ v, (loadVar t ⟨b, off, none⟩).run P w = .ok v w ∧ RV w c x v := by
    intro d hd hk hlen hx
    subst hx
    refine ⟨.agg ((List.range (P.cellsOf t)).map fun j => cv.getD (off + j) undef).toArray, ?_, ?_⟩
    · have := run_loadVar_of (w := w) hd b off (fun j => cv.getD (off + j) undef)
      rcases hk with ⟨fs, rfl⟩ | ⟨n, e, rfl⟩ <;> exact this (fun j hj => key j (by simp at hj; omega))
    · simp only [RV]
      refine ⟨_, rfl, RVs.of_get (by simp; omega) fun i y v hy hv => ?_⟩
      simp only [List.getElem?_map] at hv
      rw [List.getElem?_take] at hy
      split at hy
      · rename_i hi
        rw [List.getElem?_drop] at hy
        obtain ⟨v', a1, a2, a3⟩ := h3 _ _ hy
        simp [List.getElem?_range hi] at hv
        rw [← hv]
        simp only [Array.getD_eq_getD_getElem?] at *
        simpa [a1] using a3
      · cases hy
  split at hx
  · rename_i fs hd
    split at hx
    · rename_i hlen; exact agg _ hd (.inl ⟨_, rfl⟩) hlen (by simpa using hx.symm)
    · cases hx
  · rename_i n e hd
    split at hx
    · rename_i hlen; exact agg _ hd (.inr ⟨_, _, rfl⟩) hlen (by simpa using hx.symm)
    · cases hx
  · rename_i d hs ha hd
    obtain ⟨v, a1, a2, a3⟩ := h3 _ _ hx
    refine ⟨v, ?_, a3⟩
    have := run_loadVar_of (w := w) hd b off (fun j => v) (fun j hj => by
      have hj0 : j = 0 := by
        cases d <;> first | (simp at hj; exact hj) | exact (hs _ rfl).elim | exact (ha _ _ rfl).elim
      subst hj0
      rw [cell_in h1]; exact a1)
    cases d <;> first | exact this | exact (hs _ rfl).elim | exact (ha _ _ rfl).elim
  · cases hx

theorem load_row {c : Cx} {f g : Bool} {b off : Nat} {cs : List D} {t : TypeId} {x : AV} (ho : RDs w (c.im f) (c.im g) cs b off) (hx : cellsAtD P f g t cs = some x) :
    ∃ v, (loadVar t ⟨b, off, none⟩).run P w = .ok v w ∧ RV w c x v := by
  unfold cellsAtD at hx
  have key : ∀ j d, cs[j]? = some d → w.cell? ⟨b, off + j, none⟩ = some ((w.cell? ⟨b, off + j, none⟩).getD undef) ∧ RV w c (D.av f g d) ((w.cell? ⟨b, off + j, none⟩).getD undef) := fun j d hj => by
    obtain ⟨_, v, a1, a2, a3⟩ := ho.get j d hj
    rw [a1]
    exact ⟨rfl, av_of_D a3⟩
  have agg : ∀ d, P.underlying t = some d → ((∃ fs, d = .struct fs) ∨ (∃ n e, d = .array n e)) → P.cellsOf t ≤ cs.length → x = .agg ((cs.take (P.cellsOf t)).map (D.av f g)) →
      ∃ v, (loadVar t ⟨b, off, none⟩).run P w = .ok v w ∧ RV w c x v := by
    intro d hd hk hlen hx
    subst hx
    refine ⟨.agg ((List.range (P.cellsOf t)).map fun j => (w.cell? ⟨b, off + j, none⟩).getD undef).toArray, ?_, ?_⟩
    · have := run_loadVar_of (w := w) hd b off (fun j => (w.cell? ⟨b, off + j, none⟩).getD undef)
      rcases hk with ⟨fs, rfl⟩ | ⟨n, e, rfl⟩ <;> exact this (fun j hj => (key j (cs[j]'(by simp at hj; omega)) (by simp)).1)
    · simp only [RV]
      refine ⟨_, rfl, RVs.of_get (by simp; omega) fun i y v hy hv => ?_⟩
      simp only [List.getElem?_map] at hv hy
      by_cases hi : i < P.cellsOf t
      · have hy' : ((cs.take (P.cellsOf t))[i]?) = some (cs[i]'(by omega)) := by simp [hi]
        rw [hy'] at hy
        simp [List.getElem?_range hi] at hv
        simp at hy
        rw [← hv, ← hy]
        exact (key i _ (by simp)).2
      · simp [List.getElem?_eq_none (show (List.range (P.cellsOf t)).length ≤ i by simp; omega)] at hv
  split at hx
  · rename_i fs hd
    split at hx
    · rename_i hlen; exact agg _ hd (.inl ⟨_, rfl⟩) hlen (by simpa using hx.symm)
    · cases hx
  · rename_i n e hd
    split at hx
    · rename_i hlen; exact agg _ hd (.inr ⟨_, _, rfl⟩) hlen (by simpa using hx.symm)
    · cases hx
  · rename_i d hs ha hd
    cases cs with
    | nil => simp at hx
    | cons d0 r =>
      simp at hx
      subst hx
      obtain ⟨k1, k2⟩ := key 0 d0 (by simp)
      refine ⟨_, ?_, k2⟩
      have := run_loadVar_of (w := w) hd b off (fun j => (w.cell? ⟨b, off + 0, none⟩).getD undef) (fun j hj => by
        have hj0 : j = 0 := by
          cases d <;> first | (simp at hj; exact hj) | exact (hs _ rfl).elim | exact (ha _ _ rfl).elim
        subst hj0
        exact k1)
      cases d <;> first | exact this | exact (hs _ rfl).elim | exact (ha _ _ rfl).elim
  · cases hx
end Go.Ev
end
