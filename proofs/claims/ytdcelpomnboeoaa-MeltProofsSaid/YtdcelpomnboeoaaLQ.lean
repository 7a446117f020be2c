/- Lemmas for the claims of this seat: an evaluator over abstract values, its soundness, and the contracts of the functions of melt that it walks; no premise beyond what each theorem states. -/
import Derived.Test.YtdcelpomnboeoaaLA
import Derived.Test.YtdcelpomnboeoaaLD
import Derived.Test.YtdcelpomnboeoaaLE
import Derived.Test.YtdcelpomnboeoaaLG
import Derived.Test.YtdcelpomnboeoaaLH
import Derived.Test.YtdcelpomnboeoaaLI
import Derived.Test.YtdcelpomnboeoaaLK
import Derived.Test.YtdcelpomnboeoaaLO
import Derived.Test.YtdcelpomnboeoaaLP
import Derived.Test.YtdcelpomnboeoaaLB
import Derived.Test.YtdcelpomnboeoaaLL
import Derived.Test.YtdcelpomnboeoaaLM

section
set_option linter.all false
open Go Go.Ev Go.Proofs
namespace Go.Ev
set_option linter.unusedSimpArgs false
set_option linter.unusedVariables false

/-! ### Proofs made anyhow -/
theorem lowX_hi : ∀ (bs : List MBin) (x : List (Int × Int)) (i : Nat) (v : Int), lowX bs (setHi x i v) = lowX bs x
  | [], x, i, v => by cases x <;> rfl
  | _ :: _, [], i, v => rfl
  | b :: bs, p :: x, 0, v => rfl
  | b :: bs, p :: x, i + 1, v => by simp only [setHi, lowX]; rw [lowX_hi bs x i v]
theorem highX_lo : ∀ (bs : List MBin) (x : List (Int × Int)) (i : Nat) (v : Int), highX bs (setLo x i v) = highX bs x
  | [], x, i, v => by cases x <;> rfl
  | _ :: _, [], i, v => rfl
  | b :: bs, p :: x, 0, v => rfl
  | b :: bs, p :: x, i + 1, v => by simp only [setLo, highX]; rw [highX_lo bs x i v]
theorem highX_hi : ∀ (bs : List MBin) (x : List (Int × Int)) (i : Nat) (v : Int), highX bs (setHi x i v) = (highX bs x).set i v
  | [], x, i, v => by cases x <;> simp [highX]
  | _ :: _, [], i, v => by simp [setHi, highX]
  | b :: bs, p :: x, 0, v => rfl
  | b :: bs, p :: x, i + 1, v => by simp only [setHi, highX, List.set_cons_succ]; rw [highX_hi bs x i v]
theorem lowX_lo : ∀ (bs : List MBin) (x : List (Int × Int)) (i : Nat) (v : Int), lowX bs (setLo x i v) = (lowX bs x).set i v
  | [], x, i, v => by cases x <;> simp [lowX]
  | _ :: _, [], i, v => by simp [setLo, lowX]
  | b :: bs, p :: x, 0, v => rfl
  | b :: bs, p :: x, i + 1, v => by simp only [setLo, lowX, List.set_cons_succ]; rw [lowX_lo bs x i v]
theorem lowX_get {bs : List MBin} {x : List (Int × Int)} {i : Nat} {p : Int × Int} (h : i < bs.length) (hp : x[i]? = some p) : (lowX bs x)[i]? = some p.1 := by
  rw [← lowX_eq, List.getElem?_map, List.getElem?_take, if_pos h, hp]; rfl
theorem highX_get {bs : List MBin} {x : List (Int × Int)} {i : Nat} {p : Int × Int} (h : i < bs.length) (hp : x[i]? = some p) : (highX bs x)[i]? = some p.2 := by
  rw [← highX_eq, List.getElem?_map, List.getElem?_take, if_pos h, hp]; rfl

def ixP (o : MOrd) (s : Int) : Nat := (belV o.bins.length s).toNat
def pxP (o : MOrd) (x : List (Int × Int)) (s : Int) : Int × Int := x[ixP o s]?.getD (0, 0)
def upP (o : MOrd) (x : List (Int × Int)) (s : Int) : Int := betV (pxP o x s).1 ((pxP o x s).2 - 1) (belS 5 (belS o.bins.length s))
def usP (o : MOrd) (x : List (Int × Int)) (s : Int) : Int := betS (pxP o x s).1 ((pxP o x s).2 - 1) (belS 5 (belS o.bins.length s))
/-- The proof that the feed makes of a box, and the feed behind it. -/
def anyP (o : MOrd) : Nat → List (Int × Int) → Int → List MBd × Int
  | 0, _, s => ([], s)
  | n + 1, x, s =>
    if (pxP o x s).1 = (pxP o x s).2 then leafP o (belS o.bins.length s)
    else if belV 5 (belS o.bins.length s) < 2 then leafP o (belS 5 (belS o.bins.length s))
    else (⟨1, ixP o s, upP o x s⟩ :: ((anyP o n (setHi x (ixP o s) (upP o x s)) (usP o x s)).1 ++ (anyP o n (setLo x (ixP o s) (upP o x s + 1)) (anyP o n (setHi x (ixP o s) (upP o x s)) (usP o x s)).2).1),
      (anyP o n (setLo x (ixP o s) (upP o x s + 1)) (anyP o n (setHi x (ixP o s) (upP o x s)) (usP o x s)).2).2)

theorem leafP_is (o : MOrd) (s : Int) : ∃ r a, (leafP o s).1 = [⟨r, a, 0⟩] ∧ 2 ≤ r ∧ r ≤ 5 := by
  have := bet_in 2 5 s (by omega) (by omega) (by omega)
  unfold leafP
  split
  · exact ⟨_, _, rfl, this⟩
  · exact ⟨_, _, rfl, this⟩

section
variable {o : MOrd} (k : OkO o)
include k
theorem nb_pos : 1 ≤ o.bins.length := by
  have := k.ne
  rcases Nat.eq_zero_or_pos o.bins.length with h | h
  · exact absurd (List.length_eq_zero_iff.1 h) this
  · exact h
theorem ixP_lt (s : Int) : ixP o s < o.bins.length ∧ belV o.bins.length s = (ixP o s : Int) := by
  have h1 := nb_pos k
  have h4 := k.nb
  have a := bel_ge o.bins.length s (by omega)
  have b := bel_lt o.bins.length s (by omega) (by omega)
  unfold ixP
  omega
theorem pxP_in {x : List (Int × Int)} (bx : BX o x) (s : Int) : x[ixP o s]? = some (pxP o x s) ∧ 0 ≤ (pxP o x s).1 ∧ (pxP o x s).1 ≤ (pxP o x s).2 ∧ (pxP o x s).2 ≤ 6 := by
  obtain ⟨h1, h2⟩ := ixP_lt k s
  have hl := bx.len
  have h4 := k.nb
  have e : x[ixP o s]? = some x[ixP o s] := List.getElem?_eq_getElem (by omega)
  have e2 : pxP o x s = x[ixP o s] := by unfold pxP; rw [e]; rfl
  rw [e2]
  obtain ⟨b, hb, q1, q2, q3⟩ := (okX_get bx.ok e).1 h1
  have := (k.bin b hb).g
  exact ⟨e, by omega, by omega, by omega⟩
theorem upP_in {x : List (Int × Int)} (bx : BX o x) (s : Int) (hne : ¬ (pxP o x s).1 = (pxP o x s).2) : (pxP o x s).1 ≤ upP o x s ∧ upP o x s < (pxP o x s).2 := by
  obtain ⟨_, h1, h2, h3⟩ := pxP_in k bx s
  have := bet_in (pxP o x s).1 ((pxP o x s).2 - 1) (belS 5 (belS o.bins.length s)) (by omega) (by omega) (by omega)
  unfold upP
  omega
theorem cutP {x : List (Int × Int)} (bx : BX o x) (s : Int) (hne : ¬ (pxP o x s).1 = (pxP o x s).2) :
    BX o (setHi x (ixP o s) (upP o x s)) ∧ BX o (setLo x (ixP o s) (upP o x s + 1)) ∧ volX (setHi x (ixP o s) (upP o x s)) + volX (setLo x (ixP o s) (upP o x s + 1)) = volX x := by
  obtain ⟨e, h1, h2, h3⟩ := pxP_in k bx s
  obtain ⟨u1, u2⟩ := upP_in k bx s hne
  obtain ⟨i1, _⟩ := ixP_lt k s
  exact ⟨BX.hi k bx e i1 u1 (by omega), BX.lo k bx e i1 (by omega) (by omega), volX_cut x _ _ _ e u1 u2⟩

theorem any_ver (pr : Int) : ∀ (n : Nat) (x : List (Int × Int)) (s : Int), BX o x → volX x ≤ n → (1 ≤ (anyP o n x s).1.length ∧ (anyP o n x s).1.length + 1 ≤ 2 * volX x) ∧
    ∀ (m : Nat) (rest : List MBd), (anyP o n x s).1.length + rest.length < m → ∃ e r', verR o pr m x ((anyP o n x s).1 ++ rest) = (e, r') ∧ (e = 0 → r' = rest) ∧ (e = 0 ∨ e = 3 ∨ e = 9)
  | 0, x, s, bx, h => by have := volX_pos x (BX.bx k bx); omega
  | n + 1, x, s, bx, h => by
    have hv := volX_pos x (BX.bx k bx)
    have leaf : ∀ s', anyP o (n + 1) x s = leafP o s' → (1 ≤ (anyP o (n + 1) x s).1.length ∧ (anyP o (n + 1) x s).1.length + 1 ≤ 2 * volX x) ∧
        ∀ (m : Nat) (rest : List MBd), (anyP o (n + 1) x s).1.length + rest.length < m → ∃ e r', verR o pr m x ((anyP o (n + 1) x s).1 ++ rest) = (e, r') ∧ (e = 0 → r' = rest) ∧ (e = 0 ∨ e = 3 ∨ e = 9) := by
      intro s' hs
      obtain ⟨r, a, e1, e2, e3⟩ := leafP_is o s'
      rw [hs, e1]
      refine ⟨⟨by simp, by simp; omega⟩, fun m rest hm => ?_⟩
      obtain ⟨m, rfl⟩ : ∃ j, m = j + 1 := ⟨m - 1, by simp at hm; omega⟩
      rw [List.singleton_append, verR, if_neg (by simp only; omega)]
      have hr : r = 2 ∨ r = 3 ∨ r = 4 ∨ r = 5 := by omega
      rcases hr with rfl | rfl | rfl | rfl <;> simp only [Int.reduceEq, if_true, if_false]
      · split <;> exact ⟨_, _, rfl, fun _ => rfl, by simp⟩
      · split <;> exact ⟨_, _, rfl, fun _ => rfl, by simp⟩
      · split
        · exact ⟨_, _, rfl, fun _ => rfl, by simp⟩
        · split <;> exact ⟨_, _, rfl, fun _ => rfl, by simp⟩
      · split <;> exact ⟨_, _, rfl, fun _ => rfl, by simp⟩
    by_cases g1 : (pxP o x s).1 = (pxP o x s).2
    · exact leaf _ (by rw [anyP, if_pos g1])
    by_cases g2 : belV 5 (belS o.bins.length s) < 2
    · exact leaf _ (by rw [anyP, if_neg g1, if_pos g2])
    obtain ⟨b1, b2, hc⟩ := cutP k bx s g1
    obtain ⟨e, p1, p2, p3⟩ := pxP_in k bx s
    obtain ⟨u1, u2⟩ := upP_in k bx s g1
    obtain ⟨i1, i2⟩ := ixP_lt k s
    have v1 := volX_pos _ (BX.bx k b1)
    have v2 := volX_pos _ (BX.bx k b2)
    rw [anyP, if_neg g1, if_neg g2]
    obtain ⟨⟨l1, l2⟩, ih1⟩ := any_ver pr n (setHi x (ixP o s) (upP o x s)) (usP o x s) b1 (by omega)
    generalize anyP o n (setHi x (ixP o s) (upP o x s)) (usP o x s) = A at l1 l2 ih1
    obtain ⟨⟨l3, l4⟩, ih2⟩ := any_ver pr n (setLo x (ixP o s) (upP o x s + 1)) A.2 b2 (by omega)
    generalize anyP o n (setLo x (ixP o s) (upP o x s + 1)) A.2 = B at l3 l4 ih2
    refine ⟨⟨by simp, by simp; omega⟩, fun m rest hm => ?_⟩
    simp only [List.length_cons, List.length_append] at hm
    obtain ⟨m, rfl⟩ : ∃ j, m = j + 1 := ⟨m - 1, by omega⟩
    have h4 := k.nb
    have w1 : wr ((o.bins.length : Int) - 1) = o.bins.length - 1 := wr_small (by omega) (by omega)
    have w2 : wr ((pxP o x s).2 - 1) = (pxP o x s).2 - 1 := wr_small (by omega) (by omega)
    have w3 : wr (upP o x s + 1) = upP o x s + 1 := wr_small (by omega) (by omega)
    have t1 : ¬ inB (ixP o s : Int) 0 (wr ((o.bins.length : Int) - 1)) = false := by
      rw [Bool.not_eq_false, inB_iff, w1]; omega
    have t2 : ¬ inB (upP o x s) (pxP o x s).1 (wr ((pxP o x s).2 - 1)) = false := by
      rw [Bool.not_eq_false, inB_iff, w2]; omega
    obtain ⟨e1, r1, q1, q2, q3⟩ := ih1 m (B.1 ++ rest) (by simp only [List.length_append]; omega)
    obtain ⟨e2, r2, q4, q5, q6⟩ := ih2 m rest (by omega)
    rw [List.cons_append, List.append_assoc, verR, if_pos rfl]
    simp only [Int.toNat_natCast, e, Option.getD_some, t1, t2, w3, q1, if_false, Bool.false_eq_true]
    by_cases e0 : e1 = 0
    · rw [if_pos e0, q2 e0, q4]
      exact ⟨_, _, rfl, q5, q6⟩
    · rw [if_neg e0]
      exact ⟨_, _, rfl, fun h => absurd h e0, q3⟩

/-- What holds of any proof that is made so. -/
theorem sound_facts (pr s : Int) (hp : 0 ≤ pr ∧ pr ≤ 300000000) : (anyP o 2401 (wholeB o) s).1.length < 6000 ∧ (verE o pr (anyP o 2401 (wholeB o) s).1 = 0 ∨ verE o pr (anyP o 2401 (wholeB o) s).1 = 3 ∨ verE o pr (anyP o 2401 (wholeB o) s).1 = 9) ∧
    (verE o pr (anyP o 2401 (wholeB o) s).1 = 0 → ∀ l, okBl o l → goodB o l = true → ¬ cW o l < pr) := by
  have e0 := ordErr_0 k
  have ep : priceErr o pr = 0 := by rw [priceErr, if_pos e0, if_pos (inB_iff.2 hp)]
  have bx := whole_X k
  have hw := whole_vol k
  obtain ⟨⟨l1, l2⟩, ih⟩ := any_ver k pr 2401 (wholeB o) s bx hw
  generalize (anyP o 2401 (wholeB o) s).1 = p at l1 l2 ih
  obtain ⟨e, r', q1, q2, q3⟩ := ih (p.length + 1) [] (by simp)
  rw [List.append_nil] at q1
  have hv : verE o pr p = e := by
    rw [verE, if_pos ep, if_neg (by omega), q1]
    by_cases h : e = 0
    · rw [if_pos h, q2 h, h]; rfl
    · rw [if_neg h]
  rw [hv]
  refine ⟨by omega, q3, fun h l hl hg => ?_⟩
  rw [h] at q1
  exact ver_none k pr _ _ _ _ bx q1 l (whole_in k hl) hg
end
end Go.Ev
end

section
set_option linter.all false
open Go Go.Ev Go.Proofs
namespace Go.Ev
set_option linter.unusedSimpArgs false
set_option linter.unusedVariables false
theorem any_ok {o : MOrd} (k : OkO o) (pr : Int) : ∀ (n : Nat) (x : List (Int × Int)) (s : Int), BX o x → volX x ≤ n → n ≤ 2401 →
    ACalls Try.prog 45 [.ptr (.ext 0) 0, .agg [.sl false false .U .no o.limits.length (eInts o.limits), .s (.int .i64 o.least), .s (.int .i64 o.most), .sl false false .U .no o.bins.length (eBins o.bins)], .sl false false .U .no (lowX o.bins x).length (eInts (lowX o.bins x)), .sl false false .U .no (highX o.bins x).length (eInts (highX o.bins x)), .s (.int .i64 pr)] [[.s (.int .u64 s)]]
      (.ret (.sl true true .E .no (anyP o n x s).1.length (eBds (anyP o n x s).1)) [[.s (.int .u64 (anyP o n x s).2)]] [])
  | 0, x, s, bx, h, _ => by have := volX_pos x (BX.bx k bx); omega
  | n + 1, x, s, bx, h, hn => by
    obtain ⟨i1, i2⟩ := ixP_lt k s
    obtain ⟨e, p1, p2, p3⟩ := pxP_in k bx s
    have el := lowX_get (bs := o.bins) i1 e
    have eh := highX_get (bs := o.bins) i1 e
    obtain ⟨hl1, el⟩ := List.getElem?_eq_some_iff.1 el
    obtain ⟨hh1, eh⟩ := List.getElem?_eq_some_iff.1 eh
    have hll : (lowX o.bins x).length ≤ 4 := by rw [← lowX_eq]; have := k.nb; simp; omega
    have hhl : (highX o.bins x).length ≤ 4 := by rw [← highX_eq]; have := k.nb; simp; omega
    have h3 := k.nl
    have h4 := k.nb
    refine any_step o pr s (lowX o.bins x) (highX o.bins x) (ixP o s) (anyP o n (setHi x (ixP o s) (upP o x s)) (usP o x s)) (anyP o n (setLo x (ixP o s) (upP o x s + 1)) (anyP o n (setHi x (ixP o s) (upP o x s)) (usP o x s)).2) (anyP o (n + 1) x s) (by omega) (by omega) i2 hl1 hh1 (by omega) (by omega)
      (by rw [el]; exact p1) (by rw [el, eh]; exact p2) (by rw [eh]; exact p3) ?_ ?_
    · rw [el, eh]
      intro g1 g2
      obtain ⟨b1, b2, hc⟩ := cutP k bx s g1
      have v1 := volX_pos _ (BX.bx k b1)
      have v2 := volX_pos _ (BX.bx k b2)
      have c1 := any_ok k pr n _ (usP o x s) b1 (by omega) (by omega)
      have c2 := any_ok k pr n _ (anyP o n (setHi x (ixP o s) (upP o x s)) (usP o x s)).2 b2 (by omega) (by omega)
      have t1 := (any_ver k pr n _ (usP o x s) b1 (by omega)).1
      have t2 := (any_ver k pr n _ (anyP o n (setHi x (ixP o s) (upP o x s)) (usP o x s)).2 b2 (by omega)).1
      rw [lowX_hi, highX_hi] at c1
      rw [lowX_lo, highX_lo] at c2
      exact ⟨by omega, by omega, c1, c2⟩
    · rw [el, eh]
      rw [anyP]
      rfl
theorem low_whole {o : MOrd} (k : OkO o) : lowX o.bins (wholeB o) = List.replicate o.bins.length 0 := by
  have hn := k.nb
  unfold wholeB
  generalize o.bins = bs at hn
  match bs, hn with
  | [], _ => rfl
  | [a], _ => rfl
  | [a, b], _ => rfl
  | [a, b, c], _ => rfl
  | [a, b, c, d], _ => rfl
  | _ :: _ :: _ :: _ :: _ :: _, h => simp at h
theorem high_whole {o : MOrd} (k : OkO o) : highX o.bins (wholeB o) = o.bins.map (·.g) := by
  have hn := k.nb
  unfold wholeB
  generalize o.bins = bs at hn
  match bs, hn with
  | [], _ => rfl
  | [a], _ => rfl
  | [a, b], _ => rfl
  | [a, b, c], _ => rfl
  | [a, b, c, d], _ => rfl
  | _ :: _ :: _ :: _ :: _ :: _, h => simp at h
end Go.Ev
end

section
set_option linter.all false
open Go Go.Ev Go.Proofs
namespace Go.Ev
set_option linter.unusedSimpArgs false
set_option linter.unusedVariables false

set_option maxRecDepth 100000

@[simp] theorem rep_zero (n : Nat) : List.replicate n (D.s (.int .i64 0)) = eInts (List.replicate n 0) := by simp [eInts, dI]
theorem sound_N {o : MOrd} (k : OkO o) (N : Nat) (hN : N = 2401) (pr s : Int) (hp : 0 ≤ pr ∧ pr ≤ 300000000) : (anyP o N (wholeB o) s).1.length < 6000 ∧ (verE o pr (anyP o N (wholeB o) s).1 = 0 ∨ verE o pr (anyP o N (wholeB o) s).1 = 3 ∨ verE o pr (anyP o N (wholeB o) s).1 = 9) ∧
    (verE o pr (anyP o N (wholeB o) s).1 = 0 → ∀ l, okBl o l → goodB o l = true → ¬ cW o l < pr) := by
  subst hN; exact sound_facts k pr s hp
theorem blends0_ok {o : MOrd} (k : OkO o) : ACalls Try.prog 36 [.agg [.sl false false .U .no o.limits.length (eInts o.limits), .s (.int .i64 o.least), .s (.int .i64 o.most), .sl false false .U .no o.bins.length (eBins o.bins)], .sl false false .U .no 0 []] [] (.ret (.sl false false .Z .no (allB o.bins []).length (eLL (allB o.bins []))) [] []) := by
  have c3 := blends36_ok o k.nb (fun b hb => (k.bin b hb).g) o.bins [] rfl (by simp)
  exact c3
def chpB (o : MOrd) (pr : Int) (l : List (List Int)) : Bool := l.any fun x => goodB o x && decide (cW o x < pr)
def msE (r : List (Nat × AV)) (pr : Int) : List (Nat × AV) := (3, .ptr (.own 15006) 0) :: (4, .ptr (.own 4) 0) :: (5, .s (.int .i64 pr)) :: r
def msS0 (o : MOrd) (y pr : Int) (p : Nat × List Int) : St :=
  St.lit 95 (msE [(6, .sl true true .Z (.tok 34) p.2.length (eInts p.2)), (7, .s (.int .i64 p.1))] pr) [(15006, [.s (.int .u64 y)]), (4, aOrdC o)] [] [(34, (p.2.length, 1))]
def msS1 (o : MOrd) (y pr : Int) (ms : List Int) (all : List (List Int)) (p : Nat × Bool) : St :=
  St.lit 95 (msE [(6, .sl false false .U .no ms.length (eInts ms)), (8, .s (.bool p.2)), (9, .sl false false .U .no all.length (eLL all)), (10, .s (.int .i64 p.1))] pr) [(15006, [.s (.int .u64 y)]), (4, aOrdC o)] [] []
def msS2 (o : MOrd) (pr : Int) (ms : List Int) (c : Bool) (p : Nat × Int) : St :=
  St.lit 95 (msE [(6, .sl false false .U .no ms.length (eInts ms)), (8, .s (.bool c)), (11, .s (.int .i64 p.1))] pr) [(15006, [.s (.int .u64 p.2)]), (4, aOrdC o)] [] []
attribute [simp] msE msS0 msS1 msS2
theorem chp_succ (o : MOrd) (pr : Int) (all : List (List Int)) (i : Nat) (h : i < all.length) : chpB o pr (all.take (i + 1)) = (chpB o pr (all.take i) || (goodB o all[i] && decide (cW o all[i] < pr))) := by
  unfold chpB
  rw [List.take_add_one, List.getElem?_eq_getElem h, List.any_append]
  simp

set_option maxHeartbeats 8000000 in
theorem sound_ok (nums : List Int) (hl : (nums.length : Int) < 9223372036854775807) (o : MOrd) (y0 : Int) (ho : o = ordOf 2 1 3 (feedS nums)) (hy : y0 = ordS 2 1 3 (feedS nums)) (k : OkO o) : ACalls Try.prog 12 [.sl false false .U .no nums.length (eInts nums)] [] (.ret (.s (.bool true)) [] []) := by
  have c1 := orderOf_ok 2 1 3 (feedS nums) (by decide) (by decide)
  rw [← ho, ← hy] at c1
  clear ho hy
  have q1 := bel_ge 120 y0 (by omega)
  have q2 := bel_lt 120 y0 (by omega) (by omega)
  have c2 := below_ok 120 y0 (by omega)
  generalize belV 120 y0 = pr at q1 q2 c2
  generalize belS 120 y0 = y1 at c2
  have c3 := blends0_ok k
  have hx := fun x (h : x ∈ allB o.bins []) => all_ok h
  have hgo := fun l (h : okBl o l) => all_of h
  have ha : (allB o.bins []).length < 1000000 := by
    have := allB_len (N := 0) o.bins [] (fun b hb => (k.bin b hb).g)
    have := Nat.pow_le_pow_right (show 0 < 7 by omega) k.nb
    omega
  have hall : ∀ l, okBl o l → l ∈ allB o.bins [] := hgo
  generalize allB o.bins [] = all at c3 hx ha hall
  have hn4 := k.nb
  have hl3 := k.nl
  obtain ⟨N, hN⟩ : ∃ N : Nat, N = 2401 := ⟨_, rfl⟩
  refine acalls_of_ew Try.func12 rfl rfl (by simp [Try.f12]) (rs := [.tmp 2]) rfl ?_
  refine EW.seq fun Ψ0 n0 x0 => ?_
  refine EW.region gs_nil ?_
  simp
  refine n0 _ ?_; clear n0 x0
  refine EW.seq fun Ψ1 n1 x1 => ?_
  refine EW.region (gs_cons (feedOf_ok nums hl) gs_nil) ?_
  simp
  refine n1 _ ?_; clear n1 x1
  refine EW.seq fun Ψ2 n2 x2 => ?_
  refine EW.region (gs_cons c1 gs_nil) ?_
  simp
  refine n2 _ ?_; clear n2 x2
  refine EW.seq fun Ψ3 n3 x3 => ?_
  refine EW.region (gs_cons c2 gs_nil) ?_
  simp
  refine n3 _ ?_; clear n3 x3
  refine EW.seq fun Ψ4 n4 x4 => ?_
  refine EW.region gs_nil ?_
  simp
  refine n4 _ ?_; clear n4 x4
  refine EW.seq fun Ψ5 n5 x5 => ?_
  refine EW.seq fun Ψ6 n6 x6 => ?_
  refine EW.region gs_nil ?_
  simp
  refine n6 _ ?_; clear n6 x6
  refine EW.block ?_
  refine EW.loopA (msS0 o y1 pr) (fun p => p.1 ≤ o.bins.length ∧ p.2.length = p.1 ∧ p.2 ++ (o.bins.drop p.1).map (·.g) = o.bins.map (·.g)) (fun p => o.bins.length - p.1) (0, []) (St.le_lit rfl (by simp) (by simp) (by simp) (by simp) (by simp)) ?_ fun p hk => ?_
  · simp
  obtain ⟨i, acc⟩ := p
  obtain ⟨hk, hn, hw⟩ := hk
  simp only at hk hn hw
  refine EW.seq fun Ψ7 n7 x7 => ?_
  refine EW.seq fun Ψ8 n8 x8 => ?_
  refine EW.region gs_nil ?_
  simp
  refine n8 _ ?_; clear n8 x8
  refine EW.cond (t := _) (by rfl) (fun hc23 => ?_) (fun hc23 => ?_)
  · simp at hc23
    have e1 : o.bins[i]? = some o.bins[i] := List.getElem?_eq_getElem hc23
    refine EW.skip ?_
    refine n7 _ ?_; clear n7 x7
    refine EW.seq fun Ψ9 n9 x9 => ?_
    refine EW.block ?_
    refine EW.hide fun Ψ10 n10 => ?_
    refine EW.region gs_nil ?_
    simp [hc23, e1, hn, show (i + 1) * 8 ≤ 140737488355328 by omega]
    refine n10 _ _ ?_; clear n10
    refine n9 _ ?_; clear n9 x9
    refine EW.hide fun Ψ11 n11 => ?_
    refine EW.region gs_nil ?_
    simp
    refine n11 _ _ ?_; clear n11
    have e3 : IntKind.i64.wrap ((i : Int) + 1) = i + 1 := wr_small (by omega) (by omega)
    refine ⟨(i + 1, acc ++ [o.bins[i].g]), (St.le_lit rfl (by simp [e3, hn]) (by simp) (by simp) (by simp [hn]) (by simp)), ?_, ?_⟩
    · refine ⟨by simp; omega, by simp [hn], ?_⟩
      rw [← hw, List.drop_eq_getElem_cons hc23, List.map_cons, List.append_assoc]; rfl
    · simp; omega
  · simp at hc23
    have hkl : i = o.bins.length := by omega
    subst hkl
    simp at hw
    have hac : acc.length = o.bins.length := hn
    refine EW.exit ?_
    refine x7 _ _ rfl ?_; clear n7 x7
    refine n5 _ ?_; clear n5 x5
    refine EW.seq fun Ψ12 n12 x12 => ?_
    refine EW.region gs_nil ?_
    simp
    refine n12 _ ?_; clear n12 x12
    refine EW.seq fun Ψ13 n13 x13 => ?_
    refine EW.region (gs_cons c3 gs_nil) ?_
    simp
    refine n13 _ ?_; clear n13 x13
    refine EW.seq fun Ψ14 n14 x14 => ?_
    refine EW.seq fun Ψ15 n15 x15 => ?_
    refine EW.region gs_nil ?_
    simp
    refine n15 _ ?_; clear n15 x15
    refine EW.block ?_
    refine EW.loopA (msS1 o y1 pr (o.bins.map (·.g)) all) (fun p => p.1 ≤ all.length ∧ p.2 = chpB o pr (all.take p.1)) (fun p => all.length - p.1) (0, false) (St.le_lit rfl (by simp [hw, hac]) (by simp) (by simp) (by simp) (by simp)) ?_ fun p hk => ?_
    · simp [chpB]
    obtain ⟨i, c⟩ := p
    obtain ⟨hk, hcb⟩ := hk
    simp only at hk hcb
    refine EW.seq fun Ψ16 n16 x16 => ?_
    refine EW.seq fun Ψ17 n17 x17 => ?_
    refine EW.region gs_nil ?_
    simp
    refine n17 _ ?_; clear n17 x17
    refine EW.cond (t := _) (by rfl) (fun hc40 => ?_) (fun hc40 => ?_)
    · simp at hc40
      have e1 : all[i]? = some all[i] := List.getElem?_eq_getElem hc40
      have kb := hx _ (List.getElem_mem hc40)
      have hlb : all[i].length ≤ o.bins.length := by rw [kb.1]; exact Nat.le_refl _
      have cg := rGood_ok o all[i] (by omega) hlb (by omega) (fun b hb => (k.bin b hb).len)
      rw [goodR_B k kb] at cg
      have cc := rcost_ok o all[i] hlb (by omega)
      refine EW.skip ?_
      refine n16 _ ?_; clear n16 x16
      refine EW.seq fun Ψ18 n18 x18 => ?_
      refine EW.block ?_
      refine EW.hide fun Ψ19 n19 => ?_
      rcases (show (c = false ∧ goodB o all[i] = false) ∨ (c = false ∧ goodB o all[i] = true) ∨ c = true from by cases c <;> cases goodB o all[i] <;> simp) with ⟨hcc, hgd⟩ | ⟨hcc, hgd⟩ | hcc
      · skip
        refine EW.drawn [] mixed (gs_cons cg (gs_cons cc gs_nil)) (by kernel_rfl) ?_
        simp [hc40, e1, hcc, hgd]
        have hnx : chpB o pr (all.take (i + 1)) = false := by rw [chp_succ o pr all i hc40, ← hcb, hcc, hgd]; simp
        refine n19 _ _ ?_; clear n19
        refine n18 _ ?_; clear n18 x18
        refine EW.hide fun Ψ20 n20 => ?_
        refine EW.region gs_nil ?_
        simp
        refine n20 _ _ ?_; clear n20
        have e3 : IntKind.i64.wrap ((i : Int) + 1) = i + 1 := wr_small (by omega) (by omega)
        refine ⟨(i + 1, chpB o pr (all.take (i + 1))), (St.le_lit rfl (by simp [e3, hnx]) (by simp) (by simp) (by simp) (by simp)), ?_, ?_⟩
        · exact ⟨by simp; omega, rfl⟩
        · simp; omega
      · skip
        refine EW.drawn [] mixed (gs_cons cg (gs_cons cc gs_nil)) (by kernel_rfl) ?_
        simp [hc40, e1, hcc, hgd]
        have hnx : chpB o pr (all.take (i + 1)) = decide (cW o all[i] < pr) := by rw [chp_succ o pr all i hc40, ← hcb, hcc, hgd]; simp
        refine n19 _ _ ?_; clear n19
        refine n18 _ ?_; clear n18 x18
        refine EW.hide fun Ψ21 n21 => ?_
        refine EW.region gs_nil ?_
        simp
        refine n21 _ _ ?_; clear n21
        have e3 : IntKind.i64.wrap ((i : Int) + 1) = i + 1 := wr_small (by omega) (by omega)
        refine ⟨(i + 1, chpB o pr (all.take (i + 1))), (St.le_lit rfl (by simp [e3, hnx]) (by simp) (by simp) (by simp) (by simp)), ?_, ?_⟩
        · exact ⟨by simp; omega, rfl⟩
        · simp; omega
      · skip
        refine EW.drawn [] mixed (gs_cons cg (gs_cons cc gs_nil)) (by kernel_rfl) ?_
        simp [hc40, e1, hcc]
        have hnx : chpB o pr (all.take (i + 1)) = true := by rw [chp_succ o pr all i hc40, ← hcb, hcc]; simp
        refine n19 _ _ ?_; clear n19
        refine n18 _ ?_; clear n18 x18
        refine EW.hide fun Ψ22 n22 => ?_
        refine EW.region gs_nil ?_
        simp
        refine n22 _ _ ?_; clear n22
        have e3 : IntKind.i64.wrap ((i : Int) + 1) = i + 1 := wr_small (by omega) (by omega)
        refine ⟨(i + 1, chpB o pr (all.take (i + 1))), (St.le_lit rfl (by simp [e3, hnx]) (by simp) (by simp) (by simp) (by simp)), ?_, ?_⟩
        · exact ⟨by simp; omega, rfl⟩
        · simp; omega
    · simp at hc40
      have hkl : i = all.length := by omega
      rw [hkl, List.take_length] at hcb
      have hch : ∀ e : Int, (e = 0 → ∀ l, okBl o l → goodB o l = true → ¬ cW o l < pr) → e = 0 → c = false := by
        intro e h e0
        rw [hcb, chpB, List.any_eq_false]
        intro l hl h2
        simp only [Bool.and_eq_true, decide_eq_true_eq] at h2
        exact h e0 l (hx l hl) h2.1 h2.2
      refine EW.exit ?_
      refine x16 _ _ rfl ?_; clear n16 x16
      refine n14 _ ?_; clear n14 x14
      refine EW.seq fun Ψ23 n23 x23 => ?_
      refine EW.seq fun Ψ24 n24 x24 => ?_
      refine EW.region gs_nil ?_
      simp
      refine n24 _ ?_; clear n24 x24
      refine EW.block ?_
      refine EW.loopA (msS2 o pr (o.bins.map (·.g)) c) (fun p => p.1 ≤ 12) (fun p => 12 - p.1) (0, y1) (St.le_lit rfl (by simp) (by simp) (by simp) (by simp) (by simp)) ?_ fun p hk => ?_
      · simp
      obtain ⟨i, y⟩ := p
      simp only at hk
      refine EW.seq fun Ψ25 n25 x25 => ?_
      refine EW.seq fun Ψ26 n26 x26 => ?_
      refine EW.region gs_nil ?_
      simp
      refine n26 _ ?_; clear n26 x26
      refine EW.cond (t := _) (by rfl) (fun hc63 => ?_) (fun hc63 => ?_)
      · simp at hc63
        obtain ⟨f1, f2, f3⟩ := sound_N k N hN pr y (by omega)
        have ca := any_ok k pr N (wholeB o) y (whole_X k) (by have := whole_vol k; omega) (by omega)
        rw [low_whole k, high_whole k] at ca
        have cv := Verify_ok o pr (anyP o N (wholeB o) y).1 k.sz
        have hcf := hch _ f3
        generalize verE o pr (anyP o N (wholeB o) y).1 = e at f2 cv hcf
        clear f3
        refine EW.skip ?_
        refine n25 _ ?_; clear n25 x25
        refine EW.seq fun Ψ27 n27 x27 => ?_
        refine EW.block ?_
        refine EW.seq fun Ψ28 n28 x28 => ?_
        refine EW.drawn [(0, 9)] mixed (gs_cons ca (gs_cons cv gs_nil)) (by kernel_rfl) ?_
        simp [show o.bins.length * 8 ≤ 140737488355328 by omega, show 8 * o.bins.length ≤ 140737488355328 by omega, show 8 * (o.bins.length : Int) ≤ 140737488355328 by omega, show (o.bins.length : Int) ≤ 140737488355328 by omega]
        refine n28 _ ?_; clear n28 x28
        refine EW.seq fun Ψ29 n29 x29 => ?_
        rcases f2 with rfl | rfl | rfl
        · skip
          have hcf := hcf rfl
          subst hcf
          refine EW.region gs_nil ?_
          simp
          refine n29 _ ?_; clear n29 x29
          refine EW.cond (t := _) (by rfl) (fun hc93 => ?_) (fun hc93 => ?_)
          · simp at hc93
          · clear hc93
            refine EW.skip ?_
            refine n27 _ ?_; clear n27 x27
            refine EW.hide fun Ψ30 n30 => ?_
            refine EW.region gs_nil ?_
            simp
            refine n30 _ _ ?_; clear n30
            have e3 : IntKind.i64.wrap ((i : Int) + 1) = i + 1 := wr_small (by omega) (by omega)
            refine ⟨(i + 1, (anyP o N (wholeB o) y).2), (St.le_lit rfl (by simp [e3]) (by simp) (by simp) (by simp) (by simp)), ?_, ?_⟩
            · simp; omega
            · simp; omega
        · skip
          refine EW.region gs_nil ?_
          simp
          refine n29 _ ?_; clear n29 x29
          refine EW.cond (t := _) (by rfl) (fun hc93 => ?_) (fun hc93 => ?_)
          · simp at hc93
          · clear hc93
            refine EW.skip ?_
            refine n27 _ ?_; clear n27 x27
            refine EW.hide fun Ψ31 n31 => ?_
            refine EW.region gs_nil ?_
            simp
            refine n31 _ _ ?_; clear n31
            have e3 : IntKind.i64.wrap ((i : Int) + 1) = i + 1 := wr_small (by omega) (by omega)
            refine ⟨(i + 1, (anyP o N (wholeB o) y).2), (St.le_lit rfl (by simp [e3]) (by simp) (by simp) (by simp) (by simp)), ?_, ?_⟩
            · simp; omega
            · simp; omega
        · skip
          refine EW.region gs_nil ?_
          simp
          refine n29 _ ?_; clear n29 x29
          refine EW.cond (t := _) (by rfl) (fun hc93 => ?_) (fun hc93 => ?_)
          · simp at hc93
          · clear hc93
            refine EW.skip ?_
            refine n27 _ ?_; clear n27 x27
            refine EW.hide fun Ψ32 n32 => ?_
            refine EW.region gs_nil ?_
            simp
            refine n32 _ _ ?_; clear n32
            have e3 : IntKind.i64.wrap ((i : Int) + 1) = i + 1 := wr_small (by omega) (by omega)
            refine ⟨(i + 1, (anyP o N (wholeB o) y).2), (St.le_lit rfl (by simp [e3]) (by simp) (by simp) (by simp) (by simp)), ?_, ?_⟩
            · simp; omega
            · simp; omega
      · simp at hc63
        refine EW.exit ?_
        refine x25 _ _ rfl ?_; clear n25 x25
        refine n23 _ ?_; clear n23 x23
        refine EW.seq fun Ψ33 n33 x33 => ?_
        refine EW.region (gs_cons alive_ok gs_nil) ?_
        simp
        refine n33 _ ?_; clear n33 x33
        refine EW.ret ?_
        refine ⟨_, _, _, rfl, ?_, ?_, ?_, ?_, ?_⟩ <;> simp


theorem MeltSound_ok (nums : List Int) (hl : (nums.length : Int) < 9223372036854775807) : ACalls Try.prog 12 [.sl false false .U .no nums.length (eInts nums)] [] (.ret (.s (.bool true)) [] []) :=
  sound_ok nums hl _ _ rfl rfl ((made 2 1 3 (feedS nums) (by decide) (by decide) (by decide)).ok (by decide) (by decide) (by decide))
end Go.Ev
end
