/- Lemmas for the claims of this seat: an evaluator over abstract values, its soundness, and the contracts of the functions of melt that it walks; no premise beyond what each theorem states. -/
import Derived.Test.YtdcelpomnboeoaaLD
import Derived.Test.YtdcelpomnboeoaaLC

section
set_option linter.all false
open Go Go.Ev Go.Proofs
namespace Go.Ev
set_option linter.unusedSimpArgs false
set_option linter.unusedVariables false


/-- checkPrice. -/
def priceErr (o : MOrd) (p : Int) : Int := if ordErr o = 0 then (if inB p 0 300000000 = true then 0 else 1) else ordErr o
def wholeL : List MBin → Nat → List (Int × Int) → List (Int × Int)
  | [], _, x => x
  | b :: bs, i, x => wholeL bs (i + 1) (setHi x i b.g)
def wholeB (o : MOrd) : List (Int × Int) := wholeL o.bins 0 bx0
def whS (o : MOrd) (p : Nat × List (Int × Int)) : St :=
  St.lit 21 [(1, .ptr (.own 1) 0), (2, .ptr (.own 2) 0), (3, .ptr (.own 3) 0), (7, .sl false false .U .no o.bins.length (eBins o.bins)), (8, .s (.int .i64 o.bins.length)), (9, .s (.int .i64 p.1))] [(1, aOrdC o), (2, bxA bx0), (3, bxA p.2)] [] []
attribute [simp] whS

theorem checkPrice_ok (o : MOrd) (p : Int) (hz : szO o) : ACalls Try.prog 73 [.agg [.sl false false .U .no o.limits.length (eInts o.limits), .s (.int .i64 o.least), .s (.int .i64 o.most), .sl false false .U .no o.bins.length (eBins o.bins)], .s (.int .i64 p)] [] (.ret (.s (.int .i64 (priceErr o p))) [] []) := by
  refine acalls_of_ew Try.func73 rfl rfl (by simp [Try.f73]) (rs := [.tmp 4]) rfl ?_
  refine EW.seq fun Ψ0 n0 x0 => ?_
  refine EW.region gs_nil ?_
  simp
  refine n0 _ ?_; clear n0 x0
  refine EW.seq fun Ψ1 n1 x1 => ?_
  refine EW.seq fun Ψ2 n2 x2 => ?_
  refine EW.region (gs_cons (check_ok' o hz) gs_nil) ?_
  simp
  refine n2 _ ?_; clear n2 x2
  refine EW.seq fun Ψ3 n3 x3 => ?_
  refine EW.region gs_nil ?_
  simp
  refine n3 _ ?_; clear n3 x3
  refine EW.cond (t := _) (by rfl) (fun hc9 => ?_) (fun hc9 => ?_)
  · have g1 : ¬ ordErr o = 0 := by simpa using hc9
    have hv : priceErr o p = ordErr o := by simp [priceErr, g1]
    refine EW.seq fun Ψ4 n4 x4 => ?_
    refine EW.region gs_nil ?_
    simp
    refine n4 _ ?_; clear n4 x4
    refine EW.ret ?_
    refine x1 _ _ rfl ?_; clear n1 x1
    refine ⟨_, _, _, rfl, ?_, ?_, ?_, ?_, ?_⟩ <;> simp [hv]
  · have g1 : ordErr o = 0 := by simpa using hc9
    refine EW.skip ?_
    refine n1 _ ?_; clear n1 x1
    refine EW.seq fun Ψ5 n5 x5 => ?_
    refine EW.seq fun Ψ6 n6 x6 => ?_
    cases q1 : inB p 0 300000000
    · skip
      refine EW.region (gI_ok gs_nil) ?_
      simp [q1]
      refine n6 _ ?_; clear n6 x6
      refine EW.cond (t := _) (by rfl) (fun hc13 => ?_) (fun hc13 => ?_)
      · simp at hc13
        have hv : priceErr o p = 1 := by simp [priceErr, g1, q1]
        refine EW.seq fun Ψ7 n7 x7 => ?_
        refine EW.region gs_nil ?_
        simp
        refine n7 _ ?_; clear n7 x7
        refine EW.ret ?_
        refine x5 _ _ rfl ?_; clear n5 x5
        refine ⟨_, _, _, rfl, ?_, ?_, ?_, ?_, ?_⟩ <;> simp [hv]
      · simp at hc13
    · skip
      refine EW.region (gI_ok gs_nil) ?_
      simp [q1]
      refine n6 _ ?_; clear n6 x6
      refine EW.cond (t := _) (by rfl) (fun hc13 => ?_) (fun hc13 => ?_)
      · simp at hc13
      · simp at hc13
        have hv : priceErr o p = 0 := by simp [priceErr, g1, q1]
        refine EW.skip ?_
        refine n5 _ ?_; clear n5 x5
        refine EW.seq fun Ψ8 n8 x8 => ?_
        refine EW.region gs_nil ?_
        simp
        refine n8 _ ?_; clear n8 x8
        refine EW.ret ?_
        refine ⟨_, _, _, rfl, ?_, ?_, ?_, ?_, ?_⟩ <;> simp [hv]

theorem whole_ok (o : MOrd) (hl : o.bins.length ≤ 4) : ACalls Try.prog 76 [.agg [.sl false false .U .no o.limits.length (eInts o.limits), .s (.int .i64 o.least), .s (.int .i64 o.most), .sl false false .U .no o.bins.length (eBins o.bins)]] [] (.ret (.agg (bxA (wholeB o))) [] []) := by
  refine acalls_of_ew Try.func76 rfl rfl (by simp [Try.f76]) (rs := [.cell 2 115]) rfl ?_
  refine EW.seq fun Ψ0 n0 x0 => ?_
  refine EW.region gs_nil ?_
  simp
  refine n0 _ ?_; clear n0 x0
  refine EW.seq fun Ψ1 n1 x1 => ?_
  refine EW.region gs_nil ?_
  simp
  refine n1 _ ?_; clear n1 x1
  refine EW.seq fun Ψ2 n2 x2 => ?_
  refine EW.seq fun Ψ3 n3 x3 => ?_
  refine EW.region gs_nil ?_
  simp
  refine n3 _ ?_; clear n3 x3
  refine EW.block ?_
  refine EW.loopA (whS o) (fun p => p.1 ≤ o.bins.length ∧ p.2.length = 4 ∧ wholeL (o.bins.drop p.1) p.1 p.2 = wholeB o) (fun p => o.bins.length - p.1) (0, bx0) (St.le_lit rfl (by simp) (by simp) (by simp) (by simp) (by simp)) ?_ fun p hk => ?_
  · simp [wholeB]
  obtain ⟨k, x⟩ := p
  obtain ⟨hk, hx, hw⟩ := hk
  simp only at hk hx hw
  refine EW.seq fun Ψ4 n4 x4 => ?_
  refine EW.region gs_nil ?_
  simp
  refine n4 _ ?_; clear n4 x4
  refine EW.seq fun Ψ5 n5 x5 => ?_
  refine EW.cond (t := _) (by rfl) (fun hc10 => ?_) (fun hc10 => ?_)
  · simp at hc10
    have e1 : o.bins[k]? = some o.bins[k] := List.getElem?_eq_getElem hc10
    have hk4 : (k : Int) < 4 := by omega
    refine EW.skip ?_
    refine n5 _ ?_; clear n5 x5
    refine EW.seq fun Ψ6 n6 x6 => ?_
    refine EW.block ?_
    refine EW.seq fun Ψ7 n7 x7 => ?_
    refine EW.region gs_nil ?_
    simp [hc10, e1, eBins_atm _ _ _ _ _ e1, show 4 ≤ o.bins.length * 4 - k * 4 by omega]
    refine n7 _ ?_; clear n7 x7
    refine EW.hide fun Ψ8 n8 => ?_
    refine EW.region gs_nil ?_
    simp [hk4, hx, show k * 2 + 1 + 1 ≤ 8 by omega, bx_putHi x k _ (by omega)]
    refine n8 _ _ ?_; clear n8
    refine n6 _ ?_; clear n6 x6
    refine EW.hide fun Ψ9 n9 => ?_
    refine EW.region gs_nil ?_
    simp
    refine n9 _ _ ?_; clear n9
    have e3 : IntKind.i64.wrap ((k : Int) + 1) = k + 1 := wr_small (by omega) (by omega)
    refine ⟨(k + 1, setHi x k o.bins[k].g), (St.le_lit rfl (by simp [e3]) (by simp) (by simp) (by simp) (by simp)), ?_, ?_⟩
    · refine ⟨hc10, by simpa using hx, ?_⟩
      rw [← hw, List.drop_eq_getElem_cons hc10]; rfl
    · simp; omega
  · simp at hc10
    have hv : x = wholeB o := by rw [← hw, List.drop_of_length_le (by omega)]; rfl
    refine EW.exit ?_
    refine x5 _ _ rfl ?_; clear n5 x5
    refine n2 _ ?_; clear n2 x2
    refine EW.seq fun Ψ10 n10 x10 => ?_
    refine EW.region gs_nil ?_
    simp [hx]
    refine n10 _ ?_; clear n10 x10
    refine EW.ret ?_
    refine ⟨_, _, _, rfl, ?_, ?_, ?_, ?_, ?_⟩ <;> simp [hx, ← hv]


def highsS (o : MOrd) (x : List (Int × Int)) (p : Nat × List Int) : St :=
  St.lit 22 [(2, .ptr (.own 2) 0), (3, .ptr (.own 3) 0), (5, .sl true true .Z (.tok 19) p.2.length (eInts p.2)), (9, .s (.int .i64 o.bins.length)), (10, .s (.int .i64 p.1))] [(2, bxA x), (3, aOrdC o)] [] [(19, (p.2.length, 1))]
attribute [simp] highsS
def highsB (o : MOrd) (x : List (Int × Int)) : List Int := (x.take o.bins.length).map (·.2)

theorem highs_ok (o : MOrd) (x : List (Int × Int)) (hl : o.bins.length ≤ 4) (hx : x.length = 4) : ACalls Try.prog 98 [.agg (bxA x), .agg [.sl false false .U .no o.limits.length (eInts o.limits), .s (.int .i64 o.least), .s (.int .i64 o.most), .sl false false .U .no o.bins.length (eBins o.bins)]] [] (.ret (.sl true true .Z .no (highsB o x).length (eInts (highsB o x))) [] []) := by
  refine acalls_of_ew Try.func98 rfl rfl (by simp [Try.f98]) (rs := [.tmp 4]) rfl ?_
  refine EW.seq fun Ψ0 n0 x0 => ?_
  refine EW.region gs_nil ?_
  simp
  refine n0 _ ?_; clear n0 x0
  refine EW.seq fun Ψ1 n1 x1 => ?_
  refine EW.region gs_nil ?_
  simp
  refine n1 _ ?_; clear n1 x1
  refine EW.seq fun Ψ2 n2 x2 => ?_
  refine EW.seq fun Ψ3 n3 x3 => ?_
  refine EW.region gs_nil ?_
  simp
  refine n3 _ ?_; clear n3 x3
  refine EW.block ?_
  refine EW.loopA (highsS o x) (fun p => p.1 ≤ o.bins.length ∧ p.2 = (x.take p.1).map (·.2)) (fun p => o.bins.length - p.1) (0, []) (St.le_lit rfl (by simp) (by simp) (by simp) (by simp) (by simp)) ?_ fun p hk => ?_
  · simp
  obtain ⟨k, l⟩ := p
  obtain ⟨hk, hw⟩ := hk
  simp only at hk hw
  have hll : l.length = k := by rw [hw]; simp; omega
  refine EW.seq fun Ψ4 n4 x4 => ?_
  refine EW.region gs_nil ?_
  simp
  refine n4 _ ?_; clear n4 x4
  refine EW.seq fun Ψ5 n5 x5 => ?_
  refine EW.cond (t := _) (by rfl) (fun hc11 => ?_) (fun hc11 => ?_)
  · simp at hc11
    have hk4 : (k : Int) < 4 := by omega
    obtain ⟨⟨pa, pb⟩, e1⟩ : ∃ p, x[k]? = some p := ⟨_, List.getElem?_eq_getElem (by omega)⟩
    have e2 : ∀ h, x[k]'h = (pa, pb) := fun h => by rw [List.getElem?_eq_getElem h] at e1; exact Option.some.inj e1
    refine EW.skip ?_
    refine n5 _ ?_; clear n5 x5
    refine EW.seq fun Ψ6 n6 x6 => ?_
    refine EW.block ?_
    refine EW.seq fun Ψ7 n7 x7 => ?_
    refine EW.region gs_nil ?_
    simp
    refine n7 _ ?_; clear n7 x7
    refine EW.hide fun Ψ8 n8 => ?_
    refine EW.region gs_nil ?_
    simp [hk4, hx, e1, e2, hll, show (k + 1) * 8 ≤ 140737488355328 by omega, show k * 2 + 1 < 8 by omega]
    refine n8 _ _ ?_; clear n8
    refine n6 _ ?_; clear n6 x6
    refine EW.hide fun Ψ9 n9 => ?_
    refine EW.region gs_nil ?_
    simp
    refine n9 _ _ ?_; clear n9
    have e3 : IntKind.i64.wrap ((k : Int) + 1) = k + 1 := wr_small (by omega) (by omega)
    refine ⟨(k + 1, l ++ [pb]), (St.le_lit rfl (by simp [e3, hll]) (by simp) (by simp) (by simp [hll]) (by simp)), ?_, ?_⟩
    · refine ⟨hc11, ?_⟩
      simp only; rw [hw, List.take_succ, e1]; simp
    · simp; omega
  · simp at hc11
    have hv : l = highsB o x := by rw [hw, show k = o.bins.length by omega]; rfl
    refine EW.exit ?_
    refine x5 _ _ rfl ?_; clear n5 x5
    refine n2 _ ?_; clear n2 x2
    refine EW.seq fun Ψ10 n10 x10 => ?_
    refine EW.region gs_nil ?_
    simp
    refine n10 _ ?_; clear n10 x10
    refine EW.ret ?_
    refine ⟨_, _, _, rfl, ?_, ?_, ?_, ?_, ?_⟩ <;> simp [← hv]


def lowsS (o : MOrd) (x : List (Int × Int)) (p : Nat × List Int) : St :=
  St.lit 22 [(2, .ptr (.own 2) 0), (3, .ptr (.own 3) 0), (5, .sl true true .Z (.tok 19) p.2.length (eInts p.2)), (9, .s (.int .i64 o.bins.length)), (10, .s (.int .i64 p.1))] [(2, bxA x), (3, aOrdC o)] [] [(19, (p.2.length, 1))]
attribute [simp] lowsS
def lowsB (o : MOrd) (x : List (Int × Int)) : List Int := (x.take o.bins.length).map (·.1)

theorem lows_ok (o : MOrd) (x : List (Int × Int)) (hl : o.bins.length ≤ 4) (hx : x.length = 4) : ACalls Try.prog 99 [.agg (bxA x), .agg [.sl false false .U .no o.limits.length (eInts o.limits), .s (.int .i64 o.least), .s (.int .i64 o.most), .sl false false .U .no o.bins.length (eBins o.bins)]] [] (.ret (.sl true true .Z .no (lowsB o x).length (eInts (lowsB o x))) [] []) := by
  refine acalls_of_ew Try.func99 rfl rfl (by simp [Try.f99]) (rs := [.tmp 4]) rfl ?_
  refine EW.seq fun Ψ0 n0 x0 => ?_
  refine EW.region gs_nil ?_
  simp
  refine n0 _ ?_; clear n0 x0
  refine EW.seq fun Ψ1 n1 x1 => ?_
  refine EW.region gs_nil ?_
  simp
  refine n1 _ ?_; clear n1 x1
  refine EW.seq fun Ψ2 n2 x2 => ?_
  refine EW.seq fun Ψ3 n3 x3 => ?_
  refine EW.region gs_nil ?_
  simp
  refine n3 _ ?_; clear n3 x3
  refine EW.block ?_
  refine EW.loopA (lowsS o x) (fun p => p.1 ≤ o.bins.length ∧ p.2 = (x.take p.1).map (·.1)) (fun p => o.bins.length - p.1) (0, []) (St.le_lit rfl (by simp) (by simp) (by simp) (by simp) (by simp)) ?_ fun p hk => ?_
  · simp
  obtain ⟨k, l⟩ := p
  obtain ⟨hk, hw⟩ := hk
  simp only at hk hw
  have hll : l.length = k := by rw [hw]; simp; omega
  refine EW.seq fun Ψ4 n4 x4 => ?_
  refine EW.region gs_nil ?_
  simp
  refine n4 _ ?_; clear n4 x4
  refine EW.seq fun Ψ5 n5 x5 => ?_
  refine EW.cond (t := _) (by rfl) (fun hc11 => ?_) (fun hc11 => ?_)
  · simp at hc11
    have hk4 : (k : Int) < 4 := by omega
    obtain ⟨⟨pa, pb⟩, e1⟩ : ∃ p, x[k]? = some p := ⟨_, List.getElem?_eq_getElem (by omega)⟩
    have e2 : ∀ h, x[k]'h = (pa, pb) := fun h => by rw [List.getElem?_eq_getElem h] at e1; exact Option.some.inj e1
    refine EW.skip ?_
    refine n5 _ ?_; clear n5 x5
    refine EW.seq fun Ψ6 n6 x6 => ?_
    refine EW.block ?_
    refine EW.seq fun Ψ7 n7 x7 => ?_
    refine EW.region gs_nil ?_
    simp
    refine n7 _ ?_; clear n7 x7
    refine EW.hide fun Ψ8 n8 => ?_
    refine EW.region gs_nil ?_
    simp [hk4, hx, e1, e2, hll, show (k + 1) * 8 ≤ 140737488355328 by omega, show k * 2 + 0 < 8 by omega]
    refine n8 _ _ ?_; clear n8
    refine n6 _ ?_; clear n6 x6
    refine EW.hide fun Ψ9 n9 => ?_
    refine EW.region gs_nil ?_
    simp
    refine n9 _ _ ?_; clear n9
    have e3 : IntKind.i64.wrap ((k : Int) + 1) = k + 1 := wr_small (by omega) (by omega)
    refine ⟨(k + 1, l ++ [pa]), (St.le_lit rfl (by simp [e3, hll]) (by simp) (by simp) (by simp [hll]) (by simp)), ?_, ?_⟩
    · refine ⟨hc11, ?_⟩
      simp only; rw [hw, List.take_succ, e1]; simp
    · simp; omega
  · simp at hc11
    have hv : l = lowsB o x := by rw [hw, show k = o.bins.length by omega]; rfl
    refine EW.exit ?_
    refine x5 _ _ rfl ?_; clear n5 x5
    refine n2 _ ?_; clear n2 x2
    refine EW.seq fun Ψ10 n10 x10 => ?_
    refine EW.region gs_nil ?_
    simp
    refine n10 _ ?_; clear n10 x10
    refine EW.ret ?_
    refine ⟨_, _, _, rfl, ?_, ?_, ?_, ?_, ?_⟩ <;> simp [← hv]

end Go.Ev
end

section
set_option linter.all false
open Go Go.Ev Go.Proofs
namespace Go.Ev
set_option linter.unusedSimpArgs false
set_option linter.unusedVariables false


theorem highsB_len (o : MOrd) (x : List (Int × Int)) : (highsB o x).length ≤ o.bins.length := by simp [highsB]; omega
theorem lowsB_len (o : MOrd) (x : List (Int × Int)) : (lowsB o x).length ≤ o.bins.length := by simp [lowsB]; omega
def lightB (o : MOrd) (x : List (Int × Int)) : Bool := decide ((weighL o.bins (highsB o x) 0 0 0).1 < o.least)
def heavyB (o : MOrd) (x : List (Int × Int)) : Bool := decide (o.most < (weighL o.bins (lowsB o x) 0 0 0).1)
def dearB (o : MOrd) (pr : Int) (x : List (Int × Int)) : Bool := decide (pr ≤ (weighL o.bins (lowsB o x) 0 0 0).2)
def brkT (lim : Int) (m : Nat) (b : MBin) : Int := wr (b.w * wr ((b.grams[m]?.getD (0, 0)).2 - lim))
def brkL (lim : Int) (m : Nat) (x : List (Int × Int)) : List MBin → Nat → Int → Int
  | [], _, s => s
  | b :: bs, i, s => brkL lim m x bs (i + 1) (if 0 ≤ brkT lim m b then wr (s + wr ((x[i]?.getD (0, 0)).1 * brkT lim m b)) else wr (s + wr ((x[i]?.getD (0, 0)).2 * brkT lim m b)))
def brkV (o : MOrd) (x : List (Int × Int)) (m : Nat) : Bool := decide (0 < brkL (o.limits[m]?.getD 0) m x o.bins 0 0)
def brokL (o : MOrd) (x : List (Int × Int)) : Nat → Nat → Option Nat
  | 0, _ => none
  | n + 1, k => if brkV o x k = true then some k else brokL o x n (k + 1)
def brokV (o : MOrd) (x : List (Int × Int)) : Option Nat := brokL o x o.limits.length 0
def brkS (o : MOrd) (pr : Int) (x : List (Int × Int)) (m : Nat) (q : Nat × Int) : St :=
  St.lit 57 [(2, .s (.int .i64 m)), (3, .ptr (.own 3) 0), (4, .ptr (.own 4) 0), (7, .s (.int .i64 q.2)), (13, .sl false false .U .no o.bins.length (eBins o.bins)), (14, .s (.int .i64 o.bins.length)), (15, .s (.int .i64 q.1))] [(3, [.sl false false .U .no o.limits.length (eInts o.limits), .s (.int .i64 o.least), .s (.int .i64 o.most), .sl false false .U .no o.bins.length (eBins o.bins), .s (.int .i64 pr)]), (4, bxA x)] [] []
def brokS (o : MOrd) (pr : Int) (x : List (Int × Int)) (k : Nat) : St :=
  St.lit 22 [(2, .ptr (.own 2) 0), (3, .ptr (.own 3) 0), (4, .ptr (.own 4) 0), (9, .sl false false .U .no o.limits.length (eInts o.limits)), (10, .s (.int .i64 o.limits.length)), (11, .s (.int .i64 k))] [(2, [.sl false false .U .no o.limits.length (eInts o.limits), .s (.int .i64 o.least), .s (.int .i64 o.most), .sl false false .U .no o.bins.length (eBins o.bins), .s (.int .i64 pr)]), (3, bxA x), (4, [.s (.int .i64 0), .s (.int .i64 0), .s (.int .i64 0)])] [] []
attribute [simp] brkS brokS

theorem light_ok (o : MOrd) (pr : Int) (x : List (Int × Int)) (hl : o.bins.length ≤ 4) (hx : x.length = 4) : ACalls Try.prog 93 [.agg [.sl false false .U .no o.limits.length (eInts o.limits), .s (.int .i64 o.least), .s (.int .i64 o.most), .sl false false .U .no o.bins.length (eBins o.bins), .s (.int .i64 pr)], .agg (bxA x)] [] (.ret (.tup [.agg [.s (.int .i64 2), .s (.int .i64 0), .s (.int .i64 0)], .s (.bool (lightB o x))]) [] []) := by
  refine acalls_of_ew Try.func93 rfl rfl (by simp [Try.f93]) (rs := [.cell 4 64, .tmp 5]) rfl ?_
  have hlen := highsB_len o x
  refine EW.seq fun Ψ0 n0 x0 => ?_
  refine EW.region gs_nil ?_
  simp
  refine n0 _ ?_; clear n0 x0
  refine EW.seq fun Ψ1 n1 x1 => ?_
  refine EW.drawn [(1, 5)] mixed (gs_cons (highs_ok o x hl hx) (gs_cons (weigh_ok o (highsB o x) hlen (by omega)) gs_nil)) (by kernel_rfl) ?_
  simp [hx]
  refine n1 _ ?_; clear n1 x1
  refine EW.seq fun Ψ2 n2 x2 => ?_
  refine EW.drawn [(4, 6)] mixed gs_nil (by kernel_rfl) ?_
  simp
  refine n2 _ ?_; clear n2 x2
  refine EW.ret ?_
  refine ⟨_, _, _, rfl, ?_, ?_, ?_, ?_, ?_⟩ <;> simp [lightB]

theorem heavy_ok (o : MOrd) (pr : Int) (x : List (Int × Int)) (hl : o.bins.length ≤ 4) (hx : x.length = 4) : ACalls Try.prog 94 [.agg [.sl false false .U .no o.limits.length (eInts o.limits), .s (.int .i64 o.least), .s (.int .i64 o.most), .sl false false .U .no o.bins.length (eBins o.bins), .s (.int .i64 pr)], .agg (bxA x)] [] (.ret (.tup [.agg [.s (.int .i64 3), .s (.int .i64 0), .s (.int .i64 0)], .s (.bool (heavyB o x))]) [] []) := by
  refine acalls_of_ew Try.func94 rfl rfl (by simp [Try.f94]) (rs := [.cell 4 64, .tmp 5]) rfl ?_
  have hlen := lowsB_len o x
  refine EW.seq fun Ψ0 n0 x0 => ?_
  refine EW.region gs_nil ?_
  simp
  refine n0 _ ?_; clear n0 x0
  refine EW.seq fun Ψ1 n1 x1 => ?_
  refine EW.drawn [(1, 5)] mixed (gs_cons (lows_ok o x hl hx) (gs_cons (weigh_ok o (lowsB o x) hlen (by omega)) gs_nil)) (by kernel_rfl) ?_
  simp [hx]
  refine n1 _ ?_; clear n1 x1
  refine EW.seq fun Ψ2 n2 x2 => ?_
  refine EW.drawn [(4, 6)] mixed gs_nil (by kernel_rfl) ?_
  simp
  refine n2 _ ?_; clear n2 x2
  refine EW.ret ?_
  refine ⟨_, _, _, rfl, ?_, ?_, ?_, ?_, ?_⟩ <;> simp [heavyB]

theorem dear_ok (o : MOrd) (pr : Int) (x : List (Int × Int)) (hl : o.bins.length ≤ 4) (hx : x.length = 4) : ACalls Try.prog 96 [.agg [.sl false false .U .no o.limits.length (eInts o.limits), .s (.int .i64 o.least), .s (.int .i64 o.most), .sl false false .U .no o.bins.length (eBins o.bins), .s (.int .i64 pr)], .agg (bxA x)] [] (.ret (.tup [.agg [.s (.int .i64 5), .s (.int .i64 0), .s (.int .i64 0)], .s (.bool (dearB o pr x))]) [] []) := by
  refine acalls_of_ew Try.func96 rfl rfl (by simp [Try.f96]) (rs := [.cell 4 64, .tmp 5]) rfl ?_
  have hlen := lowsB_len o x
  refine EW.seq fun Ψ0 n0 x0 => ?_
  refine EW.region gs_nil ?_
  simp
  refine n0 _ ?_; clear n0 x0
  refine EW.seq fun Ψ1 n1 x1 => ?_
  refine EW.drawn [(1, 5)] mixed (gs_cons (lows_ok o x hl hx) (gs_cons (weigh_ok o (lowsB o x) hlen (by omega)) gs_nil)) (by kernel_rfl) ?_
  simp [hx]
  refine n1 _ ?_; clear n1 x1
  refine EW.seq fun Ψ2 n2 x2 => ?_
  refine EW.drawn [(3, 5)] mixed gs_nil (by kernel_rfl) ?_
  simp
  refine n2 _ ?_; clear n2 x2
  refine EW.ret ?_
  refine ⟨_, _, _, rfl, ?_, ?_, ?_, ?_, ?_⟩ <;> simp [dearB]

theorem breaks_ok (o : MOrd) (pr : Int) (x : List (Int × Int)) (m : Nat) (hl : o.bins.length ≤ 4) (hx : x.length = 4) (hm : m < o.limits.length) (hll : o.limits.length < 1000000) (hg : ∀ b ∈ o.bins, b.grams.length = o.limits.length) : ACalls Try.prog 95 [.agg [.sl false false .U .no o.limits.length (eInts o.limits), .s (.int .i64 o.least), .s (.int .i64 o.most), .sl false false .U .no o.bins.length (eBins o.bins), .s (.int .i64 pr)], .agg (bxA x), .s (.int .i64 m)] [] (.ret (.s (.bool (brkV o x m))) [] []) := by
  refine acalls_of_ew Try.func95 rfl rfl (by simp [Try.f95]) (rs := [.tmp 6]) rfl ?_
  have em : o.limits[m]? = some o.limits[m] := List.getElem?_eq_getElem hm
  refine EW.seq fun Ψ0 n0 x0 => ?_
  refine EW.region gs_nil ?_
  simp
  refine n0 _ ?_; clear n0 x0
  refine EW.seq fun Ψ1 n1 x1 => ?_
  refine EW.region gs_nil ?_
  simp
  refine n1 _ ?_; clear n1 x1
  refine EW.seq fun Ψ2 n2 x2 => ?_
  refine EW.seq fun Ψ3 n3 x3 => ?_
  refine EW.region gs_nil ?_
  simp
  refine n3 _ ?_; clear n3 x3
  refine EW.block ?_
  refine EW.loopA (brkS o pr x m) (fun q => q.1 ≤ o.bins.length ∧ brkL (o.limits[m]?.getD 0) m x (o.bins.drop q.1) q.1 q.2 = brkL (o.limits[m]?.getD 0) m x o.bins 0 0) (fun q => o.bins.length - q.1) (0, 0) (St.le_lit rfl (by simp) (by simp) (by simp) (by simp) (by simp)) ?_ fun p hk => ?_
  · simp
  obtain ⟨k, s⟩ := p
  obtain ⟨hk, hw⟩ := hk
  simp only at hk hw
  refine EW.seq fun Ψ4 n4 x4 => ?_
  refine EW.region gs_nil ?_
  simp
  refine n4 _ ?_; clear n4 x4
  refine EW.seq fun Ψ5 n5 x5 => ?_
  refine EW.cond (t := _) (by rfl) (fun hc16 => ?_) (fun hc16 => ?_)
  · simp at hc16
    have e1 : o.bins[k]? = some o.bins[k] := List.getElem?_eq_getElem hc16
    have hgm : m < o.bins[k].grams.length := by rw [hg _ (List.getElem_mem hc16)]; exact hm
    have e4 : o.bins[k].grams[m]? = some o.bins[k].grams[m] := List.getElem?_eq_getElem hgm
    have hk4 : (k : Int) < 4 := by omega
    obtain ⟨⟨pa, pb⟩, e5⟩ : ∃ q, x[k]? = some q := ⟨_, List.getElem?_eq_getElem (by omega)⟩
    have e6 : ∀ h, x[k]'h = (pa, pb) := fun h => by rw [List.getElem?_eq_getElem h] at e5; exact Option.some.inj e5
    have hT : brkT o.limits[m] m o.bins[k] = IntKind.i64.wrap (o.bins[k].w * IntKind.i64.wrap (o.bins[k].grams[m].2 - o.limits[m])) := by simp [brkT, e4]
    refine EW.skip ?_
    refine n5 _ ?_; clear n5 x5
    refine EW.seq fun Ψ6 n6 x6 => ?_
    refine EW.block ?_
    refine EW.seq fun Ψ7 n7 x7 => ?_
    refine EW.region gs_nil ?_
    simp [hc16, e1, eBins_atm _ _ _ _ _ e1, show 4 ≤ o.bins.length * 4 - k * 4 by omega]
    refine n7 _ ?_; clear n7 x7
    refine EW.seq fun Ψ8 n8 x8 => ?_
    refine EW.drawn [] mixed gs_nil (by kernel_rfl) ?_
    simp [hgm, hm, e4, em, ← hT]
    refine n8 _ ?_; clear n8 x8
    refine EW.seq fun Ψ9 n9 x9 => ?_
    refine EW.region gs_nil ?_
    simp
    refine n9 _ ?_; clear n9 x9
    refine EW.cond (t := _) (by rfl) (fun hc37 => ?_) (fun hc37 => ?_)
    · have hn : 0 ≤ brkT o.limits[m] m o.bins[k] := by simpa using hc37
      refine EW.hide fun Ψ10 n10 => ?_
      refine EW.region gs_nil ?_
      simp [hk4, hx, e5, e6, show k * 2 < 8 by omega]
      refine n10 _ _ ?_; clear n10
      refine n6 _ ?_; clear n6 x6
      refine EW.hide fun Ψ11 n11 => ?_
      refine EW.region gs_nil ?_
      simp
      refine n11 _ _ ?_; clear n11
      have e3 : IntKind.i64.wrap ((k : Int) + 1) = k + 1 := wr_small (by omega) (by omega)
      refine ⟨(k + 1, if 0 ≤ brkT o.limits[m] m o.bins[k] then wr (s + wr (pa * brkT o.limits[m] m o.bins[k])) else wr (s + wr (pb * brkT o.limits[m] m o.bins[k]))), (St.le_lit rfl (by simp [e3, hn]) (by simp) (by simp) (by simp) (by simp)), ?_, ?_⟩
      · refine ⟨hc16, ?_⟩
        rw [← hw, List.drop_eq_getElem_cons hc16, em]; simp [brkL, e5]
      · simp; omega
    · have hn : ¬ 0 ≤ brkT o.limits[m] m o.bins[k] := by simpa using hc37
      refine EW.hide fun Ψ12 n12 => ?_
      refine EW.region gs_nil ?_
      simp [hk4, hx, e5, e6, show k * 2 + 1 < 8 by omega]
      refine n12 _ _ ?_; clear n12
      refine n6 _ ?_; clear n6 x6
      refine EW.hide fun Ψ13 n13 => ?_
      refine EW.region gs_nil ?_
      simp
      refine n13 _ _ ?_; clear n13
      have e3 : IntKind.i64.wrap ((k : Int) + 1) = k + 1 := wr_small (by omega) (by omega)
      refine ⟨(k + 1, if 0 ≤ brkT o.limits[m] m o.bins[k] then wr (s + wr (pa * brkT o.limits[m] m o.bins[k])) else wr (s + wr (pb * brkT o.limits[m] m o.bins[k]))), (St.le_lit rfl (by simp [e3, hn]) (by simp) (by simp) (by simp) (by simp)), ?_, ?_⟩
      · refine ⟨hc16, ?_⟩
        rw [← hw, List.drop_eq_getElem_cons hc16, em]; simp [brkL, e5]
      · simp; omega
  · simp at hc16
    have hv : brkV o x m = decide (0 < s) := by rw [brkV, ← hw, List.drop_of_length_le (by omega)]; rfl
    refine EW.exit ?_
    refine x5 _ _ rfl ?_; clear n5 x5
    refine n2 _ ?_; clear n2 x2
    refine EW.seq fun Ψ14 n14 x14 => ?_
    refine EW.region gs_nil ?_
    simp
    refine n14 _ ?_; clear n14 x14
    refine EW.ret ?_
    refine ⟨_, _, _, rfl, ?_, ?_, ?_, ?_, ?_⟩ <;> simp [hv]

end Go.Ev
end

section
set_option linter.all false
open Go Go.Ev Go.Proofs
namespace Go.Ev
set_option linter.unusedSimpArgs false
set_option linter.unusedVariables false


def brokR (o : MOrd) (x : List (Int × Int)) : Int := match brokV o x with | some _ => 4 | none => 0
def brokA (o : MOrd) (x : List (Int × Int)) : Int := match brokV o x with | some k => k | none => 0
def brokI (o : MOrd) (x : List (Int × Int)) : Bool := (brokV o x).isSome

theorem broken_ok (o : MOrd) (pr : Int) (x : List (Int × Int)) (hl : o.bins.length ≤ 4) (hx : x.length = 4) (hll : o.limits.length < 1000000) (hg : ∀ b ∈ o.bins, b.grams.length = o.limits.length) : ACalls Try.prog 97 [.agg [.sl false false .U .no o.limits.length (eInts o.limits), .s (.int .i64 o.least), .s (.int .i64 o.most), .sl false false .U .no o.bins.length (eBins o.bins), .s (.int .i64 pr)], .agg (bxA x)] [] (.ret (.tup [.agg [.s (.int .i64 (brokR o x)), .s (.int .i64 (brokA o x)), .s (.int .i64 0)], .s (.bool (brokI o x))]) [] []) := by
  refine acalls_of_ew Try.func97 rfl rfl (by simp [Try.f97]) (rs := [.cell 4 64, .tmp 5]) rfl ?_
  refine EW.seq fun Ψ0 n0 x0 => ?_
  refine EW.region gs_nil ?_
  simp
  refine n0 _ ?_; clear n0 x0
  refine EW.seq fun Ψ1 n1 x1 => ?_
  refine EW.seq fun Ψ2 n2 x2 => ?_
  refine EW.region gs_nil ?_
  simp
  refine n2 _ ?_; clear n2 x2
  refine EW.block ?_
  refine EW.loopA (brokS o pr x) (fun k => k ≤ o.limits.length ∧ brokL o x (o.limits.length - k) k = brokV o x) (fun k => o.limits.length - k) 0 (St.le_lit rfl (by simp) (by simp) (by simp) (by simp) (by simp)) ?_ fun p hk => ?_
  · simp [brokV]
  rename Nat => k
  obtain ⟨hk, hw⟩ := hk
  refine EW.seq fun Ψ3 n3 x3 => ?_
  refine EW.region gs_nil ?_
  simp
  refine n3 _ ?_; clear n3 x3
  refine EW.seq fun Ψ4 n4 x4 => ?_
  refine EW.cond (t := _) (by rfl) (fun hc12 => ?_) (fun hc12 => ?_)
  · simp at hc12
    have hn : o.limits.length - k = (o.limits.length - (k + 1)) + 1 := by omega
    refine EW.skip ?_
    refine n4 _ ?_; clear n4 x4
    refine EW.seq fun Ψ5 n5 x5 => ?_
    refine EW.block ?_
    refine EW.seq fun Ψ6 n6 x6 => ?_
    refine EW.region gs_nil ?_
    simp
    refine n6 _ ?_; clear n6 x6
    refine EW.seq fun Ψ7 n7 x7 => ?_
    cases q1 : brkV o x k
    · skip
      refine EW.region (gs_cons (breaks_ok o pr x k hl hx hc12 hll hg) gs_nil) ?_
      simp [hx, q1]
      refine n7 _ ?_; clear n7 x7
      refine EW.cond (t := _) (by rfl) (fun hc17 => ?_) (fun hc17 => ?_)
      · simp at hc17
      · simp at hc17
        refine EW.skip ?_
        refine n5 _ ?_; clear n5 x5
        refine EW.hide fun Ψ8 n8 => ?_
        refine EW.region gs_nil ?_
        simp
        refine n8 _ _ ?_; clear n8
        have e3 : IntKind.i64.wrap ((k : Int) + 1) = k + 1 := wr_small (by omega) (by omega)
        refine ⟨k + 1, (St.le_lit rfl (by simp [e3]) (by simp) (by simp) (by simp) (by simp)), ?_, ?_⟩
        · refine ⟨hc12, ?_⟩
          rw [← hw, hn]; simp [brokL, q1]
        · omega
    · skip
      refine EW.region (gs_cons (breaks_ok o pr x k hl hx hc12 hll hg) gs_nil) ?_
      simp [hx, q1]
      refine n7 _ ?_; clear n7 x7
      refine EW.cond (t := _) (by rfl) (fun hc17 => ?_) (fun hc17 => ?_)
      · simp at hc17
        have hb : brokV o x = some k := by rw [← hw, hn]; simp [brokL, q1]
        have hv : brokR o x = 4 ∧ brokA o x = k ∧ brokI o x = true := by simp [brokR, brokA, brokI, hb]
        refine EW.seq fun Ψ9 n9 x9 => ?_
        refine EW.region gs_nil ?_
        simp
        refine n9 _ ?_; clear n9 x9
        refine EW.ret ?_
        refine x5 _ _ rfl ?_; clear n5 x5
        refine x1 _ _ rfl ?_; clear n1 x1
        refine ⟨_, _, _, rfl, ?_, ?_, ?_, ?_, ?_⟩ <;> simp [hv]
      · simp at hc17
  · simp at hc12
    have hb : brokV o x = none := by rw [← hw, show o.limits.length - k = 0 by omega]; rfl
    have hv : brokR o x = 0 ∧ brokA o x = 0 ∧ brokI o x = false := by simp [brokR, brokA, brokI, hb]
    refine EW.exit ?_
    refine x4 _ _ rfl ?_; clear n4 x4
    refine n1 _ ?_; clear n1 x1
    refine EW.seq fun Ψ10 n10 x10 => ?_
    refine EW.region gs_nil ?_
    simp
    refine n10 _ ?_; clear n10 x10
    refine EW.ret ?_
    refine ⟨_, _, _, rfl, ?_, ?_, ?_, ?_, ?_⟩ <;> simp [hv]

theorem cut_ok (x : List (Int × Int)) (k : Nat) (a : Int) (hx : x.length = 4) (hk : (k : Int) < 4) : ACalls Try.prog 92 [.agg (bxA x), .s (.int .i64 k), .s (.int .i64 a)] [] (.ret (.tup [.agg (bxA (setHi x k a)), .agg (bxA (setLo x k (wr (a + 1))))]) [] []) := by
  refine acalls_of_ew Try.func92 rfl rfl (by simp [Try.f92]) (rs := [.cell 6 115, .cell 7 115]) rfl ?_
  refine EW.seq fun Ψ0 n0 x0 => ?_
  refine EW.region gs_nil ?_
  simp
  refine n0 _ ?_; clear n0 x0
  refine EW.seq fun Ψ1 n1 x1 => ?_
  refine EW.region gs_nil ?_
  simp [hx]
  refine n1 _ ?_; clear n1 x1
  refine EW.seq fun Ψ2 n2 x2 => ?_
  refine EW.region gs_nil ?_
  simp [hk, hx, show k * 2 + 1 + 1 ≤ 8 by omega, show k * 2 + 1 ≤ 8 by omega, bx_putHi x k _ (by omega), bx_putLo x k _ (by omega)]
  refine n2 _ ?_; clear n2 x2
  refine EW.seq fun Ψ3 n3 x3 => ?_
  refine EW.drawn [(1, 2)] mixed gs_nil (by kernel_rfl) ?_
  simp [hx]
  refine n3 _ ?_; clear n3 x3
  refine EW.ret ?_
  refine ⟨_, _, _, rfl, ?_, ?_, ?_, ?_, ?_⟩ <;> simp [hx]

end Go.Ev
end

section
set_option linter.all false
open Go Go.Ev Go.Proofs
namespace Go.Ev
set_option linter.unusedSimpArgs false
set_option linter.unusedVariables false

/-! ### The plain proof of a box -/
def oneB (x : List (Int × Int)) : List (Int × Int) := x.map fun p => (p.1, p.1)
def oneF : List (Int × Int) → Nat → List (Int × Int)
  | [], _ => []
  | p :: r, 0 => p :: r
  | p :: r, k + 1 => (p.1, p.1) :: oneF r k
@[simp] theorem oneF_len : ∀ (x : List (Int × Int)) (k : Nat), (oneF x k).length = x.length
  | [], _ => rfl
  | p :: r, 0 => rfl
  | p :: r, k + 1 => by simp [oneF, oneF_len r k]
theorem oneF_0 : ∀ (x : List (Int × Int)), oneF x 0 = x
  | [] => rfl
  | p :: r => rfl
theorem oneF_get : ∀ (x : List (Int × Int)) (k : Nat), (oneF x k)[k]? = x[k]?
  | [], _ => rfl
  | p :: r, 0 => rfl
  | p :: r, k + 1 => by simpa [oneF] using oneF_get r k
theorem oneF_succ : ∀ (x : List (Int × Int)) (k : Nat) (p : Int × Int), x[k]? = some p → setHi (oneF x k) k p.1 = oneF x (k + 1)
  | [], _, _, h => by simp at h
  | q :: r, 0, p, h => by
    simp at h; subst h
    simp [oneF, setHi, oneF_0]
  | q :: r, k + 1, p, h => by
    simp only [oneF, setHi]
    rw [oneF_succ r k p (by simpa using h)]
theorem oneF_all : ∀ (x : List (Int × Int)) (k : Nat), x.length ≤ k → oneF x k = oneB x
  | [], _, _ => rfl
  | p :: r, k + 1, h => by simp only [oneF, oneB, List.map_cons]; rw [oneF_all r k (by simpa using h)]; rfl
@[simp] theorem oneB_len (x : List (Int × Int)) : (oneB x).length = x.length := by simp [oneB]
theorem oneB_get (x : List (Int × Int)) (k : Nat) : (oneB x)[k]? = (x[k]?).map fun p => (p.1, p.1) := by simp [oneB]
def firstD : List (Int × Int) → Nat
  | [] => 0
  | p :: r => if p.1 = p.2 then firstD r + 1 else 0
theorem firstD_lt : ∀ (x : List (Int × Int)), x ≠ oneB x → firstD x < x.length ∧ ∃ p, x[firstD x]? = some p ∧ p.1 ≠ p.2
  | [], h => absurd rfl h
  | p :: r, h => by
    simp only [firstD]
    split
    · rename_i e
      have hr : r ≠ oneB r := fun e2 => h (by
        simp only [oneB, List.map_cons]
        have : p = (p.1, p.1) := by cases p; simp at e ⊢; exact e.symm
        rw [← this]
        exact congrArg _ e2)
      obtain ⟨h1, q, h2, h3⟩ := firstD_lt r hr
      exact ⟨by simp; omega, q, by simpa using h2, h3⟩
    · rename_i e
      exact ⟨by simp, p, by simp, e⟩
theorem firstD_before : ∀ (x : List (Int × Int)) (k : Nat) (p : Int × Int), k < firstD x → x[k]? = some p → p.1 = p.2
  | [], k, p, h, hp => by simp [firstD] at h
  | q :: r, k, p, h, hp => by
    simp only [firstD] at h
    split at h
    · rename_i e
      cases k with
      | zero => simp at hp; subst hp; exact e
      | succ k => exact firstD_before r k p (by omega) (by simpa using hp)
    · omega
def midB (x : List (Int × Int)) : Int := wr ((wr ((x[firstD x]?.getD (0, 0)).1 + (x[firstD x]?.getD (0, 0)).2)).tdiv 2)
def plainL (o : MOrd) (pr : Int) : Nat → List (Int × Int) → Option (List MBd)
  | 0, _ => none
  | n + 1, x =>
    if lightB o x = true then some [⟨2, 0, 0⟩] else if heavyB o x = true then some [⟨3, 0, 0⟩] else if brokI o x = true then some [⟨4, brokA o x, 0⟩] else if dearB o pr x = true then some [⟨5, 0, 0⟩]
    else if x = oneB x then none else
      match plainL o pr n (setHi x (firstD x) (midB x)), plainL o pr n (setLo x (firstD x) (wr (midB x + 1))) with
      | some a, some b => some (⟨1, firstD x, midB x⟩ :: (a ++ b))
      | _, _ => none
def foundV : Value := .iface 124 (.agg #[])
def plainOut (o : MOrd) (pr : Int) (n : Nat) (x : List (Int × Int)) : Out :=
  match plainL o pr n x with
  | some l => .ret (.sl true true .U .no l.length (eBds l)) [] []
  | none => .pan foundV
/-- A box of numbers from 0 up to 1000, the least first. -/
def okBx (x : List (Int × Int)) : Prop := ∀ p ∈ x, 0 ≤ p.1 ∧ p.1 ≤ p.2 ∧ p.2 ≤ 1000
def sizeBx : List (Int × Int) → Nat
  | [] => 0
  | p :: r => (p.2 - p.1).toNat + sizeBx r
theorem setHi_ok : ∀ (x : List (Int × Int)) (k : Nat) (p : Int × Int) (v : Int), okBx x → x[k]? = some p → p.1 ≤ v → v < p.2 → okBx (setHi x k v) ∧ sizeBx (setHi x k v) < sizeBx x
  | [], _, _, _, _, h, _, _ => by simp at h
  | q :: r, 0, p, v, hx, h, h1, h2 => by
    simp at h; subst h
    have hq := hx q (by simp)
    refine ⟨fun y hy => ?_, by simp only [setHi, sizeBx]; omega⟩
    simp only [setHi] at hy
    rcases List.mem_cons.1 hy with rfl | hy
    · exact ⟨hq.1, h1, by simp only; omega⟩
    · exact hx y (by simp [hy])
  | q :: r, k + 1, p, v, hx, h, h1, h2 => by
    obtain ⟨i1, i2⟩ := setHi_ok r k p v (fun y hy => hx y (by simp [hy])) (by simpa using h) h1 h2
    refine ⟨fun y hy => ?_, by simp only [setHi, sizeBx]; omega⟩
    simp only [setHi] at hy
    rcases List.mem_cons.1 hy with rfl | hy
    · exact hx y (by simp)
    · exact i1 y hy
theorem setLo_ok : ∀ (x : List (Int × Int)) (k : Nat) (p : Int × Int) (v : Int), okBx x → x[k]? = some p → p.1 < v → v ≤ p.2 → okBx (setLo x k v) ∧ sizeBx (setLo x k v) < sizeBx x
  | [], _, _, _, _, h, _, _ => by simp at h
  | q :: r, 0, p, v, hx, h, h1, h2 => by
    simp at h; subst h
    have hq := hx q (by simp)
    refine ⟨fun y hy => ?_, by simp only [setLo, sizeBx]; omega⟩
    simp only [setLo] at hy
    rcases List.mem_cons.1 hy with rfl | hy
    · exact ⟨by simp only; omega, h2, hq.2.2⟩
    · exact hx y (by simp [hy])
  | q :: r, k + 1, p, v, hx, h, h1, h2 => by
    obtain ⟨i1, i2⟩ := setLo_ok r k p v (fun y hy => hx y (by simp [hy])) (by simpa using h) h1 h2
    refine ⟨fun y hy => ?_, by simp only [setLo, sizeBx]; omega⟩
    simp only [setLo] at hy
    rcases List.mem_cons.1 hy with rfl | hy
    · exact hx y (by simp)
    · exact i1 y hy
theorem okBx_get {x : List (Int × Int)} (h : okBx x) {k : Nat} {p : Int × Int} (hp : x[k]? = some p) : 0 ≤ p.1 ∧ p.1 ≤ p.2 ∧ p.2 ≤ 1000 := h p (List.mem_of_getElem? hp)
theorem midB_eq {x : List (Int × Int)} (h : okBx x) {p : Int × Int} (hp : x[firstD x]? = some p) : midB x = (p.1 + p.2) / 2 := by
  have := okBx_get h hp
  simp only [midB, hp, Option.getD_some]
  rw [wr_small (n := p.1 + p.2) (by omega) (by omega), Int.tdiv_eq_ediv_of_nonneg (by omega), wr_small (by omega) (by omega)]
/-- Both halves are smaller. -/
theorem halves {x : List (Int × Int)} (h : okBx x) (hne : x ≠ oneB x) : (okBx (setHi x (firstD x) (midB x)) ∧ sizeBx (setHi x (firstD x) (midB x)) < sizeBx x) ∧ (okBx (setLo x (firstD x) (wr (midB x + 1))) ∧ sizeBx (setLo x (firstD x) (wr (midB x + 1))) < sizeBx x) := by
  obtain ⟨_, p, hp, hd⟩ := firstD_lt x hne
  have h2 := okBx_get h hp
  have hm := midB_eq h hp
  have hw : wr (midB x + 1) = midB x + 1 := wr_small (by omega) (by omega)
  rw [hw]
  exact ⟨setHi_ok x _ p _ h hp (by omega) (by omega), setLo_ok x _ p _ h hp (by omega) (by omega)⟩
theorem plainL_len (o : MOrd) (pr : Int) : ∀ (n : Nat) (x : List (Int × Int)) (l : List MBd), plainL o pr n x = some l → l.length < 2 ^ (n + 1)
  | 0, x, l, h => by cases h
  | n + 1, x, l, h => by
    have hp : 2 ^ (n + 1 + 1) = 2 ^ (n + 1) + 2 ^ (n + 1) := by rw [Nat.pow_succ]; omega
    have h1 : 1 ≤ 2 ^ n := Nat.one_le_two_pow
    have h2 : 2 ^ (n + 1) = 2 ^ n + 2 ^ n := by rw [Nat.pow_succ]; omega
    simp only [plainL] at h
    split at h
    · cases h; simp
    split at h
    · cases h; simp
    split at h
    · cases h; simp
    split at h
    · cases h; simp
    split at h
    · cases h
    split at h
    · rename_i a b ha hb
      cases h
      have := plainL_len o pr n _ a ha
      have := plainL_len o pr n _ b hb
      simp; omega
    · cases h
end Go.Ev
end
