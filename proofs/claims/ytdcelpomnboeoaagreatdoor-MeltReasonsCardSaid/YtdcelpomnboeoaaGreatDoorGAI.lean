/- Lemmas for the claims of this seat: an evaluator over abstract values, its soundness, and the contracts of the functions of melt that it walks; no premise beyond what each theorem states. -/
import Derived.Test.YtdcelpomnboeoaaGreatDoorGAH
import Derived.Test.YtdcelpomnboeoaaGreatDoorGAG

section
set_option linter.all false
open Go Go.Ev Go.Proofs
namespace Go.Ev
set_option linter.unusedSimpArgs false
set_option linter.unusedVariables false


/-- checkPrice. -/
def priceErr (o : MOrd) (p : Int) : Int := if ordErr o = 0 then (if inB p 0 300000000 = true then 0 else 1) else ordErr o
def wholeL : List MBin → Nat → List (Int × Int) → List (Int × Int)
  | [], _, x => x
  | b :: bs, i, x => wholeL bs (i + 1) (setHi x i b.g)
def wholeB (o : MOrd) : List (Int × Int) := wholeL o.bins 0 bx0
def whS (o : MOrd) (p : Nat × List (Int × Int)) : St :=
  St.lit 21 [(1, .ptr (.own 1) 0), (2, .ptr (.own 2) 0), (3, .ptr (.own 3) 0), (7, .sl false false .U .no o.bins.length (eBins o.bins)), (8, .s (.int .i64 o.bins.length)), (9, .s (.int .i64 p.1))] [(1, aOrdC o), (2, bxA bx0), (3, bxA p.2)] [] []
attribute [simp] whS

theorem checkPrice_ok (o : MOrd) (p : Int) (hz : szO o) : ACalls Tryz.prog 49 [.agg [.sl false false .U .no o.limits.length (eInts o.limits), .s (.int .i64 o.least), .s (.int .i64 o.most), .sl false false .U .no o.bins.length (eBins o.bins)], .s (.int .i64 p)] [] (.ret (.s (.int .i64 (priceErr o p))) [] []) := by
  refine acalls_of_ew Tryz.func49 rfl rfl (by simp [Tryz.f49]) (rs := [.tmp 4]) rfl ?_
  refine EW.seq fun Ψ0 n0 x0 => ?_
  refine EW.region gs_nil ?_
  simp
  refine n0 _ ?_; clear n0 x0
  refine EW.seq fun Ψ1 n1 x1 => ?_
  refine EW.seq fun Ψ2 n2 x2 => ?_
  refine EW.region (gs_cons (check_ok' o hz) gs_nil) ?_
  simp
  refine n2 _ ?_; clear n2 x2
  refine EW.seq fun Ψ3 n3 x3 => ?_
  refine EW.region gs_nil ?_
  simp
  refine n3 _ ?_; clear n3 x3
  refine EW.cond (t := _) (by rfl) (fun hc9 => ?_) (fun hc9 => ?_)
  · have g1 : ¬ ordErr o = 0 := by simpa using hc9
    have hv : priceErr o p = ordErr o := by simp [priceErr, g1]
    refine EW.seq fun Ψ4 n4 x4 => ?_
    refine EW.region gs_nil ?_
    simp
    refine n4 _ ?_; clear n4 x4
    refine EW.ret ?_
    refine x1 _ _ rfl ?_; clear n1 x1
    refine ⟨_, _, _, rfl, ?_, ?_, ?_, ?_, ?_⟩ <;> simp [hv]
  · have g1 : ordErr o = 0 := by simpa using hc9
    refine EW.skip ?_
    refine n1 _ ?_; clear n1 x1
    refine EW.seq fun Ψ5 n5 x5 => ?_
    refine EW.seq fun Ψ6 n6 x6 => ?_
    cases q1 : inB p 0 300000000
    · skip
      refine EW.region (gI_ok gs_nil) ?_
      simp [q1]
      refine n6 _ ?_; clear n6 x6
      refine EW.cond (t := _) (by rfl) (fun hc13 => ?_) (fun hc13 => ?_)
      · simp at hc13
        have hv : priceErr o p = 1 := by simp [priceErr, g1, q1]
        refine EW.seq fun Ψ7 n7 x7 => ?_
        refine EW.region gs_nil ?_
        simp
        refine n7 _ ?_; clear n7 x7
        refine EW.ret ?_
        refine x5 _ _ rfl ?_; clear n5 x5
        refine ⟨_, _, _, rfl, ?_, ?_, ?_, ?_, ?_⟩ <;> simp [hv]
      · simp at hc13
    · skip
      refine EW.region (gI_ok gs_nil) ?_
      simp [q1]
      refine n6 _ ?_; clear n6 x6
      refine EW.cond (t := _) (by rfl) (fun hc13 => ?_) (fun hc13 => ?_)
      · simp at hc13
      · simp at hc13
        have hv : priceErr o p = 0 := by simp [priceErr, g1, q1]
        refine EW.skip ?_
        refine n5 _ ?_; clear n5 x5
        refine EW.seq fun Ψ8 n8 x8 => ?_
        refine EW.region gs_nil ?_
        simp
        refine n8 _ ?_; clear n8 x8
        refine EW.ret ?_
        refine ⟨_, _, _, rfl, ?_, ?_, ?_, ?_, ?_⟩ <;> simp [hv]

theorem whole_ok (o : MOrd) (hl : o.bins.length ≤ 4) : ACalls Tryz.prog 71 [.agg [.sl false false .U .no o.limits.length (eInts o.limits), .s (.int .i64 o.least), .s (.int .i64 o.most), .sl false false .U .no o.bins.length (eBins o.bins)]] [] (.ret (.agg (bxA (wholeB o))) [] []) := by
  refine acalls_of_ew Tryz.func71 rfl rfl (by simp [Tryz.f71]) (rs := [.cell 2 123]) rfl ?_
  refine EW.seq fun Ψ0 n0 x0 => ?_
  refine EW.region gs_nil ?_
  simp
  refine n0 _ ?_; clear n0 x0
  refine EW.seq fun Ψ1 n1 x1 => ?_
  refine EW.region gs_nil ?_
  simp
  refine n1 _ ?_; clear n1 x1
  refine EW.seq fun Ψ2 n2 x2 => ?_
  refine EW.seq fun Ψ3 n3 x3 => ?_
  refine EW.region gs_nil ?_
  simp
  refine n3 _ ?_; clear n3 x3
  refine EW.block ?_
  refine EW.loopA (whS o) (fun p => p.1 ≤ o.bins.length ∧ p.2.length = 4 ∧ wholeL (o.bins.drop p.1) p.1 p.2 = wholeB o) (fun p => o.bins.length - p.1) (0, bx0) (St.le_lit rfl (by simp) (by simp) (by simp) (by simp) (by simp)) ?_ fun p hk => ?_
  · simp [wholeB]
  obtain ⟨k, x⟩ := p
  obtain ⟨hk, hx, hw⟩ := hk
  simp only at hk hx hw
  refine EW.seq fun Ψ4 n4 x4 => ?_
  refine EW.region gs_nil ?_
  simp
  refine n4 _ ?_; clear n4 x4
  refine EW.seq fun Ψ5 n5 x5 => ?_
  refine EW.cond (t := _) (by rfl) (fun hc10 => ?_) (fun hc10 => ?_)
  · simp at hc10
    have e1 : o.bins[k]? = some o.bins[k] := List.getElem?_eq_getElem hc10
    have hk4 : (k : Int) < 4 := by omega
    refine EW.skip ?_
    refine n5 _ ?_; clear n5 x5
    refine EW.seq fun Ψ6 n6 x6 => ?_
    refine EW.block ?_
    refine EW.seq fun Ψ7 n7 x7 => ?_
    refine EW.region gs_nil ?_
    simp [hc10, e1, eBins_atm _ _ _ _ _ e1, show 4 ≤ o.bins.length * 4 - k * 4 by omega]
    refine n7 _ ?_; clear n7 x7
    refine EW.hide fun Ψ8 n8 => ?_
    refine EW.region gs_nil ?_
    simp [hk4, hx, show k * 2 + 1 + 1 ≤ 8 by omega, bx_putHi x k _ (by omega)]
    refine n8 _ _ ?_; clear n8
    refine n6 _ ?_; clear n6 x6
    refine EW.hide fun Ψ9 n9 => ?_
    refine EW.region gs_nil ?_
    simp
    refine n9 _ _ ?_; clear n9
    have e3 : IntKind.i64.wrap ((k : Int) + 1) = k + 1 := wr_small (by omega) (by omega)
    refine ⟨(k + 1, setHi x k o.bins[k].g), (St.le_lit rfl (by simp [e3]) (by simp) (by simp) (by simp) (by simp)), ?_, ?_⟩
    · refine ⟨hc10, by simpa using hx, ?_⟩
      rw [← hw, List.drop_eq_getElem_cons hc10]; rfl
    · simp; omega
  · simp at hc10
    have hv : x = wholeB o := by rw [← hw, List.drop_of_length_le (by omega)]; rfl
    refine EW.exit ?_
    refine x5 _ _ rfl ?_; clear n5 x5
    refine n2 _ ?_; clear n2 x2
    refine EW.seq fun Ψ10 n10 x10 => ?_
    refine EW.region gs_nil ?_
    simp [hx]
    refine n10 _ ?_; clear n10 x10
    refine EW.ret ?_
    refine ⟨_, _, _, rfl, ?_, ?_, ?_, ?_, ?_⟩ <;> simp [hx, ← hv]


def highsS (o : MOrd) (x : List (Int × Int)) (p : Nat × List Int) : St :=
  St.lit 22 [(2, .ptr (.own 2) 0), (3, .ptr (.own 3) 0), (5, .sl true true .Z (.tok 19) p.2.length (eInts p.2)), (9, .s (.int .i64 o.bins.length)), (10, .s (.int .i64 p.1))] [(2, bxA x), (3, aOrdC o)] [] [(19, (p.2.length, 1))]
attribute [simp] highsS
def highsB (o : MOrd) (x : List (Int × Int)) : List Int := (x.take o.bins.length).map (·.2)

theorem highs_ok (o : MOrd) (x : List (Int × Int)) (hl : o.bins.length ≤ 4) (hx : x.length = 4) : ACalls Tryz.prog 94 [.agg (bxA x), .agg [.sl false false .U .no o.limits.length (eInts o.limits), .s (.int .i64 o.least), .s (.int .i64 o.most), .sl false false .U .no o.bins.length (eBins o.bins)]] [] (.ret (.sl true true .Z .no (highsB o x).length (eInts (highsB o x))) [] []) := by
  refine acalls_of_ew Tryz.func94 rfl rfl (by simp [Tryz.f94]) (rs := [.tmp 4]) rfl ?_
  refine EW.seq fun Ψ0 n0 x0 => ?_
  refine EW.region gs_nil ?_
  simp
  refine n0 _ ?_; clear n0 x0
  refine EW.seq fun Ψ1 n1 x1 => ?_
  refine EW.region gs_nil ?_
  simp
  refine n1 _ ?_; clear n1 x1
  refine EW.seq fun Ψ2 n2 x2 => ?_
  refine EW.seq fun Ψ3 n3 x3 => ?_
  refine EW.region gs_nil ?_
  simp
  refine n3 _ ?_; clear n3 x3
  refine EW.block ?_
  refine EW.loopA (highsS o x) (fun p => p.1 ≤ o.bins.length ∧ p.2 = (x.take p.1).map (·.2)) (fun p => o.bins.length - p.1) (0, []) (St.le_lit rfl (by simp) (by simp) (by simp) (by simp) (by simp)) ?_ fun p hk => ?_
  · simp
  obtain ⟨k, l⟩ := p
  obtain ⟨hk, hw⟩ := hk
  simp only at hk hw
  have hll : l.length = k := by rw [hw]; simp; omega
  refine EW.seq fun Ψ4 n4 x4 => ?_
  refine EW.region gs_nil ?_
  simp
  refine n4 _ ?_; clear n4 x4
  refine EW.seq fun Ψ5 n5 x5 => ?_
  refine EW.cond (t := _) (by rfl) (fun hc11 => ?_) (fun hc11 => ?_)
  · simp at hc11
    have hk4 : (k : Int) < 4 := by omega
    obtain ⟨⟨pa, pb⟩, e1⟩ : ∃ p, x[k]? = some p := ⟨_, List.getElem?_eq_getElem (by omega)⟩
    have e2 : ∀ h, x[k]'h = (pa, pb) := fun h => by rw [List.getElem?_eq_getElem h] at e1; exact Option.some.inj e1
    refine EW.skip ?_
    refine n5 _ ?_; clear n5 x5
    refine EW.seq fun Ψ6 n6 x6 => ?_
    refine EW.block ?_
    refine EW.seq fun Ψ7 n7 x7 => ?_
    refine EW.region gs_nil ?_
    simp
    refine n7 _ ?_; clear n7 x7
    refine EW.hide fun Ψ8 n8 => ?_
    refine EW.region gs_nil ?_
    simp [hk4, hx, e1, e2, hll, show (k + 1) * 8 ≤ 140737488355328 by omega, show k * 2 + 1 < 8 by omega]
    refine n8 _ _ ?_; clear n8
    refine n6 _ ?_; clear n6 x6
    refine EW.hide fun Ψ9 n9 => ?_
    refine EW.region gs_nil ?_
    simp
    refine n9 _ _ ?_; clear n9
    have e3 : IntKind.i64.wrap ((k : Int) + 1) = k + 1 := wr_small (by omega) (by omega)
    refine ⟨(k + 1, l ++ [pb]), (St.le_lit rfl (by simp [e3, hll]) (by simp) (by simp) (by simp [hll]) (by simp)), ?_, ?_⟩
    · refine ⟨hc11, ?_⟩
      simp only; rw [hw, List.take_succ, e1]; simp
    · simp; omega
  · simp at hc11
    have hv : l = highsB o x := by rw [hw, show k = o.bins.length by omega]; rfl
    refine EW.exit ?_
    refine x5 _ _ rfl ?_; clear n5 x5
    refine n2 _ ?_; clear n2 x2
    refine EW.seq fun Ψ10 n10 x10 => ?_
    refine EW.region gs_nil ?_
    simp
    refine n10 _ ?_; clear n10 x10
    refine EW.ret ?_
    refine ⟨_, _, _, rfl, ?_, ?_, ?_, ?_, ?_⟩ <;> simp [← hv]


def lowsS (o : MOrd) (x : List (Int × Int)) (p : Nat × List Int) : St :=
  St.lit 22 [(2, .ptr (.own 2) 0), (3, .ptr (.own 3) 0), (5, .sl true true .Z (.tok 19) p.2.length (eInts p.2)), (9, .s (.int .i64 o.bins.length)), (10, .s (.int .i64 p.1))] [(2, bxA x), (3, aOrdC o)] [] [(19, (p.2.length, 1))]
attribute [simp] lowsS
def lowsB (o : MOrd) (x : List (Int × Int)) : List Int := (x.take o.bins.length).map (·.1)

theorem lows_ok (o : MOrd) (x : List (Int × Int)) (hl : o.bins.length ≤ 4) (hx : x.length = 4) : ACalls Tryz.prog 95 [.agg (bxA x), .agg [.sl false false .U .no o.limits.length (eInts o.limits), .s (.int .i64 o.least), .s (.int .i64 o.most), .sl false false .U .no o.bins.length (eBins o.bins)]] [] (.ret (.sl true true .Z .no (lowsB o x).length (eInts (lowsB o x))) [] []) := by
  refine acalls_of_ew Tryz.func95 rfl rfl (by simp [Tryz.f95]) (rs := [.tmp 4]) rfl ?_
  refine EW.seq fun Ψ0 n0 x0 => ?_
  refine EW.region gs_nil ?_
  simp
  refine n0 _ ?_; clear n0 x0
  refine EW.seq fun Ψ1 n1 x1 => ?_
  refine EW.region gs_nil ?_
  simp
  refine n1 _ ?_; clear n1 x1
  refine EW.seq fun Ψ2 n2 x2 => ?_
  refine EW.seq fun Ψ3 n3 x3 => ?_
  refine EW.region gs_nil ?_
  simp
  refine n3 _ ?_; clear n3 x3
  refine EW.block ?_
  refine EW.loopA (lowsS o x) (fun p => p.1 ≤ o.bins.length ∧ p.2 = (x.take p.1).map (·.1)) (fun p => o.bins.length - p.1) (0, []) (St.le_lit rfl (by simp) (by simp) (by simp) (by simp) (by simp)) ?_ fun p hk => ?_
  · simp
  obtain ⟨k, l⟩ := p
  obtain ⟨hk, hw⟩ := hk
  simp only at hk hw
  have hll : l.length = k := by rw [hw]; simp; omega
  refine EW.seq fun Ψ4 n4 x4 => ?_
  refine EW.region gs_nil ?_
  simp
  refine n4 _ ?_; clear n4 x4
  refine EW.seq fun Ψ5 n5 x5 => ?_
  refine EW.cond (t := _) (by rfl) (fun hc11 => ?_) (fun hc11 => ?_)
  · simp at hc11
    have hk4 : (k : Int) < 4 := by omega
    obtain ⟨⟨pa, pb⟩, e1⟩ : ∃ p, x[k]? = some p := ⟨_, List.getElem?_eq_getElem (by omega)⟩
    have e2 : ∀ h, x[k]'h = (pa, pb) := fun h => by rw [List.getElem?_eq_getElem h] at e1; exact Option.some.inj e1
    refine EW.skip ?_
    refine n5 _ ?_; clear n5 x5
    refine EW.seq fun Ψ6 n6 x6 => ?_
    refine EW.block ?_
    refine EW.seq fun Ψ7 n7 x7 => ?_
    refine EW.region gs_nil ?_
    simp
    refine n7 _ ?_; clear n7 x7
    refine EW.hide fun Ψ8 n8 => ?_
    refine EW.region gs_nil ?_
    simp [hk4, hx, e1, e2, hll, show (k + 1) * 8 ≤ 140737488355328 by omega, show k * 2 + 0 < 8 by omega]
    refine n8 _ _ ?_; clear n8
    refine n6 _ ?_; clear n6 x6
    refine EW.hide fun Ψ9 n9 => ?_
    refine EW.region gs_nil ?_
    simp
    refine n9 _ _ ?_; clear n9
    have e3 : IntKind.i64.wrap ((k : Int) + 1) = k + 1 := wr_small (by omega) (by omega)
    refine ⟨(k + 1, l ++ [pa]), (St.le_lit rfl (by simp [e3, hll]) (by simp) (by simp) (by simp [hll]) (by simp)), ?_, ?_⟩
    · refine ⟨hc11, ?_⟩
      simp only; rw [hw, List.take_succ, e1]; simp
    · simp; omega
  · simp at hc11
    have hv : l = lowsB o x := by rw [hw, show k = o.bins.length by omega]; rfl
    refine EW.exit ?_
    refine x5 _ _ rfl ?_; clear n5 x5
    refine n2 _ ?_; clear n2 x2
    refine EW.seq fun Ψ10 n10 x10 => ?_
    refine EW.region gs_nil ?_
    simp
    refine n10 _ ?_; clear n10 x10
    refine EW.ret ?_
    refine ⟨_, _, _, rfl, ?_, ?_, ?_, ?_, ?_⟩ <;> simp [← hv]

end Go.Ev
end

section
set_option linter.all false
open Go Go.Ev Go.Proofs
namespace Go.Ev
set_option linter.unusedSimpArgs false
set_option linter.unusedVariables false


theorem highsB_len (o : MOrd) (x : List (Int × Int)) : (highsB o x).length ≤ o.bins.length := by simp [highsB]; omega
theorem lowsB_len (o : MOrd) (x : List (Int × Int)) : (lowsB o x).length ≤ o.bins.length := by simp [lowsB]; omega
def lightB (o : MOrd) (x : List (Int × Int)) : Bool := decide ((weighL o.bins (highsB o x) 0 0 0).1 < o.least)
def heavyB (o : MOrd) (x : List (Int × Int)) : Bool := decide (o.most < (weighL o.bins (lowsB o x) 0 0 0).1)
def dearB (o : MOrd) (pr : Int) (x : List (Int × Int)) : Bool := decide (pr ≤ (weighL o.bins (lowsB o x) 0 0 0).2)
def brkT (lim : Int) (m : Nat) (b : MBin) : Int := wr (b.w * wr ((b.grams[m]?.getD (0, 0)).2 - lim))
def brkL (lim : Int) (m : Nat) (x : List (Int × Int)) : List MBin → Nat → Int → Int
  | [], _, s => s
  | b :: bs, i, s => brkL lim m x bs (i + 1) (if 0 ≤ brkT lim m b then wr (s + wr ((x[i]?.getD (0, 0)).1 * brkT lim m b)) else wr (s + wr ((x[i]?.getD (0, 0)).2 * brkT lim m b)))
def brkV (o : MOrd) (x : List (Int × Int)) (m : Nat) : Bool := decide (0 < brkL (o.limits[m]?.getD 0) m x o.bins 0 0)
def brokL (o : MOrd) (x : List (Int × Int)) : Nat → Nat → Option Nat
  | 0, _ => none
  | n + 1, k => if brkV o x k = true then some k else brokL o x n (k + 1)
def brokV (o : MOrd) (x : List (Int × Int)) : Option Nat := brokL o x o.limits.length 0
def brkS (o : MOrd) (pr : Int) (x : List (Int × Int)) (m : Nat) (q : Nat × Int) : St :=
  St.lit 57 [(2, .s (.int .i64 m)), (3, .ptr (.own 3) 0), (4, .ptr (.own 4) 0), (7, .s (.int .i64 q.2)), (13, .sl false false .U .no o.bins.length (eBins o.bins)), (14, .s (.int .i64 o.bins.length)), (15, .s (.int .i64 q.1))] [(3, [.sl false false .U .no o.limits.length (eInts o.limits), .s (.int .i64 o.least), .s (.int .i64 o.most), .sl false false .U .no o.bins.length (eBins o.bins), .s (.int .i64 pr)]), (4, bxA x)] [] []
def brokS (o : MOrd) (pr : Int) (x : List (Int × Int)) (k : Nat) : St :=
  St.lit 22 [(2, .ptr (.own 2) 0), (3, .ptr (.own 3) 0), (4, .ptr (.own 4) 0), (9, .sl false false .U .no o.limits.length (eInts o.limits)), (10, .s (.int .i64 o.limits.length)), (11, .s (.int .i64 k))] [(2, [.sl false false .U .no o.limits.length (eInts o.limits), .s (.int .i64 o.least), .s (.int .i64 o.most), .sl false false .U .no o.bins.length (eBins o.bins), .s (.int .i64 pr)]), (3, bxA x), (4, [.s (.int .i64 0), .s (.int .i64 0), .s (.int .i64 0)])] [] []
attribute [simp] brkS brokS

theorem light_ok (o : MOrd) (pr : Int) (x : List (Int × Int)) (hl : o.bins.length ≤ 4) (hx : x.length = 4) : ACalls Tryz.prog 81 [.agg [.sl false false .U .no o.limits.length (eInts o.limits), .s (.int .i64 o.least), .s (.int .i64 o.most), .sl false false .U .no o.bins.length (eBins o.bins), .s (.int .i64 pr)], .agg (bxA x)] [] (.ret (.tup [.agg [.s (.int .i64 2), .s (.int .i64 0), .s (.int .i64 0)], .s (.bool (lightB o x))]) [] []) := by
  refine acalls_of_ew Tryz.func81 rfl rfl (by simp [Tryz.f81]) (rs := [.cell 4 52, .tmp 5]) rfl ?_
  have hlen := highsB_len o x
  refine EW.seq fun Ψ0 n0 x0 => ?_
  refine EW.region gs_nil ?_
  simp
  refine n0 _ ?_; clear n0 x0
  refine EW.seq fun Ψ1 n1 x1 => ?_
  refine EW.drawn [(1, 5)] mixed (gs_cons (highs_ok o x hl hx) (gs_cons (weigh_ok o (highsB o x) hlen (by omega)) gs_nil)) (by kernel_rfl) ?_
  simp [hx]
  refine n1 _ ?_; clear n1 x1
  refine EW.seq fun Ψ2 n2 x2 => ?_
  refine EW.drawn [(4, 6)] mixed gs_nil (by kernel_rfl) ?_
  simp
  refine n2 _ ?_; clear n2 x2
  refine EW.ret ?_
  refine ⟨_, _, _, rfl, ?_, ?_, ?_, ?_, ?_⟩ <;> simp [lightB]

theorem heavy_ok (o : MOrd) (pr : Int) (x : List (Int × Int)) (hl : o.bins.length ≤ 4) (hx : x.length = 4) : ACalls Tryz.prog 82 [.agg [.sl false false .U .no o.limits.length (eInts o.limits), .s (.int .i64 o.least), .s (.int .i64 o.most), .sl false false .U .no o.bins.length (eBins o.bins), .s (.int .i64 pr)], .agg (bxA x)] [] (.ret (.tup [.agg [.s (.int .i64 3), .s (.int .i64 0), .s (.int .i64 0)], .s (.bool (heavyB o x))]) [] []) := by
  refine acalls_of_ew Tryz.func82 rfl rfl (by simp [Tryz.f82]) (rs := [.cell 4 52, .tmp 5]) rfl ?_
  have hlen := lowsB_len o x
  refine EW.seq fun Ψ0 n0 x0 => ?_
  refine EW.region gs_nil ?_
  simp
  refine n0 _ ?_; clear n0 x0
  refine EW.seq fun Ψ1 n1 x1 => ?_
  refine EW.drawn [(1, 5)] mixed (gs_cons (lows_ok o x hl hx) (gs_cons (weigh_ok o (lowsB o x) hlen (by omega)) gs_nil)) (by kernel_rfl) ?_
  simp [hx]
  refine n1 _ ?_; clear n1 x1
  refine EW.seq fun Ψ2 n2 x2 => ?_
  refine EW.drawn [(4, 6)] mixed gs_nil (by kernel_rfl) ?_
  simp
  refine n2 _ ?_; clear n2 x2
  refine EW.ret ?_
  refine ⟨_, _, _, rfl, ?_, ?_, ?_, ?_, ?_⟩ <;> simp [heavyB]

theorem dear_ok (o : MOrd) (pr : Int) (x : List (Int × Int)) (hl : o.bins.length ≤ 4) (hx : x.length = 4) : ACalls Tryz.prog 84 [.agg [.sl false false .U .no o.limits.length (eInts o.limits), .s (.int .i64 o.least), .s (.int .i64 o.most), .sl false false .U .no o.bins.length (eBins o.bins), .s (.int .i64 pr)], .agg (bxA x)] [] (.ret (.tup [.agg [.s (.int .i64 5), .s (.int .i64 0), .s (.int .i64 0)], .s (.bool (dearB o pr x))]) [] []) := by
  refine acalls_of_ew Tryz.func84 rfl rfl (by simp [Tryz.f84]) (rs := [.cell 4 52, .tmp 5]) rfl ?_
  have hlen := lowsB_len o x
  refine EW.seq fun Ψ0 n0 x0 => ?_
  refine EW.region gs_nil ?_
  simp
  refine n0 _ ?_; clear n0 x0
  refine EW.seq fun Ψ1 n1 x1 => ?_
  refine EW.drawn [(1, 5)] mixed (gs_cons (lows_ok o x hl hx) (gs_cons (weigh_ok o (lowsB o x) hlen (by omega)) gs_nil)) (by kernel_rfl) ?_
  simp [hx]
  refine n1 _ ?_; clear n1 x1
  refine EW.seq fun Ψ2 n2 x2 => ?_
  refine EW.drawn [(3, 5)] mixed gs_nil (by kernel_rfl) ?_
  simp
  refine n2 _ ?_; clear n2 x2
  refine EW.ret ?_
  refine ⟨_, _, _, rfl, ?_, ?_, ?_, ?_, ?_⟩ <;> simp [dearB]

theorem breaks_ok (o : MOrd) (pr : Int) (x : List (Int × Int)) (m : Nat) (hl : o.bins.length ≤ 4) (hx : x.length = 4) (hm : m < o.limits.length) (hll : o.limits.length < 1000000) (hg : ∀ b ∈ o.bins, b.grams.length = o.limits.length) : ACalls Tryz.prog 96 [.agg [.sl false false .U .no o.limits.length (eInts o.limits), .s (.int .i64 o.least), .s (.int .i64 o.most), .sl false false .U .no o.bins.length (eBins o.bins), .s (.int .i64 pr)], .agg (bxA x), .s (.int .i64 m)] [] (.ret (.s (.bool (brkV o x m))) [] []) := by
  refine acalls_of_ew Tryz.func96 rfl rfl (by simp [Tryz.f96]) (rs := [.tmp 6]) rfl ?_
  have em : o.limits[m]? = some o.limits[m] := List.getElem?_eq_getElem hm
  refine EW.seq fun Ψ0 n0 x0 => ?_
  refine EW.region gs_nil ?_
  simp
  refine n0 _ ?_; clear n0 x0
  refine EW.seq fun Ψ1 n1 x1 => ?_
  refine EW.region gs_nil ?_
  simp
  refine n1 _ ?_; clear n1 x1
  refine EW.seq fun Ψ2 n2 x2 => ?_
  refine EW.seq fun Ψ3 n3 x3 => ?_
  refine EW.region gs_nil ?_
  simp
  refine n3 _ ?_; clear n3 x3
  refine EW.block ?_
  refine EW.loopA (brkS o pr x m) (fun q => q.1 ≤ o.bins.length ∧ brkL (o.limits[m]?.getD 0) m x (o.bins.drop q.1) q.1 q.2 = brkL (o.limits[m]?.getD 0) m x o.bins 0 0) (fun q => o.bins.length - q.1) (0, 0) (St.le_lit rfl (by simp) (by simp) (by simp) (by simp) (by simp)) ?_ fun p hk => ?_
  · simp
  obtain ⟨k, s⟩ := p
  obtain ⟨hk, hw⟩ := hk
  simp only at hk hw
  refine EW.seq fun Ψ4 n4 x4 => ?_
  refine EW.region gs_nil ?_
  simp
  refine n4 _ ?_; clear n4 x4
  refine EW.seq fun Ψ5 n5 x5 => ?_
  refine EW.cond (t := _) (by rfl) (fun hc16 => ?_) (fun hc16 => ?_)
  · simp at hc16
    have e1 : o.bins[k]? = some o.bins[k] := List.getElem?_eq_getElem hc16
    have hgm : m < o.bins[k].grams.length := by rw [hg _ (List.getElem_mem hc16)]; exact hm
    have e4 : o.bins[k].grams[m]? = some o.bins[k].grams[m] := List.getElem?_eq_getElem hgm
    have hk4 : (k : Int) < 4 := by omega
    obtain ⟨⟨pa, pb⟩, e5⟩ : ∃ q, x[k]? = some q := ⟨_, List.getElem?_eq_getElem (by omega)⟩
    have e6 : ∀ h, x[k]'h = (pa, pb) := fun h => by rw [List.getElem?_eq_getElem h] at e5; exact Option.some.inj e5
    have hT : brkT o.limits[m] m o.bins[k] = IntKind.i64.wrap (o.bins[k].w * IntKind.i64.wrap (o.bins[k].grams[m].2 - o.limits[m])) := by simp [brkT, e4]
    refine EW.skip ?_
    refine n5 _ ?_; clear n5 x5
    refine EW.seq fun Ψ6 n6 x6 => ?_
    refine EW.block ?_
    refine EW.seq fun Ψ7 n7 x7 => ?_
    refine EW.region gs_nil ?_
    simp [hc16, e1, eBins_atm _ _ _ _ _ e1, show 4 ≤ o.bins.length * 4 - k * 4 by omega]
    refine n7 _ ?_; clear n7 x7
    refine EW.seq fun Ψ8 n8 x8 => ?_
    refine EW.drawn [] mixed gs_nil (by kernel_rfl) ?_
    simp [hgm, hm, e4, em, ← hT]
    refine n8 _ ?_; clear n8 x8
    refine EW.seq fun Ψ9 n9 x9 => ?_
    refine EW.region gs_nil ?_
    simp
    refine n9 _ ?_; clear n9 x9
    refine EW.cond (t := _) (by rfl) (fun hc37 => ?_) (fun hc37 => ?_)
    · have hn : 0 ≤ brkT o.limits[m] m o.bins[k] := by simpa using hc37
      refine EW.hide fun Ψ10 n10 => ?_
      refine EW.region gs_nil ?_
      simp [hk4, hx, e5, e6, show k * 2 < 8 by omega]
      refine n10 _ _ ?_; clear n10
      refine n6 _ ?_; clear n6 x6
      refine EW.hide fun Ψ11 n11 => ?_
      refine EW.region gs_nil ?_
      simp
      refine n11 _ _ ?_; clear n11
      have e3 : IntKind.i64.wrap ((k : Int) + 1) = k + 1 := wr_small (by omega) (by omega)
      refine ⟨(k + 1, if 0 ≤ brkT o.limits[m] m o.bins[k] then wr (s + wr (pa * brkT o.limits[m] m o.bins[k])) else wr (s + wr (pb * brkT o.limits[m] m o.bins[k]))), (St.le_lit rfl (by simp [e3, hn]) (by simp) (by simp) (by simp) (by simp)), ?_, ?_⟩
      · refine ⟨hc16, ?_⟩
        rw [← hw, List.drop_eq_getElem_cons hc16, em]; simp [brkL, e5]
      · simp; omega
    · have hn : ¬ 0 ≤ brkT o.limits[m] m o.bins[k] := by simpa using hc37
      refine EW.hide fun Ψ12 n12 => ?_
      refine EW.region gs_nil ?_
      simp [hk4, hx, e5, e6, show k * 2 + 1 < 8 by omega]
      refine n12 _ _ ?_; clear n12
      refine n6 _ ?_; clear n6 x6
      refine EW.hide fun Ψ13 n13 => ?_
      refine EW.region gs_nil ?_
      simp
      refine n13 _ _ ?_; clear n13
      have e3 : IntKind.i64.wrap ((k : Int) + 1) = k + 1 := wr_small (by omega) (by omega)
      refine ⟨(k + 1, if 0 ≤ brkT o.limits[m] m o.bins[k] then wr (s + wr (pa * brkT o.limits[m] m o.bins[k])) else wr (s + wr (pb * brkT o.limits[m] m o.bins[k]))), (St.le_lit rfl (by simp [e3, hn]) (by simp) (by simp) (by simp) (by simp)), ?_, ?_⟩
      · refine ⟨hc16, ?_⟩
        rw [← hw, List.drop_eq_getElem_cons hc16, em]; simp [brkL, e5]
      · simp; omega
  · simp at hc16
    have hv : brkV o x m = decide (0 < s) := by rw [brkV, ← hw, List.drop_of_length_le (by omega)]; rfl
    refine EW.exit ?_
    refine x5 _ _ rfl ?_; clear n5 x5
    refine n2 _ ?_; clear n2 x2
    refine EW.seq fun Ψ14 n14 x14 => ?_
    refine EW.region gs_nil ?_
    simp
    refine n14 _ ?_; clear n14 x14
    refine EW.ret ?_
    refine ⟨_, _, _, rfl, ?_, ?_, ?_, ?_, ?_⟩ <;> simp [hv]

end Go.Ev
end

section
set_option linter.all false
open Go Go.Ev Go.Proofs
namespace Go.Ev
set_option linter.unusedSimpArgs false
set_option linter.unusedVariables false


def brokR (o : MOrd) (x : List (Int × Int)) : Int := match brokV o x with | some _ => 4 | none => 0
def brokA (o : MOrd) (x : List (Int × Int)) : Int := match brokV o x with | some k => k | none => 0
def brokI (o : MOrd) (x : List (Int × Int)) : Bool := (brokV o x).isSome

theorem broken_ok (o : MOrd) (pr : Int) (x : List (Int × Int)) (hl : o.bins.length ≤ 4) (hx : x.length = 4) (hll : o.limits.length < 1000000) (hg : ∀ b ∈ o.bins, b.grams.length = o.limits.length) : ACalls Tryz.prog 83 [.agg [.sl false false .U .no o.limits.length (eInts o.limits), .s (.int .i64 o.least), .s (.int .i64 o.most), .sl false false .U .no o.bins.length (eBins o.bins), .s (.int .i64 pr)], .agg (bxA x)] [] (.ret (.tup [.agg [.s (.int .i64 (brokR o x)), .s (.int .i64 (brokA o x)), .s (.int .i64 0)], .s (.bool (brokI o x))]) [] []) := by
  refine acalls_of_ew Tryz.func83 rfl rfl (by simp [Tryz.f83]) (rs := [.cell 4 52, .tmp 5]) rfl ?_
  refine EW.seq fun Ψ0 n0 x0 => ?_
  refine EW.region gs_nil ?_
  simp
  refine n0 _ ?_; clear n0 x0
  refine EW.seq fun Ψ1 n1 x1 => ?_
  refine EW.seq fun Ψ2 n2 x2 => ?_
  refine EW.region gs_nil ?_
  simp
  refine n2 _ ?_; clear n2 x2
  refine EW.block ?_
  refine EW.loopA (brokS o pr x) (fun k => k ≤ o.limits.length ∧ brokL o x (o.limits.length - k) k = brokV o x) (fun k => o.limits.length - k) 0 (St.le_lit rfl (by simp) (by simp) (by simp) (by simp) (by simp)) ?_ fun p hk => ?_
  · simp [brokV]
  rename Nat => k
  obtain ⟨hk, hw⟩ := hk
  refine EW.seq fun Ψ3 n3 x3 => ?_
  refine EW.region gs_nil ?_
  simp
  refine n3 _ ?_; clear n3 x3
  refine EW.seq fun Ψ4 n4 x4 => ?_
  refine EW.cond (t := _) (by rfl) (fun hc12 => ?_) (fun hc12 => ?_)
  · simp at hc12
    have hn : o.limits.length - k = (o.limits.length - (k + 1)) + 1 := by omega
    refine EW.skip ?_
    refine n4 _ ?_; clear n4 x4
    refine EW.seq fun Ψ5 n5 x5 => ?_
    refine EW.block ?_
    refine EW.seq fun Ψ6 n6 x6 => ?_
    refine EW.region gs_nil ?_
    simp
    refine n6 _ ?_; clear n6 x6
    refine EW.seq fun Ψ7 n7 x7 => ?_
    cases q1 : brkV o x k
    · skip
      refine EW.region (gs_cons (breaks_ok o pr x k hl hx hc12 hll hg) gs_nil) ?_
      simp [hx, q1]
      refine n7 _ ?_; clear n7 x7
      refine EW.cond (t := _) (by rfl) (fun hc17 => ?_) (fun hc17 => ?_)
      · simp at hc17
      · simp at hc17
        refine EW.skip ?_
        refine n5 _ ?_; clear n5 x5
        refine EW.hide fun Ψ8 n8 => ?_
        refine EW.region gs_nil ?_
        simp
        refine n8 _ _ ?_; clear n8
        have e3 : IntKind.i64.wrap ((k : Int) + 1) = k + 1 := wr_small (by omega) (by omega)
        refine ⟨k + 1, (St.le_lit rfl (by simp [e3]) (by simp) (by simp) (by simp) (by simp)), ?_, ?_⟩
        · refine ⟨hc12, ?_⟩
          rw [← hw, hn]; simp [brokL, q1]
        · omega
    · skip
      refine EW.region (gs_cons (breaks_ok o pr x k hl hx hc12 hll hg) gs_nil) ?_
      simp [hx, q1]
      refine n7 _ ?_; clear n7 x7
      refine EW.cond (t := _) (by rfl) (fun hc17 => ?_) (fun hc17 => ?_)
      · simp at hc17
        have hb : brokV o x = some k := by rw [← hw, hn]; simp [brokL, q1]
        have hv : brokR o x = 4 ∧ brokA o x = k ∧ brokI o x = true := by simp [brokR, brokA, brokI, hb]
        refine EW.seq fun Ψ9 n9 x9 => ?_
        refine EW.region gs_nil ?_
        simp
        refine n9 _ ?_; clear n9 x9
        refine EW.ret ?_
        refine x5 _ _ rfl ?_; clear n5 x5
        refine x1 _ _ rfl ?_; clear n1 x1
        refine ⟨_, _, _, rfl, ?_, ?_, ?_, ?_, ?_⟩ <;> simp [hv]
      · simp at hc17
  · simp at hc12
    have hb : brokV o x = none := by rw [← hw, show o.limits.length - k = 0 by omega]; rfl
    have hv : brokR o x = 0 ∧ brokA o x = 0 ∧ brokI o x = false := by simp [brokR, brokA, brokI, hb]
    refine EW.exit ?_
    refine x4 _ _ rfl ?_; clear n4 x4
    refine n1 _ ?_; clear n1 x1
    refine EW.seq fun Ψ10 n10 x10 => ?_
    refine EW.region gs_nil ?_
    simp
    refine n10 _ ?_; clear n10 x10
    refine EW.ret ?_
    refine ⟨_, _, _, rfl, ?_, ?_, ?_, ?_, ?_⟩ <;> simp [hv]

theorem cut_ok (x : List (Int × Int)) (k : Nat) (a : Int) (hx : x.length = 4) (hk : (k : Int) < 4) : ACalls Tryz.prog 85 [.agg (bxA x), .s (.int .i64 k), .s (.int .i64 a)] [] (.ret (.tup [.agg (bxA (setHi x k a)), .agg (bxA (setLo x k (wr (a + 1))))]) [] []) := by
  refine acalls_of_ew Tryz.func85 rfl rfl (by simp [Tryz.f85]) (rs := [.cell 6 123, .cell 7 123]) rfl ?_
  refine EW.seq fun Ψ0 n0 x0 => ?_
  refine EW.region gs_nil ?_
  simp
  refine n0 _ ?_; clear n0 x0
  refine EW.seq fun Ψ1 n1 x1 => ?_
  refine EW.region gs_nil ?_
  simp [hx]
  refine n1 _ ?_; clear n1 x1
  refine EW.seq fun Ψ2 n2 x2 => ?_
  refine EW.region gs_nil ?_
  simp [hk, hx, show k * 2 + 1 + 1 ≤ 8 by omega, show k * 2 + 1 ≤ 8 by omega, bx_putHi x k _ (by omega), bx_putLo x k _ (by omega)]
  refine n2 _ ?_; clear n2 x2
  refine EW.seq fun Ψ3 n3 x3 => ?_
  refine EW.drawn [(1, 2)] mixed gs_nil (by kernel_rfl) ?_
  simp [hx]
  refine n3 _ ?_; clear n3 x3
  refine EW.ret ?_
  refine ⟨_, _, _, rfl, ?_, ?_, ?_, ?_, ?_⟩ <;> simp [hx]

end Go.Ev
end

section
set_option linter.all false
open Go Go.Ev Go.Proofs
namespace Go.Ev
set_option linter.unusedSimpArgs false
set_option linter.unusedVariables false

/-! ### The plain proof of a box -/
def oneB (x : List (Int × Int)) : List (Int × Int) := x.map fun p => (p.1, p.1)
def oneF : List (Int × Int) → Nat → List (Int × Int)
  | [], _ => []
  | p :: r, 0 => p :: r
  | p :: r, k + 1 => (p.1, p.1) :: oneF r k
@[simp] theorem oneF_len : ∀ (x : List (Int × Int)) (k : Nat), (oneF x k).length = x.length
  | [], _ => rfl
  | p :: r, 0 => rfl
  | p :: r, k + 1 => by simp [oneF, oneF_len r k]
theorem oneF_0 : ∀ (x : List (Int × Int)), oneF x 0 = x
  | [] => rfl
  | p :: r => rfl
theorem oneF_get : ∀ (x : List (Int × Int)) (k : Nat), (oneF x k)[k]? = x[k]?
  | [], _ => rfl
  | p :: r, 0 => rfl
  | p :: r, k + 1 => by simpa [oneF] using oneF_get r k
theorem oneF_succ : ∀ (x : List (Int × Int)) (k : Nat) (p : Int × Int), x[k]? = some p → setHi (oneF x k) k p.1 = oneF x (k + 1)
  | [], _, _, h => by simp at h
  | q :: r, 0, p, h => by
    simp at h; subst h
    simp [oneF, setHi, oneF_0]
  | q :: r, k + 1, p, h => by
    simp only [oneF, setHi]
    rw [oneF_succ r k p (by simpa using h)]
theorem oneF_all : ∀ (x : List (Int × Int)) (k : Nat), x.length ≤ k → oneF x k = oneB x
  | [], _, _ => rfl
  | p :: r, k + 1, h => by simp only [oneF, oneB, List.map_cons]; rw [oneF_all r k (by simpa using h)]; rfl
@[simp] theorem oneB_len (x : List (Int × Int)) : (oneB x).length = x.length := by simp [oneB]
theorem oneB_get (x : List (Int × Int)) (k : Nat) : (oneB x)[k]? = (x[k]?).map fun p => (p.1, p.1) := by simp [oneB]
def firstD : List (Int × Int) → Nat
  | [] => 0
  | p :: r => if p.1 = p.2 then firstD r + 1 else 0
theorem firstD_lt : ∀ (x : List (Int × Int)), x ≠ oneB x → firstD x < x.length ∧ ∃ p, x[firstD x]? = some p ∧ p.1 ≠ p.2
  | [], h => absurd rfl h
  | p :: r, h => by
    simp only [firstD]
    split
    · rename_i e
      have hr : r ≠ oneB r := fun e2 => h (by
        simp only [oneB, List.map_cons]
        have : p = (p.1, p.1) := by cases p; simp at e ⊢; exact e.symm
        rw [← this]
        exact congrArg _ e2)
      obtain ⟨h1, q, h2, h3⟩ := firstD_lt r hr
      exact ⟨by simp; omega, q, by simpa using h2, h3⟩
    · rename_i e
      exact ⟨by simp, p, by simp, e⟩
theorem firstD_before : ∀ (x : List (Int × Int)) (k : Nat) (p : Int × Int), k < firstD x → x[k]? = some p → p.1 = p.2
  | [], k, p, h, hp => by simp [firstD] at h
  | q :: r, k, p, h, hp => by
    simp only [firstD] at h
    split at h
    · rename_i e
      cases k with
      | zero => simp at hp; subst hp; exact e
      | succ k => exact firstD_before r k p (by omega) (by simpa using hp)
    · omega
def midB (x : List (Int × Int)) : Int := wr ((wr ((x[firstD x]?.getD (0, 0)).1 + (x[firstD x]?.getD (0, 0)).2)).tdiv 2)
def plainL (o : MOrd) (pr : Int) : Nat → List (Int × Int) → Option (List MBd)
  | 0, _ => none
  | n + 1, x =>
    if lightB o x = true then some [⟨2, 0, 0⟩] else if heavyB o x = true then some [⟨3, 0, 0⟩] else if brokI o x = true then some [⟨4, brokA o x, 0⟩] else if dearB o pr x = true then some [⟨5, 0, 0⟩]
    else if x = oneB x then none else
      match plainL o pr n (setHi x (firstD x) (midB x)), plainL o pr n (setLo x (firstD x) (wr (midB x + 1))) with
      | some a, some b => some (⟨1, firstD x, midB x⟩ :: (a ++ b))
      | _, _ => none
def foundV : Value := .iface 117 (.agg #[])
def plainOut (o : MOrd) (pr : Int) (n : Nat) (x : List (Int × Int)) : Out :=
  match plainL o pr n x with
  | some l => .ret (.sl true true .U .no l.length (eBds l)) [] []
  | none => .pan foundV
/-- A box of numbers from 0 up to 1000, the least first. -/
def okBx (x : List (Int × Int)) : Prop := ∀ p ∈ x, 0 ≤ p.1 ∧ p.1 ≤ p.2 ∧ p.2 ≤ 1000
def sizeBx : List (Int × Int) → Nat
  | [] => 0
  | p :: r => (p.2 - p.1).toNat + sizeBx r
theorem setHi_ok : ∀ (x : List (Int × Int)) (k : Nat) (p : Int × Int) (v : Int), okBx x → x[k]? = some p → p.1 ≤ v → v < p.2 → okBx (setHi x k v) ∧ sizeBx (setHi x k v) < sizeBx x
  | [], _, _, _, _, h, _, _ => by simp at h
  | q :: r, 0, p, v, hx, h, h1, h2 => by
    simp at h; subst h
    have hq := hx q (by simp)
    refine ⟨fun y hy => ?_, by simp only [setHi, sizeBx]; omega⟩
    simp only [setHi] at hy
    rcases List.mem_cons.1 hy with rfl | hy
    · exact ⟨hq.1, h1, by simp only; omega⟩
    · exact hx y (by simp [hy])
  | q :: r, k + 1, p, v, hx, h, h1, h2 => by
    obtain ⟨i1, i2⟩ := setHi_ok r k p v (fun y hy => hx y (by simp [hy])) (by simpa using h) h1 h2
    refine ⟨fun y hy => ?_, by simp only [setHi, sizeBx]; omega⟩
    simp only [setHi] at hy
    rcases List.mem_cons.1 hy with rfl | hy
    · exact hx y (by simp)
    · exact i1 y hy
theorem setLo_ok : ∀ (x : List (Int × Int)) (k : Nat) (p : Int × Int) (v : Int), okBx x → x[k]? = some p → p.1 < v → v ≤ p.2 → okBx (setLo x k v) ∧ sizeBx (setLo x k v) < sizeBx x
  | [], _, _, _, _, h, _, _ => by simp at h
  | q :: r, 0, p, v, hx, h, h1, h2 => by
    simp at h; subst h
    have hq := hx q (by simp)
    refine ⟨fun y hy => ?_, by simp only [setLo, sizeBx]; omega⟩
    simp only [setLo] at hy
    rcases List.mem_cons.1 hy with rfl | hy
    · exact ⟨by simp only; omega, h2, hq.2.2⟩
    · exact hx y (by simp [hy])
  | q :: r, k + 1, p, v, hx, h, h1, h2 => by
    obtain ⟨i1, i2⟩ := setLo_ok r k p v (fun y hy => hx y (by simp [hy])) (by simpa using h) h1 h2
    refine ⟨fun y hy => ?_, by simp only [setLo, sizeBx]; omega⟩
    simp only [setLo] at hy
    rcases List.mem_cons.1 hy with rfl | hy
    · exact hx y (by simp)
    · exact i1 y hy
theorem okBx_get {x : List (Int × Int)} (h : okBx x) {k : Nat} {p : Int × Int} (hp : x[k]? = some p) : 0 ≤ p.1 ∧ p.1 ≤ p.2 ∧ p.2 ≤ 1000 := h p (List.mem_of_getElem? hp)
theorem midB_eq {x : List (Int × Int)} (h : okBx x) {p : Int × Int} (hp : x[firstD x]? = some p) : midB x = (p.1 + p.2) / 2 := by
  have := okBx_get h hp
  simp only [midB, hp, Option.getD_some]
  rw [wr_small (n := p.1 + p.2) (by omega) (by omega), Int.tdiv_eq_ediv_of_nonneg (by omega), wr_small (by omega) (by omega)]
/-- Both halves are smaller. -/
theorem halves {x : List (Int × Int)} (h : okBx x) (hne : x ≠ oneB x) : (okBx (setHi x (firstD x) (midB x)) ∧ sizeBx (setHi x (firstD x) (midB x)) < sizeBx x) ∧ (okBx (setLo x (firstD x) (wr (midB x + 1))) ∧ sizeBx (setLo x (firstD x) (wr (midB x + 1))) < sizeBx x) := by
  obtain ⟨_, p, hp, hd⟩ := firstD_lt x hne
  have h2 := okBx_get h hp
  have hm := midB_eq h hp
  have hw : wr (midB x + 1) = midB x + 1 := wr_small (by omega) (by omega)
  rw [hw]
  exact ⟨setHi_ok x _ p _ h hp (by omega) (by omega), setLo_ok x _ p _ h hp (by omega) (by omega)⟩
theorem plainL_len (o : MOrd) (pr : Int) : ∀ (n : Nat) (x : List (Int × Int)) (l : List MBd), plainL o pr n x = some l → l.length < 2 ^ (n + 1)
  | 0, x, l, h => by cases h
  | n + 1, x, l, h => by
    have hp : 2 ^ (n + 1 + 1) = 2 ^ (n + 1) + 2 ^ (n + 1) := by rw [Nat.pow_succ]; omega
    have h1 : 1 ≤ 2 ^ n := Nat.one_le_two_pow
    have h2 : 2 ^ (n + 1) = 2 ^ n + 2 ^ n := by rw [Nat.pow_succ]; omega
    simp only [plainL] at h
    split at h
    · cases h; simp
    split at h
    · cases h; simp
    split at h
    · cases h; simp
    split at h
    · cases h; simp
    split at h
    · cases h
    split at h
    · rename_i a b ha hb
      cases h
      have := plainL_len o pr n _ a ha
      have := plainL_len o pr n _ b hb
      simp; omega
    · cases h
end Go.Ev
end

section
set_option linter.all false
open Go Go.Ev Go.Proofs
namespace Go.Ev
set_option linter.unusedSimpArgs false
set_option linter.unusedVariables false


theorem cells131 : Tryz.prog.cellsOf 131 = 1 := by kernel_rfl
theorem info131 : (Tryz.prog.info? 131).isSome = true := by kernel_rfl
theorem zero131 : zeroCells Tryz.prog 131 = some [.s .nilFunc] := by kernel_rfl
attribute [simp] cells131 info131 zero131
theorem opt3 {α : Type} (a b : Option α) : a = none ∨ (∃ x, a = some x ∧ b = none) ∨ ∃ x y, a = some x ∧ b = some y := by
  cases a <;> cases b <;> simp
def plS0 (o : MOrd) (pr : Int) (x : List (Int × Int)) (j : Nat) : St :=
  St.lit 87 [(2, .ptr (.own 2) 0), (3, .ptr (.own 3) 0), (15, .sl true true .U .no 4 [D.s (.func (.func 81) #[] #[]), D.s (.func (.func 82) #[] #[]), D.s (.func (.func 83) #[] #[]), D.s (.func (.func 84) #[] #[])]), (16, .s (.int .i64 4)), (17, .s (.int .i64 j))] [(2, [.sl false false .U .no o.limits.length (eInts o.limits), .s (.int .i64 o.least), .s (.int .i64 o.most), .sl false false .U .no o.bins.length (eBins o.bins), .s (.int .i64 pr)]), (3, bxA x)] [] []
def plS1 (o : MOrd) (pr : Int) (x : List (Int × Int)) (k : Nat) : St :=
  St.lit 87 [(2, .ptr (.own 2) 0), (3, .ptr (.own 3) 0), (9, .ptr (.own 9) 0), (33, .s (.int .i64 k))] [(2, [.sl false false .U .no o.limits.length (eInts o.limits), .s (.int .i64 o.least), .s (.int .i64 o.most), .sl false false .U .no o.bins.length (eBins o.bins), .s (.int .i64 pr)]), (3, bxA x), (9, bxA (oneF x k))] [] []
def plS2 (o : MOrd) (pr : Int) (x : List (Int × Int)) (k : Nat) : St :=
  St.lit 87 [(2, .ptr (.own 2) 0), (3, .ptr (.own 3) 0), (9, .ptr (.own 9) 0), (11, .s (.int .i64 k))] [(2, [.sl false false .U .no o.limits.length (eInts o.limits), .s (.int .i64 o.least), .s (.int .i64 o.most), .sl false false .U .no o.bins.length (eBins o.bins), .s (.int .i64 pr)]), (3, bxA x), (9, bxA (oneB x))] [] []
attribute [simp] plS0 plS1 plS2


theorem bxA_inj : ∀ {x y : List (Int × Int)}, bxA x = bxA y → x = y
  | [], [], _ => rfl
  | [], q :: r, h => by rw [bxA_cons] at h; simp [bxA] at h
  | p :: r, [], h => by rw [bxA_cons] at h; simp [bxA] at h
  | p :: r, q :: s, h => by
    rw [bxA_cons, bxA_cons] at h
    simp only [List.cons.injEq, AV.s.injEq, Value.int.injEq, true_and] at h
    obtain ⟨h1, h2, h3⟩ := h
    rw [bxA_inj h3]
    congr 1
    exact Prod.ext h1 h2
open Classical in
/-- What is known of plain at smaller boxes. -/
noncomputable def gPl (o : MOrd) (pr : Int) (n : Nat) (a : List AV) (e : List (List AV)) : Option Out :=
  if h : ∃ y, (a = [.agg [.sl false false .U .no o.limits.length (eInts o.limits), .s (.int .i64 o.least), .s (.int .i64 o.most), .sl false false .U .no o.bins.length (eBins o.bins), .s (.int .i64 pr)], .agg (bxA y)] ∧ e = []) ∧ okBx y ∧ y.length = 4 ∧ sizeBx y < n then some (plainOut o pr n h.choose) else none
theorem gPl_eq (o : MOrd) (pr : Int) (n : Nat) (y : List (Int × Int)) (h1 : okBx y) (h2 : y.length = 4) (h3 : sizeBx y < n) : gPl o pr n [.agg [.sl false false .U .no o.limits.length (eInts o.limits), .s (.int .i64 o.least), .s (.int .i64 o.most), .sl false false .U .no o.bins.length (eBins o.bins), .s (.int .i64 pr)], .agg (bxA y)] [] = some (plainOut o pr n y) := by
  have h : ∃ z, ([.agg [.sl false false .U .no o.limits.length (eInts o.limits), .s (.int .i64 o.least), .s (.int .i64 o.most), .sl false false .U .no o.bins.length (eBins o.bins), .s (.int .i64 pr)], AV.agg (bxA y)] = [.agg [.sl false false .U .no o.limits.length (eInts o.limits), .s (.int .i64 o.least), .s (.int .i64 o.most), .sl false false .U .no o.bins.length (eBins o.bins), .s (.int .i64 pr)], .agg (bxA z)] ∧ ([] : List (List AV)) = []) ∧ okBx z ∧ z.length = 4 ∧ sizeBx z < n := ⟨y, ⟨rfl, rfl⟩, h1, h2, h3⟩
  unfold gPl
  rw [dif_pos h]
  have hs := h.choose_spec.1.1
  have : bxA y = bxA h.choose := by simpa using hs
  exact congrArg (fun z => some (plainOut o pr n z)) (bxA_inj this).symm
theorem gPl_sound {o : MOrd} {pr : Int} {n : Nat} (ih : ∀ y, okBx y → y.length = 4 → sizeBx y < n → ACalls Tryz.prog 70 [.agg [.sl false false .U .no o.limits.length (eInts o.limits), .s (.int .i64 o.least), .s (.int .i64 o.most), .sl false false .U .no o.bins.length (eBins o.bins), .s (.int .i64 pr)], .agg (bxA y)] [] (plainOut o pr n y)) : ∀ a e out, gPl o pr n a e = some out → ACalls Tryz.prog 70 a e out := by
  intro a e out h
  unfold gPl at h
  split at h
  · rename_i hh
    cases h
    obtain ⟨⟨e1, e2⟩, h1, h2, h3⟩ := hh.choose_spec
    generalize hh.choose = z at h1 h2 h3 e1 ⊢
    clear hh
    subst e1 e2
    exact ih z h1 h2 h3
  · cases h

theorem brokI_R {o : MOrd} {x : List (Int × Int)} (h : brokI o x = true) : brokR o x = 4 := by
  unfold brokI at h
  unfold brokR
  cases hb : brokV o x with
  | none => rw [hb] at h; cases h
  | some q => rfl

set_option maxHeartbeats 2000000 in
theorem plain_step (o : MOrd) (pr : Int) (n : Nat) (x : List (Int × Int)) (hl : o.bins.length ≤ 4) (hx : x.length = 4) (hll : o.limits.length < 1000000) (hg : ∀ b ∈ o.bins, b.grams.length = o.limits.length) (hxo : okBx x) (hxs : sizeBx x < n + 1) (hn : n ≤ 40)
    (ih : ∀ y, okBx y → y.length = 4 → sizeBx y < n → ACalls Tryz.prog 70 [.agg [.sl false false .U .no o.limits.length (eInts o.limits), .s (.int .i64 o.least), .s (.int .i64 o.most), .sl false false .U .no o.bins.length (eBins o.bins), .s (.int .i64 pr)], .agg (bxA y)] [] (plainOut o pr n y)) : ACalls Tryz.prog 70 [.agg [.sl false false .U .no o.limits.length (eInts o.limits), .s (.int .i64 o.least), .s (.int .i64 o.most), .sl false false .U .no o.bins.length (eBins o.bins), .s (.int .i64 pr)], .agg (bxA x)] [] (plainOut o pr (n + 1) x) := by
  refine acalls_of_ew Tryz.func70 rfl rfl (by simp [Tryz.f70]) (rs := [.tmp 4]) rfl ?_
  refine EW.seq fun Ψ0 n0 x0 => ?_
  refine EW.region gs_nil ?_
  simp
  refine n0 _ ?_; clear n0 x0
  refine EW.seq fun Ψ1 n1 x1 => ?_
  refine EW.seq fun Ψ2 n2 x2 => ?_
  refine EW.region gs_nil ?_
  simp
  refine n2 _ ?_; clear n2 x2
  refine EW.block ?_
  refine EW.loopA (plS0 o pr x) (fun j => j ≤ 4 ∧ (1 ≤ j → lightB o x = false) ∧ (2 ≤ j → heavyB o x = false) ∧ (3 ≤ j → brokI o x = false) ∧ (4 ≤ j → dearB o pr x = false)) (fun j => 4 - j) 0 (St.le_lit rfl (by simp) (by simp) (by simp) (by simp) (by simp)) ?_ fun p hk => ?_
  · simp
  rename Nat => j
  obtain ⟨hj, f1, f2, f3, f4⟩ := hk
  rcases (by omega : j = 0 ∨ j = 1 ∨ j = 2 ∨ j = 3 ∨ j = 4) with rfl | rfl | rfl | rfl | rfl
  · skip
    refine EW.seq fun Ψ3 n3 x3 => ?_
    refine EW.region gs_nil ?_
    simp
    refine n3 _ ?_; clear n3 x3
    refine EW.seq fun Ψ4 n4 x4 => ?_
    refine EW.cond (t := _) (by rfl) (fun hc18 => ?_) (fun hc18 => ?_)
    · skip
      refine EW.skip ?_
      refine n4 _ ?_; clear n4 x4
      refine EW.seq fun Ψ5 n5 x5 => ?_
      refine EW.block ?_
      refine EW.seq fun Ψ6 n6 x6 => ?_
      refine EW.region gs_nil ?_
      simp
      refine n6 _ ?_; clear n6 x6
      refine EW.seq fun Ψ7 n7 x7 => ?_
      refine EW.region (gs_cons (light_ok o pr x hl hx) gs_nil) ?_
      simp [hx, bxA_take x hx]
      refine n7 _ ?_; clear n7 x7
      refine EW.seq fun Ψ8 n8 x8 => ?_
      refine EW.region gs_nil ?_
      simp
      refine n8 _ ?_; clear n8 x8
      refine EW.cond (t := _) (by rfl) (fun hc28 => ?_) (fun hc28 => ?_)
      · skip
        have hv : plainOut o pr (n + 1) x = .ret (.sl true true .U .no 1 (eBds [⟨2, 0, 0⟩])) [] [] := by simp only [plainOut, plainL, hc28, if_true, if_false, Bool.false_eq_true]; rfl
        refine EW.seq fun Ψ9 n9 x9 => ?_
        refine EW.region gs_nil ?_
        simp
        refine n9 _ ?_; clear n9 x9
        refine EW.ret ?_
        refine x5 _ _ rfl ?_; clear n5 x5
        refine x1 _ _ rfl ?_; clear n1 x1
        rw [hv]
        refine ⟨_, _, _, rfl, ?_, ?_, ?_, ?_, ?_⟩ <;> simp
      · skip
        refine EW.skip ?_
        refine n5 _ ?_; clear n5 x5
        refine EW.hide fun Ψ10 n10 => ?_
        refine EW.region gs_nil ?_
        simp
        refine n10 _ _ ?_; clear n10
        have e3 : IntKind.i64.wrap (1 : Int) = 1 := wr_small (by omega) (by omega)
        refine ⟨1, (St.le_lit rfl (by simp [e3]) (by simp) (by simp) (by simp) (by simp)), ?_, ?_⟩
        · simp [hc28]
        · simp
    · simp at hc18
  · skip
    have g1 := f1 (by omega)
    refine EW.seq fun Ψ11 n11 x11 => ?_
    refine EW.region gs_nil ?_
    simp
    refine n11 _ ?_; clear n11 x11
    refine EW.seq fun Ψ12 n12 x12 => ?_
    refine EW.cond (t := _) (by rfl) (fun hc18 => ?_) (fun hc18 => ?_)
    · skip
      refine EW.skip ?_
      refine n12 _ ?_; clear n12 x12
      refine EW.seq fun Ψ13 n13 x13 => ?_
      refine EW.block ?_
      refine EW.seq fun Ψ14 n14 x14 => ?_
      refine EW.region gs_nil ?_
      simp
      refine n14 _ ?_; clear n14 x14
      refine EW.seq fun Ψ15 n15 x15 => ?_
      refine EW.region (gs_cons (heavy_ok o pr x hl hx) gs_nil) ?_
      simp [hx, bxA_take x hx]
      refine n15 _ ?_; clear n15 x15
      refine EW.seq fun Ψ16 n16 x16 => ?_
      refine EW.region gs_nil ?_
      simp
      refine n16 _ ?_; clear n16 x16
      refine EW.cond (t := _) (by rfl) (fun hc28 => ?_) (fun hc28 => ?_)
      · skip
        have hv : plainOut o pr (n + 1) x = .ret (.sl true true .U .no 1 (eBds [⟨3, 0, 0⟩])) [] [] := by simp only [plainOut, plainL, g1, hc28, if_true, if_false, Bool.false_eq_true]; rfl
        refine EW.seq fun Ψ17 n17 x17 => ?_
        refine EW.region gs_nil ?_
        simp
        refine n17 _ ?_; clear n17 x17
        refine EW.ret ?_
        refine x13 _ _ rfl ?_; clear n13 x13
        refine x1 _ _ rfl ?_; clear n1 x1
        rw [hv]
        refine ⟨_, _, _, rfl, ?_, ?_, ?_, ?_, ?_⟩ <;> simp
      · skip
        refine EW.skip ?_
        refine n13 _ ?_; clear n13 x13
        refine EW.hide fun Ψ18 n18 => ?_
        refine EW.region gs_nil ?_
        simp
        refine n18 _ _ ?_; clear n18
        have e3 : IntKind.i64.wrap (2 : Int) = 2 := wr_small (by omega) (by omega)
        refine ⟨2, (St.le_lit rfl (by simp [e3]) (by simp) (by simp) (by simp) (by simp)), ?_, ?_⟩
        · simp [hc28, g1]
        · simp
    · simp at hc18
  · skip
    have g1 := f1 (by omega)
    have g2 := f2 (by omega)
    refine EW.seq fun Ψ19 n19 x19 => ?_
    refine EW.region gs_nil ?_
    simp
    refine n19 _ ?_; clear n19 x19
    refine EW.seq fun Ψ20 n20 x20 => ?_
    refine EW.cond (t := _) (by rfl) (fun hc18 => ?_) (fun hc18 => ?_)
    · skip
      refine EW.skip ?_
      refine n20 _ ?_; clear n20 x20
      refine EW.seq fun Ψ21 n21 x21 => ?_
      refine EW.block ?_
      refine EW.seq fun Ψ22 n22 x22 => ?_
      refine EW.region gs_nil ?_
      simp
      refine n22 _ ?_; clear n22 x22
      refine EW.seq fun Ψ23 n23 x23 => ?_
      refine EW.region (gs_cons (broken_ok o pr x hl hx hll hg) gs_nil) ?_
      simp [hx, bxA_take x hx]
      refine n23 _ ?_; clear n23 x23
      refine EW.seq fun Ψ24 n24 x24 => ?_
      refine EW.region gs_nil ?_
      simp
      refine n24 _ ?_; clear n24 x24
      refine EW.cond (t := _) (by rfl) (fun hc28 => ?_) (fun hc28 => ?_)
      · skip
        have hA4 : brokR o x = 4 := brokI_R hc28
        have hv : plainOut o pr (n + 1) x = .ret (.sl true true .U .no 1 (eBds [⟨4, brokA o x, 0⟩])) [] [] := by simp only [plainOut, plainL, g1, g2, hc28, if_true, if_false, Bool.false_eq_true]; rfl
        refine EW.seq fun Ψ25 n25 x25 => ?_
        refine EW.region gs_nil ?_
        simp [hA4]
        refine n25 _ ?_; clear n25 x25
        refine EW.ret ?_
        refine x21 _ _ rfl ?_; clear n21 x21
        refine x1 _ _ rfl ?_; clear n1 x1
        rw [hv]
        refine ⟨_, _, _, rfl, ?_, ?_, ?_, ?_, ?_⟩ <;> simp
      · skip
        refine EW.skip ?_
        refine n21 _ ?_; clear n21 x21
        refine EW.hide fun Ψ26 n26 => ?_
        refine EW.region gs_nil ?_
        simp
        refine n26 _ _ ?_; clear n26
        have e3 : IntKind.i64.wrap (3 : Int) = 3 := wr_small (by omega) (by omega)
        refine ⟨3, (St.le_lit rfl (by simp [e3]) (by simp) (by simp) (by simp) (by simp)), ?_, ?_⟩
        · simp [hc28, g1, g2]
        · simp
    · simp at hc18
  · skip
    have g1 := f1 (by omega)
    have g2 := f2 (by omega)
    have g3 := f3 (by omega)
    refine EW.seq fun Ψ27 n27 x27 => ?_
    refine EW.region gs_nil ?_
    simp
    refine n27 _ ?_; clear n27 x27
    refine EW.seq fun Ψ28 n28 x28 => ?_
    refine EW.cond (t := _) (by rfl) (fun hc18 => ?_) (fun hc18 => ?_)
    · skip
      refine EW.skip ?_
      refine n28 _ ?_; clear n28 x28
      refine EW.seq fun Ψ29 n29 x29 => ?_
      refine EW.block ?_
      refine EW.seq fun Ψ30 n30 x30 => ?_
      refine EW.region gs_nil ?_
      simp
      refine n30 _ ?_; clear n30 x30
      refine EW.seq fun Ψ31 n31 x31 => ?_
      refine EW.region (gs_cons (dear_ok o pr x hl hx) gs_nil) ?_
      simp [hx, bxA_take x hx]
      refine n31 _ ?_; clear n31 x31
      refine EW.seq fun Ψ32 n32 x32 => ?_
      refine EW.region gs_nil ?_
      simp
      refine n32 _ ?_; clear n32 x32
      refine EW.cond (t := _) (by rfl) (fun hc28 => ?_) (fun hc28 => ?_)
      · skip
        have hv : plainOut o pr (n + 1) x = .ret (.sl true true .U .no 1 (eBds [⟨5, 0, 0⟩])) [] [] := by simp only [plainOut, plainL, g1, g2, g3, hc28, if_true, if_false, Bool.false_eq_true]; rfl
        refine EW.seq fun Ψ33 n33 x33 => ?_
        refine EW.region gs_nil ?_
        simp
        refine n33 _ ?_; clear n33 x33
        refine EW.ret ?_
        refine x29 _ _ rfl ?_; clear n29 x29
        refine x1 _ _ rfl ?_; clear n1 x1
        rw [hv]
        refine ⟨_, _, _, rfl, ?_, ?_, ?_, ?_, ?_⟩ <;> simp
      · skip
        refine EW.skip ?_
        refine n29 _ ?_; clear n29 x29
        refine EW.hide fun Ψ34 n34 => ?_
        refine EW.region gs_nil ?_
        simp
        refine n34 _ _ ?_; clear n34
        have e3 : IntKind.i64.wrap (4 : Int) = 4 := wr_small (by omega) (by omega)
        refine ⟨4, (St.le_lit rfl (by simp [e3]) (by simp) (by simp) (by simp) (by simp)), ?_, ?_⟩
        · simp [hc28, g1, g2, g3]
        · simp
    · simp at hc18
  · skip
    have g1 := f1 (by omega)
    have g2 := f2 (by omega)
    have g3 := f3 (by omega)
    have g4 := f4 (by omega)
    refine EW.seq fun Ψ35 n35 x35 => ?_
    refine EW.region gs_nil ?_
    simp
    refine n35 _ ?_; clear n35 x35
    refine EW.seq fun Ψ36 n36 x36 => ?_
    refine EW.cond (t := _) (by rfl) (fun hc18 => ?_) (fun hc18 => ?_)
    · simp at hc18
    · skip
      refine EW.exit ?_
      refine x36 _ _ rfl ?_; clear n36 x36
      refine n1 _ ?_; clear n1 x1
      refine EW.seq fun Ψ37 n37 x37 => ?_
      refine EW.region gs_nil ?_
      simp [hx, bxA_take x hx]
      refine n37 _ ?_; clear n37 x37
      refine EW.seq fun Ψ38 n38 x38 => ?_
      refine EW.seq fun Ψ39 n39 x39 => ?_
      refine EW.region gs_nil ?_
      simp
      refine n39 _ ?_; clear n39 x39
      refine EW.block ?_
      refine EW.loopA (plS1 o pr x) (fun k => k ≤ 4) (fun k => 4 - k) 0 (St.le_lit rfl (by simp) (by simp [oneF_0]) (by simp) (by simp) (by simp)) ?_ fun p hk => ?_
      · simp
      rename Nat => k
      refine EW.seq fun Ψ40 n40 x40 => ?_
      refine EW.region gs_nil ?_
      simp
      refine n40 _ ?_; clear n40 x40
      refine EW.seq fun Ψ41 n41 x41 => ?_
      refine EW.cond (t := _) (by rfl) (fun hc34 => ?_) (fun hc34 => ?_)
      · have hk4 : (k : Int) < 4 := by simpa using hc34
        have e5 : ∃ q, x[k]? = some q := ⟨_, List.getElem?_eq_getElem (by omega)⟩
        obtain ⟨⟨pa, pb⟩, e5⟩ := e5
        have e6 : ∀ h, x[k]'h = (pa, pb) := fun h => by rw [List.getElem?_eq_getElem h] at e5; exact Option.some.inj e5
        have e7 : (oneF x k)[k]? = some (pa, pb) := by rw [oneF_get]; exact e5
        have e9 := oneF_succ x k (pa, pb) e5
        simp only at e9
        have e10 : ∀ h, (oneF x k)[k]'h = (pa, pb) := fun h => by rw [List.getElem?_eq_getElem h] at e7; exact Option.some.inj e7
        refine EW.skip ?_
        refine n41 _ ?_; clear n41 x41
        refine EW.seq fun Ψ42 n42 x42 => ?_
        refine EW.block ?_
        refine EW.seq fun Ψ43 n43 x43 => ?_
        refine EW.region gs_nil ?_
        simp
        refine n43 _ ?_; clear n43 x43
        refine EW.hide fun Ψ44 n44 => ?_
        refine EW.region gs_nil ?_
        simp [hk4, hx, e7, e10, show k * 2 < 8 by omega, show k * 2 + 1 + 1 ≤ 8 by omega, bx_putHi (oneF x k) k _ (by simp; omega)]
        refine n44 _ _ ?_; clear n44
        refine n42 _ ?_; clear n42 x42
        refine EW.hide fun Ψ45 n45 => ?_
        refine EW.region gs_nil ?_
        simp
        refine n45 _ _ ?_; clear n45
        have e3 : IntKind.i64.wrap ((k : Int) + 1) = k + 1 := wr_small (by omega) (by omega)
        refine ⟨k + 1, (St.le_lit rfl (by simp [e3, e9, e10]) (by simp [e3, e9, e10]) (by simp) (by simp) (by simp)), ?_, ?_⟩
        · show k + 1 ≤ 4; omega
        · show 4 - (k + 1) < 4 - k; omega
      · have hk4 : ¬ (k : Int) < 4 := by simpa using hc34
        have h9 : oneF x k = oneB x := oneF_all x k (by omega)
        refine EW.exit ?_
        refine x41 _ _ rfl ?_; clear n41 x41
        refine n38 _ ?_; clear n38 x38
        refine EW.seq fun Ψ46 n46 x46 => ?_
        refine EW.seq fun Ψ47 n47 x47 => ?_
        refine EW.region gs_nil ?_
        simp [h9, hx, bxA_take x hx, bxA_take (oneB x) (by simp [hx]), eq_box _ _ x (oneB x) hx (by simp [hx])]
        refine n47 _ ?_; clear n47 x47
        refine EW.cond (t := _) (by rfl) (fun hc46 => ?_) (fun hc46 => ?_)
        · have hne : x = oneB x := by simpa using hc46
          have hv : plainL o pr (n + 1) x = none := by simp only [plainL, g1, g2, g3, g4, if_false, Bool.false_eq_true]; exact if_pos hne
          refine EW.region gs_nil ?_
          simp
          refine x46 _ _ rfl ?_; clear n46 x46
          show plainOut o pr (n + 1) x = _
          simp only [plainOut, hv]
          rfl
        · have hne : ¬ x = oneB x := by simpa using hc46
          have h1 := halves hxo hne
          obtain ⟨hlt, qq, hq1, hq2⟩ := firstD_lt x hne
          refine EW.skip ?_
          refine n46 _ ?_; clear n46 x46
          refine EW.seq fun Ψ48 n48 x48 => ?_
          refine EW.region gs_nil ?_
          simp
          refine n48 _ ?_; clear n48 x48
          refine EW.seq fun Ψ49 n49 x49 => ?_
          refine EW.block ?_
          refine EW.loopA (plS2 o pr x) (fun k => k ≤ firstD x) (fun k => firstD x - k) 0 (St.le_lit rfl (by simp) (by simp [h9]) (by simp) (by simp) (by simp)) ?_ fun p hk => ?_
          · simp
          rename Nat => k
          have hk : k ≤ firstD x := hk
          have e5 : ∃ q, x[k]? = some q := ⟨_, List.getElem?_eq_getElem (by omega)⟩
          obtain ⟨⟨pa, pb⟩, e5⟩ := e5
          have e6 : ∀ h, x[k]'h = (pa, pb) := fun h => by rw [List.getElem?_eq_getElem h] at e5; exact Option.some.inj e5
          have e8 : (oneB x)[k]? = some (pa, pa) := by rw [oneB_get, e5]; rfl
          have hk4 : (k : Int) < 4 := by omega
          refine EW.seq fun Ψ50 n50 x50 => ?_
          refine EW.seq fun Ψ51 n51 x51 => ?_
          refine EW.drawn [] mixed gs_nil (by kernel_rfl) ?_
          simp [hk4, hx, e5, e6, e8, show k * 2 + 2 ≤ 8 by omega, bxA_atm x k _ e5, bxA_atm (oneB x) k _ e8]
          refine n51 _ ?_; clear n51 x51
          refine EW.cond (t := _) (by rfl) (fun hc55 => ?_) (fun hc55 => ?_)
          · have hpp : pb = pa := by simpa using hc55
            have hk2 : k < firstD x := by
              rcases Nat.lt_or_ge k (firstD x) with h | h
              · exact h
              · have : k = firstD x := by omega
                subst this
                rw [e5] at hq1; cases hq1; exact absurd hpp.symm hq2
            refine EW.skip ?_
            refine n50 _ ?_; clear n50 x50
            refine EW.block ?_
            refine EW.hide fun Ψ52 n52 => ?_
            refine EW.region gs_nil ?_
            simp
            refine n52 _ _ ?_; clear n52
            have e3 : IntKind.i64.wrap ((k : Int) + 1) = k + 1 := wr_small (by omega) (by omega)
            refine ⟨k + 1, (St.le_lit rfl (by simp [e3]) (by simp [e3]) (by simp) (by simp) (by simp)), ?_, ?_⟩
            · exact hk2
            · show firstD x - (k + 1) < firstD x - k; omega
          · have hpp : ¬ pb = pa := by simpa using hc55
            have hk2 : k = firstD x := by
              rcases Nat.lt_or_ge k (firstD x) with h | h
              · exact absurd (firstD_before x k (pa, pb) h e5).symm hpp
              · omega
            subst hk2
            have hmid : IntKind.i64.wrap ((IntKind.i64.wrap (pa + pb)).tdiv 2) = midB x := by simp [midB, e5]
            refine EW.exit ?_
            refine x50 _ _ rfl ?_; clear n50 x50
            refine n49 _ ?_; clear n49 x49
            refine EW.seq fun Ψ53 n53 x53 => ?_
            refine EW.drawn [] mixed gs_nil (by kernel_rfl) ?_
            simp [hk4, hx, e5, e6, show firstD x * 2 < 8 by omega, show firstD x * 2 + 1 < 8 by omega, q_quo, hmid]
            refine n53 _ ?_; clear n53 x53
            refine EW.seq fun Ψ54 n54 x54 => ?_
            refine EW.region (gs_cons (cut_ok x (firstD x) (midB x) hx hk4) gs_nil) ?_
            simp [hx, bxA_take x hx]
            refine n54 _ ?_; clear n54 x54
            refine EW.seq fun Ψ55 n55 x55 => ?_
            rcases opt3 (plainL o pr n (setHi x (firstD x) (midB x))) (plainL o pr n (setLo x (firstD x) (wr (midB x + 1)))) with hA | ⟨la, hA, hB⟩ | ⟨la, lb, hA, hB⟩
            · skip
              have hv : plainL o pr (n + 1) x = none := by
                simp only [plainL, g1, g2, g3, g4, if_false, Bool.false_eq_true, if_neg hne, hA]
              refine EW.drawnP 6 [false, false, false, false, false, false, false, true, false, false, true, true, true] [(6, 8), (7, 8), (6, 9), (7, 9)] mixed (gAlt_sound (gPl_sound ih) gs_nil) (by kernel_rfl) (by kernel_rfl) ?_
              simp [gPl_eq o pr n (setHi x (firstD x) (midB x)) h1.1.1 (by simp [hx]) (by omega), gPl_eq o pr n (setLo x (firstD x) (wr (midB x + 1))) h1.2.1 (by simp [hx]) (by omega), plainOut, hA, hx, bxA_take _ (show (setHi x (firstD x) (midB x)).length = 4 by simp [hx]), bxA_take _ (show (setLo x (firstD x) (wr (midB x + 1))).length = 4 by simp [hx])]
              refine x55 _ _ rfl ?_; clear n55 x55
              show plainOut o pr (n + 1) x = _
              simp only [plainOut, hv]
            · skip
              have hv : plainL o pr (n + 1) x = none := by
                simp only [plainL, g1, g2, g3, g4, if_false, Bool.false_eq_true, if_neg hne, hA, hB]
              have hla : la.length < 2 ^ 41 := Nat.lt_of_lt_of_le (plainL_len o pr n _ la hA) (Nat.pow_le_pow_right (by omega) (by omega))
              refine EW.drawnP 10 [false, false, false, false, false, false, false, false, false, false, false, true, true] [(6, 8), (7, 8), (6, 9), (7, 9)] mixed (gAlt_sound (gPl_sound ih) gs_nil) (by kernel_rfl) (by kernel_rfl) ?_
              simp [gPl_eq o pr n (setHi x (firstD x) (midB x)) h1.1.1 (by simp [hx]) (by omega), gPl_eq o pr n (setLo x (firstD x) (wr (midB x + 1))) h1.2.1 (by simp [hx]) (by omega), plainOut, hA, hB, hx, bxA_take _ (show (setHi x (firstD x) (midB x)).length = 4 by simp [hx]), bxA_take _ (show (setLo x (firstD x) (wr (midB x + 1))).length = 4 by simp [hx]), show (1 + la.length) * 24 ≤ 140737488355328 by omega, show la.length * 3 + 1 + 1 + 1 = (1 + la.length) * 3 by omega]
              refine x55 _ _ rfl ?_; clear n55 x55
              show plainOut o pr (n + 1) x = _
              simp only [plainOut, hv]
            · skip
              have hv : plainOut o pr (n + 1) x = .ret (.sl true true .U .no (1 + la.length + lb.length) (eBds (⟨1, firstD x, midB x⟩ :: (la ++ lb)))) [] [] := by
                simp only [plainOut, plainL, g1, g2, g3, g4, if_false, Bool.false_eq_true, if_neg hne, hA, hB]
                congr 2; simp; omega
              have hla : la.length < 2 ^ 41 := Nat.lt_of_lt_of_le (plainL_len o pr n _ la hA) (Nat.pow_le_pow_right (by omega) (by omega))
              have hlb : lb.length < 2 ^ 41 := Nat.lt_of_lt_of_le (plainL_len o pr n _ lb hB) (Nat.pow_le_pow_right (by omega) (by omega))
              refine EW.drawn [(6, 8), (7, 8), (6, 9), (7, 9)] mixed (gAlt_sound (gPl_sound ih) gs_nil) (by kernel_rfl) ?_
              simp [gPl_eq o pr n (setHi x (firstD x) (midB x)) h1.1.1 (by simp [hx]) (by omega), gPl_eq o pr n (setLo x (firstD x) (wr (midB x + 1))) h1.2.1 (by simp [hx]) (by omega), plainOut, hA, hB, hx, bxA_take _ (show (setHi x (firstD x) (midB x)).length = 4 by simp [hx]), bxA_take _ (show (setLo x (firstD x) (wr (midB x + 1))).length = 4 by simp [hx]), show (1 + la.length) * 24 ≤ 140737488355328 by omega, show la.length * 3 + 1 + 1 + 1 = (1 + la.length) * 3 by omega, show (1 + la.length + lb.length) * 24 ≤ 140737488355328 by omega]
              refine n55 _ ?_; clear n55 x55
              refine EW.ret ?_
              rw [hv]
              refine ⟨_, _, _, rfl, ?_, ?_, ?_, ?_, ?_⟩ <;> simp

end Go.Ev
end

section
set_option linter.all false
open Go Go.Ev Go.Proofs
namespace Go.Ev
set_option linter.unusedSimpArgs false
set_option linter.unusedVariables false

theorem ta_nil : pureP Tryz.prog (Instr.typeAssert .nilIface 20 117 true) = some (.tuple #[.agg #[], .bool false]) := by kernel_rfl
theorem ta_found : pureP Tryz.prog (Instr.typeAssert foundV 20 117 true) = some (.tuple #[.agg #[], .bool true]) := by kernel_rfl
theorem take_plain {α : Type} (xs : List α) : xs.toArray.toList = xs := rfl

theorem f90nil (u : FrameMode) (k : Knd) (n : Nat) (cs : List D) (b : Bool) (hu : recV u = .nilIface) {w : World} {rd : Rd} {be : List Nat} {vs : List Value} (hp : Pre w rd be [.ptr (.ext 0) 0, .ptr (.ext 1) 0] [[.sl false false k .no n cs], [.s (.bool b)]] vs) :
    CallsDIn Fence.wide 0 Tryz.prog 69 vs.toArray u w (fun e u' w' => u' = recM u ∧ OutR w rd be (.ret (.tup []) [[.sl false false k .no n cs], [.s (.bool b)]] []) e w') := by
  refine callsDIn_of_wpSIn Tryz.func69 rfl trivial fun c0 cs0 hc => ?_
  have hg := Good.init (nt := 10) hp (by simp)
  subst hc
  refine wpSIn_seq (wpSIn_region ?_)
  refine recS (i := 0) (rest := List.range' 1 7) rfl rfl rfl ?_
  have hg2 := hg.put (d := some 5) (x := .s (recV c0.mode)) (v := recV c0.mode) (by simp [dstOk, St.init]) (by simp [RV])
  rw [hu] at hg2 ⊢
  refine opsS_tail (Γ := gOf []) rfl rfl hg2 ?_
  simp [St.init, qTA, ta_nil, ta_found]
  intro a1 w1 l1 k1 r1 b1 d1
  refine wpSIn_seq (wpSIn_region (opsS_tail (k := 0) (m := 1) (Γ := gOf []) rfl rfl k1 ?_))
  simp
  intro a2 w2 l2 k2 r2 b2 d2
  have hc9 : a2.eval (.tmp 9) = .bool false := by
    have := opd_sound k2.2 (x := .tmp 9) (y := .s (.bool false)) (by simp)
    simpa [RV] using this
  refine wpSIn_cond hc9 ?_
  simp only [Bool.false_eq_true, if_false]
  refine wpSIn_of_wpIn rfl (wpIn_skip ?_)
  obtain ⟨us, q1, q2⟩ := ret_out (P := Tryz.prog) (rs := []) (r := .tup []) (X := [[.sl false false k .no n cs], [.s (.bool b)]]) (O := []) ⟨by simp, by simp, by simp, by simp, by simp⟩ k2 (d := []) (rd := rd) (be := be) (by rw [r2, r1]) (by rw [b2, b1])
  refine ⟨by rw [d2, d1]; rfl, recM c0.mode, rfl, _, ?_, rfl, q2⟩
  simp only [List.mapM_nil, Sem.run_pure, Result.ok.injEq, and_true] at q1
  subst q1
  rw [results_eq]
  simp [Tryz.f69]

theorem f90found (u : FrameMode) (k : Knd) (n : Nat) (cs : List D) (b : Bool) (hu : recV u = foundV) {w : World} {rd : Rd} {be : List Nat} {vs : List Value} (hp : Pre w rd be [.ptr (.ext 0) 0, .ptr (.ext 1) 0] [[.sl false false k .no n cs], [.s (.bool b)]] vs) :
    CallsDIn Fence.wide 0 Tryz.prog 69 vs.toArray u w (fun e u' w' => u' = recM u ∧ OutR w rd be (.ret (.tup []) [[AV.nilsl], [.s (.bool false)]] []) e w') := by
  refine callsDIn_of_wpSIn Tryz.func69 rfl trivial fun c0 cs0 hc => ?_
  have hg := Good.init (nt := 10) hp (by simp)
  subst hc
  refine wpSIn_seq (wpSIn_region ?_)
  refine recS (i := 0) (rest := List.range' 1 7) rfl rfl rfl ?_
  have hg2 := hg.put (d := some 5) (x := .s (recV c0.mode)) (v := recV c0.mode) (by simp [dstOk, St.init]) (by simp [RV])
  rw [hu] at hg2 ⊢
  refine opsS_tail (Γ := gOf []) rfl rfl hg2 ?_
  simp [St.init, qTA, ta_nil, ta_found]
  intro a1 w1 l1 k1 r1 b1 d1
  refine wpSIn_seq (wpSIn_region (opsS_tail (k := 0) (m := 1) (Γ := gOf []) rfl rfl k1 ?_))
  simp
  intro a2 w2 l2 k2 r2 b2 d2
  have hc9 : a2.eval (.tmp 9) = .bool true := by
    have := opd_sound k2.2 (x := .tmp 9) (y := .s (.bool true)) (by simp)
    simpa [RV] using this
  refine wpSIn_cond hc9 ?_
  simp only [if_true]
  refine wpSIn_region (opsS_tail (k := 0) (m := 2) (Γ := gOf []) rfl rfl k2 ?_)
  simp
  intro a3 w3 l3 k3 r3 b3 d3
  obtain ⟨us, q1, q2⟩ := ret_out (P := Tryz.prog) (rs := []) (r := .tup []) (X := [[AV.nilsl], [.s (.bool false)]]) (O := []) ⟨by simp, by simp, by simp, by simp, by simp⟩ k3 (d := []) (rd := rd) (be := be) (by rw [r3, r2, r1]) (by rw [b3, b2, b1])
  refine ⟨by rw [d3, d2, d1]; rfl, recM c0.mode, rfl, _, ?_, rfl, q2⟩
  simp only [List.mapM_nil, Sem.run_pure, Result.ok.injEq, and_true] at q1
  subst q1
  rw [results_eq]
  simp [Tryz.f69]
end Go.Ev
end

section
set_option linter.all false
open Go Go.Ev Go.Proofs
namespace Go.Ev
set_option linter.unusedSimpArgs false
set_option linter.unusedVariables false

/-- plain, at any box that is small enough. -/
theorem plain_ok (o : MOrd) (pr : Int) (hl : o.bins.length ≤ 4) (hll : o.limits.length < 1000000) (hg : ∀ b ∈ o.bins, b.grams.length = o.limits.length) : ∀ (n : Nat) (x : List (Int × Int)), n ≤ 41 → okBx x → x.length = 4 → sizeBx x < n →
    ACalls Tryz.prog 70 [.agg [.sl false false .U .no o.limits.length (eInts o.limits), .s (.int .i64 o.least), .s (.int .i64 o.most), .sl false false .U .no o.bins.length (eBins o.bins), .s (.int .i64 pr)], .agg (bxA x)] [] (plainOut o pr n x)
  | 0, x, _, _, _, h => by omega
  | n + 1, x, hn, hxo, hx, hs => plain_step o pr n x hl hx hll hg hxo hs (by omega) (fun y h1 h2 h3 => plain_ok o pr hl hll hg n y (by omega) h1 h2 h3)

/-- What prove hands back. -/
def proveN (o : MOrd) (pr : Int) : Option (List MBd) := plainL o pr 41 (wholeB o)
def proveR (o : MOrd) (pr : Int) : AV :=
  match proveN o pr with
  | some l => .tup [.sl false false .U .no l.length (eBds l), .s (.bool true)]
  | none => .tup [.sl false false .U .no 0 [], .s (.bool false)]


def p74C (o : MOrd) (pr : Int) : List AV := [.sl false false .U .no o.limits.length (eInts o.limits), .s (.int .i64 o.least), .s (.int .i64 o.most), .sl false false .U .no o.bins.length (eBins o.bins), .s (.int .i64 pr)]
attribute [simp] p74C
def p74S (o : MOrd) (pr : Int) : St :=
  St.lit 10 [(1, .ptr (.ext 0) 0), (2, .ptr (.ext 1) 0), (3, .ptr (.ext 2) 0)] [] [p74C o pr, [.sl false false .Z .no 0 []], [.s (.bool false)]] []
def p74F (o : MOrd) (pr : Int) (f g : Bool) (k : Knd) (n : Nat) (cs : List D) (b : Bool) : St :=
  St.lit 10 [(2, .ptr (.ext 1) 0), (3, .ptr (.ext 2) 0)] [] [p74C o pr, [.sl f g k .no n cs], [.s (.bool b)]] []

theorem fin74 (o : MOrd) (pr : Int) {w w2 w3 : World} {rd rd2 : Rd} {be' : List Nat} {l3 : Lay} {a4 : Act} {d : List Nat} {u : FrameMode} {v2 v3 : Value} {f g : Bool} {k : Knd} {n : Nat} {cs : List D} {b : Bool} {R : AV} {b2 b3 : Nat}
    (hF : Framed w w2 []) (hge : ∀ b ∈ be', w.heap.size ≤ b) (hc : ∀ b o, rd2.c b o → (w.heap.size ≤ b ∧ b < w2.heap.size) ∨ rd.c b o) (hz : ∀ b, rd2.z b → rd.z b)
    (hg : Good w2 w3 l3 (p74F o pr f g k n cs b) a4) (hr : l3.rd = { rd2 with d := d, e := [] }) (hb : l3.be = be') (hdf : a4.defers = mks d ++ [{ target := .fn (.func 69) #[v2, v3], args := #[] }])
    (hv2 : v2 = .pointer (some ⟨b2, 0, none⟩)) (hv3 : v3 = .pointer (some ⟨b3, 0, none⟩)) (hb2 : be'[1]? = some b2) (hb3 : be'[2]? = some b3)
    (hu : (u = .returning ∧ R = .tup [.sl false false .U .no n cs, .s (.bool b)]) ∨ (u = .panicking (pchain foundV) ∧ R = .tup [.sl false false .U .no 0 [], .s (.bool false)])) :
    LeavesInM Fence.wide 0 Tryz.prog Tryz.f50 a4.tmps (OutR w rd [] (.ret R [] [])) a4.defers u w3 := by
  have hny : (p74F o pr f g k n cs b).noY := St.noY_lit (by simp [noYL, AV.noY]) (by simp [noYL, AV.noY]) (by simp [noYL, AV.noY])
  have ed : l3.rd.d = d := by rw [hr]
  have ee : l3.rd.e = [] := by rw [hr]
  have hgt := hg.takes hny ee
  have hD : ∀ D, D ∈ l3.rd.d → w3.heap[D]? = some (.deferred (some [])) := fun D hD => (hg.1.fzs.d D hD).2.2.2
  have hune : u ≠ .run := by rcases hu with ⟨rfl, _⟩ | ⟨rfl, _⟩ <;> simp
  rw [hdf, ← ed]
  refine leaves_takes hune l3.rd.d w3 hD hg.1.fzs.nd ?_
  generalize hwt : takes w3 l3.rd.d = wt at hgt ⊢
  have hrs : ([.ext 1, .ext 2] : List Ref).Nodup := by decide
  have hargs : RVs wt (cx w2 wt { l3 with rd := { l3.rd with d := [] } } (p74F o pr f g k n cs b).tok) [.ptr (.ext 1) 0, .ptr (.ext 2) 0] [v2, v3] := by
    have e1 := hgt.1.ext 1
    have e2 := hgt.1.ext 2
    simp only [hb] at e1 e2
    simp only [RVs, RV]
    exact ⟨v2, _, rfl, ⟨b2, e1.trans hb2, hv2⟩, v3, _, rfl, ⟨b3, e2.trans hb3, hv3⟩, rfl⟩
  have hos : (p74F o pr f g k n cs b).mems [.ext 1, .ext 2] = some [[.sl f g k .no n cs], [.s (.bool b)]] := by simp [p74F]
  obtain ⟨be2, hbe2, hpre2⟩ := call_pre hgt.1 hrs hos hargs (fun cs h => by simp only [List.mem_cons, List.not_mem_nil, or_false] at h; rcases h with rfl | rfl <;> simp)
  have hpre3 : Pre wt (rdAt w2 wt { l3 with rd := { l3.rd with d := [] } } (p74F o pr f g k n cs b).tok) be2 [.ptr (.ext 0) 0, .ptr (.ext 1) 0] [[.sl false false k .no n cs], [.s (.bool b)]] [v2, v3] := by simpa using hpre2
  refine ⟨hune, .inr ⟨(fun h => by cases h), .func 69, #[v2, v3], 69, #[v2, v3], rfl, ?_, fun _ _ => trivial, ?_⟩⟩
  · have hc90 : Callable Tryz.prog 69 := ⟨_, _, Tryz.func69, rfl, rfl⟩
    simp only [invoke, Array.empty_append]
    exact callFunc_run hc90 _ _
  -- behind the call
  have fin : ∀ (x : AV) (bb : Bool), (∀ (e : Ending) (w' : World), OutR wt (rdAt w2 wt { l3 with rd := { l3.rd with d := [] } } (p74F o pr f g k n cs b).tok) be2 (.ret (.tup []) [[x], [.s (.bool bb)]] []) e w' → (∃ kk nn cc, x = .sl false false kk .no nn cc ∧ R = .tup [.sl false false .U .no nn cc, .s (.bool bb)]) →
      (match e, w' with
        | .returned _, w' => LeavesInM Fence.wide 0 Tryz.prog Tryz.f50 a4.tmps (OutR w rd [] (.ret R [] [])) [] .returning w'
        | _, _ => False)) := by
    intro x bb e w' hout hx
    obtain ⟨v, ob, rfl, hR⟩ := hout
    obtain ⟨kk, nn, cc, rfl, hRR⟩ := hx
    obtain ⟨l5, k1, k2, k3, k4⟩ := call_post (d := 0) hgt hrs hos hbe2 hR (fun p hp => by cases hp) (fun cs h => by simp only [List.mem_cons, List.not_mem_nil, or_false] at h; rcases h with rfl | rfl <;> simp) (fun _ _ => rfl)
    have k1' : Good w2 w' l5 (p74F o pr false false kk nn cc bb) a4 ∨ True := .inr trivial
    obtain ⟨l6, m1, m2, m3⟩ := k1.le (show St.le (p74F o pr false false kk nn cc bb) _ from St.le_lit rfl (by simp [p74F]) (by simp) (by simp [p74F]) (by simp) (by simp))
    have hrd6 : l6.rd = { rd2 with d := [], e := [] } := by rw [m2, k3]; show { l3.rd with d := [] } = _; rw [hr]
    have hbe6 : l6.be = be' := by rw [m3, k4]; exact hb
    obtain ⟨us, q1, q2⟩ := ret_out (P := Tryz.prog) (rs := [.cell 2 22, .cell 3 4]) (r := .tup [.sl false false .U .no nn cc, .s (.bool bb)]) (X := [p74C o pr, [.sl false false kk .no nn cc], [.s (.bool bb)]]) (O := []) ⟨by simp [p74F], by simp [p74F], by simp, by simp, by simp⟩ m1 (d := []) (rd := rd2) (be := be') hrd6 hbe6
    have q1 : (List.mapM (resSem a4.tmps) [.cell 2 22, .cell 3 4]).run Tryz.prog w' = .ok us w' := q1
    have q2 : OutR w2 rd2 be' _ _ w' := q2
    have hrs74 : Tryz.f50.results.toList = [.cell 2 22, .cell 3 4] := rfl
    refine ⟨(if h : us.toArray.size = 1 then us.toArray[0] else .tuple us.toArray), ?_, ?_⟩
    · rw [results_eq, Array.mapM_eq_mapM_toList, hrs74]
      simp only [Sem.run_bind, Sem.run_map, q1, Result.andThen_ok, Sem.run_pure]
    · rw [hRR]
      exact q2.back hF hge hc hz (by simp [AV.mapRef, mapRefL])
  rcases hu with ⟨rfl, hR⟩ | ⟨rfl, hR⟩
  · refine (f90nil .returning k n cs b rfl hpre3).mono fun e u' w' ⟨h1, h2⟩ => ?_
    subst h1
    have h2c := h2
    obtain ⟨v, ob, rfl, _⟩ := h2c
    exact fin _ b _ w' h2 ⟨k, n, cs, rfl, hR⟩
  · refine (f90found (.panicking (pchain foundV)) k n cs b rfl hpre3).mono fun e u' w' ⟨h1, h2⟩ => ?_
    subst h1
    have h2c := h2
    obtain ⟨v, ob, rfl, hRt⟩ := h2c
    have h3 : OutR wt (rdAt w2 wt { l3 with rd := { l3.rd with d := [] } } (p74F o pr f g k n cs b).tok) be2 (.ret (.tup []) [[.sl false false .Z .no 0 []], [.s (.bool false)]] []) (.returned v) w' := by
      refine ⟨v, ob, rfl, ⟨hRt.fr, hRt.len, hRt.inj, hRt.lt, hRt.dom, hRt.nodup, hRt.objs, fun i b cs h1 h2 => ?_, hRt.ret⟩⟩
      match i, h2 with
      | 0, h2 =>
        simp at h2; subst h2
        obtain ⟨cv, T, q1, q2, q3⟩ := hRt.exts 0 b _ h1 rfl
        refine ⟨cv, T, q1, q2, fun j x hj => ?_⟩
        match j, hj with
        | 0, hj =>
          simp at hj; subst hj
          obtain ⟨vv, z1, z2, z3⟩ := q3 0 AV.nilsl rfl
          refine ⟨vv, z1, z2, ?_⟩
          simp only [AV.nilsl, RV] at z3 ⊢
          obtain ⟨a, cap, y1, y2, y3, y4⟩ := z3
          refine ⟨a, cap, y1, y2, ?_, trivial⟩
          cases a with
          | none => exact y3
          | some ad => exact absurd rfl (y3.2.1 rfl)
      | 1, h2 => exact hRt.exts 1 b cs h1 h2
    exact fin _ false _ w' h3 ⟨.Z, 0, [], rfl, hR⟩

theorem prove74_ok (o : MOrd) (pr : Int) (hl : o.bins.length ≤ 4) (hll : o.limits.length < 1000000) (hg : ∀ b ∈ o.bins, b.grams.length = o.limits.length) (hxo : okBx (wholeB o)) (hxs : sizeBx (wholeB o) < 41) (hx : (wholeB o).length = 4) :
    ACalls Tryz.prog 50 [.agg [.sl false false .U .no o.limits.length (eInts o.limits), .s (.int .i64 o.least), .s (.int .i64 o.most), .sl false false .U .no o.bins.length (eBins o.bins), .s (.int .i64 pr)]] [] (.ret (proveR o pr) [] []) := by
  have hplain := plain_ok o pr hl hll hg 41 (wholeB o) (Nat.le_refl _) hxo hx hxs
  have hwhole := whole_ok o hl
  unfold ACalls
  rw [if_neg (by decide)]
  refine ⟨⟨_, _, Tryz.func50, rfl, rfl⟩, fun w rd be vs hp => callsIn_wide.1 (callsIn_of_wp_marks (n := 0) Tryz.func50 rfl trivial ?_)⟩
  have hbe0 : be = [] := List.length_eq_zero_iff.1 hp.len
  subst hbe0
  have hg0 := Good.init (nt := 10) hp (by simp)
  refine wpIn_seq (regionE (Γ := gOf []) rfl hg0 ?_)
  simp
  intro a1 w1 l1 k1 r1 b1 d1
  refine wpIn_seq ?_
  refine wpIn_region ?_
  refine opsE_post (Γ := gOf []) (m := 1) (L := [1]) (by simp) rfl k1 ?_
  simp
  intro a2 w2 l2 k2 r2 b2 d2
  have hv4 := opd_sound k2.2 (x := .tmp 4) (y := .fn 69 [.ptr (.own 2) 0, .ptr (.own 3) 0]) (by simp)
  simp only [RV] at hv4
  obtain ⟨vc, hvc, hvs⟩ := hv4
  refine defer_wp rfl rfl rfl rfl rfl hvc ?_
  generalize ha3 : ({ a2 with defers := { target := .fn (.func 69) vc.toArray, args := #[] } :: a2.defers } : Act) = a3
  have hdf3 : a3.defers = [{ target := .fn (.func 69) vc.toArray, args := #[] }] := by rw [← ha3]; simp [d2, d1]
  have ht3 : a3.tmps = a2.tmps := by rw [← ha3]
  have k3 : Good w w2 l2 _ a3 := ⟨k2.1, by rw [ht3]; exact k2.2⟩
  clear k2 ha3
  show (Code.seq _ _).wpIn Fence.wide 0 Tryz.prog _ a3 w2
  -- the rest, as a frame of its own
  have hv1 := (k3.2.2 1 (.ptr (.own 1) 0) (by simp)).2
  have hv2 := (k3.2.2 2 (.ptr (.own 2) 0) (by simp)).2
  have hv3 := (k3.2.2 3 (.ptr (.own 3) 0) (by simp)).2
  have hrs : ([.own 1, .own 2, .own 3] : List Ref).Nodup := by decide
  obtain ⟨be', hbe', hpre⟩ := call_pre (rs := [.own 1, .own 2, .own 3]) (os := [p74C o pr, [AV.nilsl], [.s (.bool false)]]) (args := [.ptr (.own 1) 0, .ptr (.own 2) 0, .ptr (.own 3) 0]) (vs := [a3.tmps.getD 1 undef, a3.tmps.getD 2 undef, a3.tmps.getD 3 undef]) k3.1 hrs (by simp) (by
    simp only [RVs]
    exact ⟨_, _, rfl, hv1, _, _, rfl, hv2, _, _, rfl, hv3, rfl⟩) (fun cs h => by simp only [List.mem_cons, List.not_mem_nil, or_false] at h; rcases h with rfl | rfl | rfl <;> simp [p74C])
  have hpre2 : Pre w2 (rdAt w w2 l2 fun _ => none) be' [.ptr (.ext 0) 0, .ptr (.ext 1) 0, .ptr (.ext 2) 0] [p74C o pr, [.sl false false .Z .no 0 []], [.s (.bool false)]] [a3.tmps.getD 1 undef, a3.tmps.getD 2 undef, a3.tmps.getD 3 undef] := by simpa using hpre
  have hsub := Good.sub (a := a3) (ds := [1, 2, 3]) (nt := 10) hpre2 (by rw [k3.2.1]) (by simp) rfl
  obtain ⟨l4, k4, r4, b4⟩ := hsub.le (show St.le (p74S o pr) _ from St.le_lit rfl (by simp [subSt, envO]) (by simp) (by simp [subSt]) (by simp) (by simp))
  have hl2d : l2.rd.d = [] := by rw [r2, r1]
  have hl2e : l2.rd.e = [] := by rw [r2, r1]
  have hF : Framed w w2 [] := by have := Framed.of_MR k3.1; rw [b2, b1] at this; exact this
  have hbge : ∀ b ∈ be', w.heap.size ≤ b := fun b hb => by
    obtain ⟨i, hi, hib⟩ := List.mem_iff_getElem.1 hb
    obtain ⟨r', hr, hrb⟩ := (hbe' i b).1 (by rw [List.getElem?_eq_getElem hi, hib])
    have hr' := List.mem_of_getElem? hr
    simp only [List.mem_cons, List.not_mem_nil, or_false] at hr'
    rcases hr' with rfl | rfl | rfl <;> exact (k3.1.rbow _ b hrb).1
  have hargs := hpre2.args
  simp only [RVs, RV] at hargs
  obtain ⟨_, _, e1, _, _, _, e2, ⟨b2', hb2, hp2⟩, _, _, e3, ⟨b3', hb3, hp3⟩, _⟩ := hargs
  simp only [List.cons.injEq] at e1
  obtain ⟨_, rfl⟩ := e1
  simp only [List.cons.injEq] at e2
  obtain ⟨rfl, rfl⟩ := e2
  simp only [List.cons.injEq] at e3
  obtain ⟨rfl, _⟩ := e3
  -- the closure's captured pointers
  simp only [RVs] at hvs
  obtain ⟨u2, _, rfl, hu2, u3, _, rfl, hu3, rfl⟩ := hvs
  have same : ∀ {r : Ref} {v v' : Value}, RV w2 (cx w w2 l2 fun _ => none) (.ptr r 0) v → RV w2 (cx w w2 l2 fun _ => none) (.ptr r 0) v' → v = v' := fun {r v v'} h h' => by
    simp only [RV] at h h'
    obtain ⟨b, h1, rfl⟩ := h
    obtain ⟨b', h2, rfl⟩ := h'
    rw [h1] at h2; cases h2; rfl
  have hu2e := (same hu2 hv2).trans hp2
  have hu3e := (same hu3 hv3).trans hp3
  have hc : ∀ b o, (rdAt w w2 l2 fun _ => none).c b o → (w.heap.size ≤ b ∧ b < w2.heap.size) ∨ rd.c b o := fun b o h => by
    rcases h with h | ⟨_, h⟩
    · exact .inl ⟨h.1, h.2.1⟩
    · rw [r2, r1] at h; exact .inr h
  have hz : ∀ b, (rdAt w w2 l2 fun _ => none).z b → rd.z b := fun b h => by
    rcases h with h | h
    · rw [r2, r1] at h; exact h
    · rw [hl2d, hl2e] at h; cases h
  have hdf4 : a3.defers = mks l4.rd.d ++ [{ target := .fn (.func 69) #[u2, u3], args := #[] }] := by rw [hdf3, r4]; rfl
  refine wpIn_seq ?_
  cases hN : proveN o pr with
  | some lp =>
    have hR : proveR o pr = .tup [.sl false false .U .no lp.length (eBds lp), .s (.bool true)] := by simp [proveR, hN]
    have hpl : plainOut o pr 41 (wholeB o) = .ret (.sl true true .U .no lp.length (eBds lp)) [] [] := by
      have : plainL o pr 41 (wholeB o) = some lp := hN
      simp [plainOut, this]
    rw [hpl] at hplain
    refine (EW.drawn (Φ := fun e s => isNorm e = true ∧ St.le (p74F o pr true true .U lp.length (eBds lp) true) s) [(0, 3)] mixed (gs_cons hwhole (gs_cons hplain gs_nil)) (by kernel_rfl) ?_) w2 w2 l4 a3 [{ target := .fn (.func 69) #[u2, u3], args := #[] }] _ k4 hdf4 ?_
    · simp [p74S, hx, bxA_take _ hx]
      exact (show St.le (p74F o pr true true .U lp.length (eBds lp) true) _ from St.le_lit rfl (by simp) (by simp) (by simp) (by simp) (by simp))
    intro e s he
    obtain ⟨he1, he2⟩ := he
    cases e with
    | normal =>
      intro a5 w5 l5 d5 g1 g2 g3 g4
      obtain ⟨l6, m1, m2, m3⟩ := g1.le he2
      refine wpIn_ret ?_
      rw [hR]
      exact fin74 o pr hF hbge hc hz m1 (by rw [m2, g2, r4]) (by rw [m3, g3]; exact b4) g4 hu2e hu3e hb2 hb3 (.inl ⟨rfl, rfl⟩)
    | exit id => cases he1
    | ret => cases he1
    | pan v => cases he1
  | none =>
    have hR : proveR o pr = .tup [.sl false false .U .no 0 [], .s (.bool false)] := by simp [proveR, hN]
    have hpl : plainOut o pr 41 (wholeB o) = .pan foundV := by
      have : plainL o pr 41 (wholeB o) = none := hN
      simp [plainOut, this]
    rw [hpl] at hplain
    refine drawnG_wp (v := foundV) (df := [{ target := .fn (.func 69) #[u2, u3], args := #[] }]) 4 [false, false, false, false, false, true, true] [(0, 3)] [2, 3] [.ext 0, .ext 1, .ext 2] mixed (gs_cons hwhole (gs_cons hplain gs_nil)) (by kernel_rfl) (by kernel_rfl) ?_ k4 hdf4 ?_
    · simp [p74S, hx, bxA_take _ hx, KeepPost]
      refine ⟨?_, ?_, ?_⟩ <;>
      · intro i o h hw
        rcases i with _ | _ | _ | _ | _ | _ | _ | i <;> simp at h <;> subst h <;> simp [wrOf] at hw
    intro a5 w5 l5 s5 g1 g2 g3 g4 g5 g6 g7 g8
    have hext : s5.ext = (p74S o pr).ext := by
      refine List.ext_getElem? fun i => ?_
      by_cases hi : i < 3
      · have := g6 (.ext i) (by simp; omega)
        exact this
      · rw [List.getElem?_eq_none (by rw [g8]; simp [p74S]; omega), List.getElem?_eq_none (by simp [p74S]; omega)]
    obtain ⟨l6, m1, m2, m3⟩ := g1.le (show St.le (p74F o pr false false .Z 0 [] false) s5 from St.le_lit (by rw [g7]; rfl) (by
      have e2 := g5 2 (by simp)
      have e3 := g5 3 (by simp)
      simp [e2, e3, p74S]) (by simp) (by rw [hext]; simp [p74S]) (by simp) (by simp))
    rw [hR]
    exact fin74 o pr hF hbge hc hz m1 (d := []) (by rw [m2, g2, r4]) (by rw [m3, g3]; exact b4) (by rw [g4, r4]) hu2e hu3e hb2 hb3 (.inr ⟨rfl, rfl⟩)
end Go.Ev
end
