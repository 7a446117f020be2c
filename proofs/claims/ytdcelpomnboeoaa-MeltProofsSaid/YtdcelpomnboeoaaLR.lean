/- Lemmas for the claims of this seat: an evaluator over abstract values, its soundness, and the contracts of the functions of melt that it walks; no premise beyond what each theorem states. -/
import Derived.Test.YtdcelpomnboeoaaKE
import Derived.Test.YtdcelpomnboeoaaLO
import Derived.Test.YtdcelpomnboeoaaLP
import Derived.Test.YtdcelpomnboeoaaLA
import Derived.Test.YtdcelpomnboeoaaLE
import Derived.Test.YtdcelpomnboeoaaLL
import Derived.Test.YtdcelpomnboeoaaLB
import Derived.Test.YtdcelpomnboeoaaLC
import Derived.Test.YtdcelpomnboeoaaLG

section
set_option linter.all false
open Go Go.Ev Go.Proofs
namespace Go.Ev
set_option linter.unusedSimpArgs false
set_option linter.unusedVariables false

set_option maxRecDepth 100000
theorem first_ok (lo hi : List Int) (i : Nat) (v : Int) (h2 : i < hi.length) (hhl : hi.length < 1000) : ACalls Try.prog 88 [.agg [.sl false false .U .no lo.length (eInts lo), .sl false false .U .no hi.length (eInts hi)], .s (.int .i64 i), .s (.int .i64 v)] [] (.ret (.agg [.sl false false .U .no lo.length (eInts lo), .sl true true .U .no hi.length (eInts (hi.set i v))]) [] []) := by
  have hz : ¬ hi = [] := by intro h; rw [h] at h2; simp at h2
  have hp : 0 < hi.length := by omega
  refine acalls_of_ew Try.func88 rfl rfl (by simp [Try.f88]) (rs := [.cell 6 103]) rfl ?_
  refine EW.seq fun Ψ0 n0 x0 => ?_
  refine EW.region gs_nil ?_
  simp
  refine n0 _ ?_; clear n0 x0
  refine EW.seq fun Ψ1 n1 x1 => ?_
  refine EW.drawn [(1, 5), (1, 7), (4, 7), (5, 7)] mixed (gs_mut (d := 1000000013) (o := .pan undef) gs_nil) (by kernel_rfl) ?_
  simp [show hi.length * 8 ≤ 140737488355328 by omega, hp]
  refine n1 _ ?_; clear n1 x1
  refine EW.seq fun Ψ2 n2 x2 => ?_
  refine EW.region gs_nil ?_
  simp [h2, show i + 1 ≤ hi.length by omega]
  refine n2 _ ?_; clear n2 x2
  refine EW.seq fun Ψ3 n3 x3 => ?_
  refine EW.freezeC (k := 13) (j := 7) (i := 1) (n := hi.length) (o := .no) (cs := aInts (hi.set i v)) (cj := [.sl false false .U .no lo.length (eInts lo), .sm (.own 13) hi.length .no]) (c0 := [.sl false false .U .no lo.length (eInts lo), .junk]) (ds := eInts (hi.set i v)) (g := true) (nt := 21) (E := [(6, .ptr (.own 6) 0), (7, .ptr (.own 7) 0)]) (O := [(6, [AV.nilsl, AV.nilsl]), (7, [.sl false false .U .no lo.length (eInts lo), .junk])]) (X := []) (T := []) (by simp) (by simp) (by simp) (by simp) (St.le_lit rfl (by simp) (by simp) (by simp) (by simp) (by simp)) (by simp) (by simp) (by simp [hz]) ?_
  refine EW.region gs_nil ?_
  simp
  refine n3 _ ?_; clear n3 x3
  refine EW.ret ?_
  refine ⟨_, _, _, rfl, ?_, ?_, ?_, ?_, ?_⟩ <;> simp

theorem second_ok (lo hi : List Int) (i : Nat) (v : Int) (h2 : i < lo.length) (hhl : lo.length < 1000) (hw : IntKind.i64.wrap (v + 1) = v + 1) : ACalls Try.prog 89 [.agg [.sl false false .U .no lo.length (eInts lo), .sl false false .U .no hi.length (eInts hi)], .s (.int .i64 i), .s (.int .i64 v)] [] (.ret (.agg [.sl true true .U .no lo.length (eInts (lo.set i (v + 1))), .sl false false .U .no hi.length (eInts hi)]) [] []) := by
  have hz : ¬ lo = [] := by intro h; rw [h] at h2; simp at h2
  have hp : 0 < lo.length := by omega
  refine acalls_of_ew Try.func89 rfl rfl (by simp [Try.f89]) (rs := [.cell 6 103]) rfl ?_
  refine EW.seq fun Ψ0 n0 x0 => ?_
  refine EW.region gs_nil ?_
  simp
  refine n0 _ ?_; clear n0 x0
  refine EW.seq fun Ψ1 n1 x1 => ?_
  refine EW.drawn [(3, 5), (2, 7), (3, 7), (5, 7)] mixed (gs_mut (d := 1000000011) (o := .pan undef) gs_nil) (by kernel_rfl) ?_
  simp [show lo.length * 8 ≤ 140737488355328 by omega, hp]
  refine n1 _ ?_; clear n1 x1
  refine EW.seq fun Ψ2 n2 x2 => ?_
  refine EW.region gs_nil ?_
  simp [h2, hw, show i + 1 ≤ lo.length by omega]
  refine n2 _ ?_; clear n2 x2
  refine EW.seq fun Ψ3 n3 x3 => ?_
  refine EW.freezeC (k := 11) (j := 7) (i := 0) (n := lo.length) (o := .no) (cs := aInts (lo.set i (v + 1))) (cj := [.sm (.own 11) lo.length .no, .sl false false .U .no hi.length (eInts hi)]) (c0 := [.junk, .sl false false .U .no hi.length (eInts hi)]) (ds := eInts (lo.set i (v + 1))) (g := true) (nt := 22) (E := [(6, .ptr (.own 6) 0), (7, .ptr (.own 7) 0)]) (O := [(6, [AV.nilsl, AV.nilsl]), (7, [.junk, .sl false false .U .no hi.length (eInts hi)])]) (X := []) (T := []) (by simp) (by simp) (by simp) (by simp) (St.le_lit rfl (by simp) (by simp) (by simp) (by simp) (by simp)) (by simp) (by simp) (by simp [hz]) ?_
  refine EW.region gs_nil ?_
  simp
  refine n3 _ ?_; clear n3 x3
  refine EW.ret ?_
  refine ⟨_, _, _, rfl, ?_, ?_, ?_, ?_, ?_⟩ <;> simp

end Go.Ev
end

section
set_option linter.all false
open Go Go.Ev Go.Proofs
namespace Go.Ev
set_option linter.unusedSimpArgs false
set_option linter.unusedVariables false

set_option maxRecDepth 100000
theorem rcheckPrice_ok (o : MOrd) (p : Int) (hz : szO o) : ACalls Try.prog 70 [.agg [.sl false false .U .no o.limits.length (eInts o.limits), .s (.int .i64 o.least), .s (.int .i64 o.most), .sl false false .U .no o.bins.length (eBins o.bins)], .s (.int .i64 p)] [] (.ret (.s (.int .i64 (priceErr o p))) [] []) := by
  refine acalls_of_ew Try.func70 rfl rfl (by simp [Try.f70]) (rs := [.tmp 4]) rfl ?_
  refine EW.seq fun Ψ0 n0 x0 => ?_
  refine EW.region gs_nil ?_
  simp
  refine n0 _ ?_; clear n0 x0
  refine EW.seq fun Ψ1 n1 x1 => ?_
  refine EW.seq fun Ψ2 n2 x2 => ?_
  refine EW.region (gs_cons (rcheck_ok' o hz) gs_nil) ?_
  simp
  refine n2 _ ?_; clear n2 x2
  refine EW.seq fun Ψ3 n3 x3 => ?_
  refine EW.region gs_nil ?_
  simp
  refine n3 _ ?_; clear n3 x3
  refine EW.cond (t := _) (by rfl) (fun hc9 => ?_) (fun hc9 => ?_)
  · have g1 : ¬ ordErr o = 0 := by simpa using hc9
    have hv : priceErr o p = ordErr o := by simp [priceErr, g1]
    refine EW.seq fun Ψ4 n4 x4 => ?_
    refine EW.region gs_nil ?_
    simp
    refine n4 _ ?_; clear n4 x4
    refine EW.ret ?_
    refine x1 _ _ rfl ?_; clear n1 x1
    refine ⟨_, _, _, rfl, ?_, ?_, ?_, ?_, ?_⟩ <;> simp [hv]
  · have g1 : ordErr o = 0 := by simpa using hc9
    refine EW.skip ?_
    refine n1 _ ?_; clear n1 x1
    refine EW.seq fun Ψ5 n5 x5 => ?_
    refine EW.seq fun Ψ6 n6 x6 => ?_
    cases q1 : inB p 0 300000000
    · skip
      refine EW.region (gI_ok gs_nil) ?_
      simp [q1]
      refine n6 _ ?_; clear n6 x6
      refine EW.cond (t := _) (by rfl) (fun hc13 => ?_) (fun hc13 => ?_)
      · simp at hc13
        have hv : priceErr o p = 1 := by simp [priceErr, g1, q1]
        refine EW.seq fun Ψ7 n7 x7 => ?_
        refine EW.region gs_nil ?_
        simp
        refine n7 _ ?_; clear n7 x7
        refine EW.ret ?_
        refine x5 _ _ rfl ?_; clear n5 x5
        refine ⟨_, _, _, rfl, ?_, ?_, ?_, ?_, ?_⟩ <;> simp [hv]
      · simp at hc13
    · skip
      refine EW.region (gI_ok gs_nil) ?_
      simp [q1]
      refine n6 _ ?_; clear n6 x6
      refine EW.cond (t := _) (by rfl) (fun hc13 => ?_) (fun hc13 => ?_)
      · simp at hc13
      · simp at hc13
        have hv : priceErr o p = 0 := by simp [priceErr, g1, q1]
        refine EW.skip ?_
        refine n5 _ ?_; clear n5 x5
        refine EW.seq fun Ψ8 n8 x8 => ?_
        refine EW.region gs_nil ?_
        simp
        refine n8 _ ?_; clear n8 x8
        refine EW.ret ?_
        refine ⟨_, _, _, rfl, ?_, ?_, ?_, ?_, ?_⟩ <;> simp [hv]


def rwS (o : MOrd) (p : Nat × List Int) : St :=
  St.lit 29 [(1, .ptr (.own 1) 0), (2, .ptr (.own 2) 0), (3, .ptr (.own 3) 0), (4, .s (.int .i64 p.1))] [(1, aOrdC o), (2, [AV.nilsl, AV.nilsl]), (3, [.sl true true .Z (.tok 15) p.1 (eInts (List.replicate p.1 0)), .sl true true .Z (.tok 25) p.1 (eInts p.2)])] [] [(15, (p.1, 1)), (25, (p.1, 1))]
attribute [simp] rwS

theorem rwhole_ok (o : MOrd) (hl : o.bins.length ≤ 20) : ACalls Try.prog 72 [.agg [.sl false false .U .no o.limits.length (eInts o.limits), .s (.int .i64 o.least), .s (.int .i64 o.most), .sl false false .U .no o.bins.length (eBins o.bins)]] [] (.ret (.agg [.sl true true .Z .no o.bins.length (eInts (List.replicate o.bins.length 0)), .sl true true .Z .no o.bins.length (eInts (o.bins.map (·.g)))]) [] []) := by
  refine acalls_of_ew Try.func72 rfl rfl (by simp [Try.f72]) (rs := [.cell 2 103]) rfl ?_
  refine EW.seq fun Ψ0 n0 x0 => ?_
  refine EW.region gs_nil ?_
  simp
  refine n0 _ ?_; clear n0 x0
  refine EW.seq fun Ψ1 n1 x1 => ?_
  refine EW.region gs_nil ?_
  simp
  refine n1 _ ?_; clear n1 x1
  refine EW.seq fun Ψ2 n2 x2 => ?_
  refine EW.seq fun Ψ3 n3 x3 => ?_
  refine EW.region gs_nil ?_
  simp
  refine n3 _ ?_; clear n3 x3
  refine EW.block ?_
  refine EW.loopA (rwS o) (fun p => p.1 ≤ o.bins.length ∧ p.2.length = p.1 ∧ p.2 ++ (o.bins.drop p.1).map (·.g) = o.bins.map (·.g)) (fun p => o.bins.length - p.1) (0, []) (St.le_lit rfl (by simp) (by simp) (by simp) (by simp) (by simp)) ?_ fun p hk => ?_
  · simp
  obtain ⟨k, b⟩ := p
  obtain ⟨hk, hb, hw⟩ := hk
  simp only at hk hb hw
  refine EW.seq fun Ψ4 n4 x4 => ?_
  refine EW.seq fun Ψ5 n5 x5 => ?_
  refine EW.region gs_nil ?_
  simp
  refine n5 _ ?_; clear n5 x5
  refine EW.cond (t := _) (by rfl) (fun hc9 => ?_) (fun hc9 => ?_)
  · simp at hc9
    have e1 : o.bins[k]? = some o.bins[k] := List.getElem?_eq_getElem hc9
    refine EW.skip ?_
    refine n4 _ ?_; clear n4 x4
    refine EW.seq fun Ψ6 n6 x6 => ?_
    refine EW.block ?_
    refine EW.hide fun Ψ7 n7 => ?_
    refine EW.drawn [(3, 5), (3, 7), (3, 11)] mixed gs_nil (by kernel_rfl) ?_
    simp [hc9, e1, hb, show (k + 1) * 8 ≤ 140737488355328 by omega]
    refine n7 _ _ ?_; clear n7
    refine n6 _ ?_; clear n6 x6
    refine EW.hide fun Ψ8 n8 => ?_
    refine EW.region gs_nil ?_
    simp
    refine n8 _ _ ?_; clear n8
    have e3 : IntKind.i64.wrap ((k : Int) + 1) = k + 1 := wr_small (by omega) (by omega)
    refine ⟨(k + 1, b ++ [o.bins[k].g]), (St.le_lit rfl (by simp [e3]) (by simp [List.replicate_succ']) (by simp) (by simp) (by simp)), ?_, ?_⟩
    · refine ⟨hc9, by simp [hb], ?_⟩
      rw [← hw, List.drop_eq_getElem_cons hc9, List.map_cons, List.append_assoc]; rfl
    · simp; omega
  · simp at hc9
    have hkl : k = o.bins.length := by omega
    subst hkl
    simp at hw
    subst hw
    refine EW.exit ?_
    refine x4 _ _ rfl ?_; clear n4 x4
    refine n2 _ ?_; clear n2 x2
    refine EW.seq fun Ψ9 n9 x9 => ?_
    refine EW.region gs_nil ?_
    simp
    refine n9 _ ?_; clear n9 x9
    refine EW.ret ?_
    refine ⟨_, _, _, rfl, ?_, ?_, ?_, ?_, ?_⟩ <;> simp


/-- What a box goes beyond a limit at the least. -/
def ovr (o : MOrd) (j : Nat) (b : MBin) : Int := IntKind.i64.wrap ((b.grams[j]?.getD (0, 0)).2 - o.limits[j]?.getD 0)
def rsL (o : MOrd) (lo hi : List Int) (j : Nat) : List MBin → Nat → Int → Int
  | [], _, s => s
  | b :: bs, i, s => rsL o lo hi j bs (i + 1) (IntKind.i64.wrap (s + IntKind.i64.wrap (IntKind.i64.wrap ((if ovr o j b < 0 then hi[i]?.getD 0 else lo[i]?.getD 0) * b.w) * ovr o j b)))
def rgtB (o : MOrd) (lo hi : List Int) (pr r a : Int) : Bool :=
  if r = 2 then decide ((weighL o.bins hi 0 0 0).1 < o.least)
  else if r = 3 then decide (o.most < (weighL o.bins lo 0 0 0).1)
  else if r = 5 then decide (pr ≤ (weighL o.bins lo 0 0 0).2)
  else decide (0 < rsL o lo hi a.toNat o.bins 0 0)
def rgS (o : MOrd) (lo hi : List Int) (r a c : Int) (p : Nat × Int) : St :=
  St.lit 92 [(4, .ptr (.own 4) 0), (5, .ptr (.own 5) 0), (7, .ptr (.own 7) 0), (9, .s (.int .i64 p.2)), (10, .s (.int .i64 p.1))] [(4, aOrdC o), (5, [.sl false false .U .no lo.length (eInts lo), .sl false false .U .no hi.length (eInts hi)]), (7, [.s (.int .i64 r), .s (.int .i64 a), .s (.int .i64 c)])] [] []
attribute [simp] rgS

set_option maxHeartbeats 2000000 in
theorem right_ok (o : MOrd) (lo hi : List Int) (pr r a c : Int) (h1 : lo.length = o.bins.length) (h2 : hi.length = o.bins.length) (hn : o.bins.length < 1000000) (hg : ∀ b ∈ o.bins, b.grams.length = o.limits.length) (ha : ¬ r = 2 → ¬ r = 3 → ¬ r = 5 → ∃ j : Nat, a = j ∧ j < o.limits.length) : ACalls Try.prog 87 [.agg [.sl false false .U .no o.limits.length (eInts o.limits), .s (.int .i64 o.least), .s (.int .i64 o.most), .sl false false .U .no o.bins.length (eBins o.bins)], .agg [.sl false false .U .no lo.length (eInts lo), .sl false false .U .no hi.length (eInts hi)], .s (.int .i64 pr), .agg [.s (.int .i64 r), .s (.int .i64 a), .s (.int .i64 c)]] [] (.ret (.s (.bool (rgtB o lo hi pr r a))) [] []) := by
  refine acalls_of_ew Try.func87 rfl rfl (by simp [Try.f87]) (rs := [.tmp 8]) rfl ?_
  refine EW.seq fun Ψ0 n0 x0 => ?_
  refine EW.region gs_nil ?_
  simp
  refine n0 _ ?_; clear n0 x0
  refine EW.seq fun Ψ1 n1 x1 => ?_
  refine EW.seq fun Ψ2 n2 x2 => ?_
  refine EW.region gs_nil ?_
  simp
  refine n2 _ ?_; clear n2 x2
  refine EW.block ?_
  refine EW.seq fun Ψ3 n3 x3 => ?_
  refine EW.region gs_nil ?_
  simp
  refine n3 _ ?_; clear n3 x3
  refine EW.cond (t := _) (by rfl) (fun hc15 => ?_) (fun hc15 => ?_)
  · have g1 : r = 2 := by simpa using hc15
    have hv : rgtB o lo hi pr r a = decide ((weighL o.bins hi 0 0 0).1 < o.least) := by rw [rgtB, if_pos g1]
    refine EW.seq fun Ψ4 n4 x4 => ?_
    refine EW.drawn [(3, 5)] mixed (gs_cons (rkilos_ok o hi (by omega) (by omega)) gs_nil) (by kernel_rfl) ?_
    simp
    refine n4 _ ?_; clear n4 x4
    refine EW.ret ?_
    refine x1 _ _ rfl ?_; clear n1 x1
    refine ⟨_, _, _, rfl, ?_, ?_, ?_, ?_, ?_⟩ <;> simp [hv]
  · have g1 : ¬ r = 2 := by simpa using hc15
    refine EW.seq fun Ψ5 n5 x5 => ?_
    refine EW.region gs_nil ?_
    simp
    refine n5 _ ?_; clear n5 x5
    refine EW.cond (t := _) (by rfl) (fun hc24 => ?_) (fun hc24 => ?_)
    · have g2 : r = 3 := by simpa using hc24
      have hv : rgtB o lo hi pr r a = decide (o.most < (weighL o.bins lo 0 0 0).1) := by rw [rgtB, if_neg g1, if_pos g2]
      refine EW.seq fun Ψ6 n6 x6 => ?_
      refine EW.drawn [(3, 5)] mixed (gs_cons (rkilos_ok o lo (by omega) (by omega)) gs_nil) (by kernel_rfl) ?_
      simp
      refine n6 _ ?_; clear n6 x6
      refine EW.ret ?_
      refine x1 _ _ rfl ?_; clear n1 x1
      refine ⟨_, _, _, rfl, ?_, ?_, ?_, ?_, ?_⟩ <;> simp [hv]
    · have g2 : ¬ r = 3 := by simpa using hc24
      refine EW.seq fun Ψ7 n7 x7 => ?_
      refine EW.region gs_nil ?_
      simp
      refine n7 _ ?_; clear n7 x7
      refine EW.cond (t := _) (by rfl) (fun hc33 => ?_) (fun hc33 => ?_)
      · have g3 : r = 5 := by simpa using hc33
        have hv : rgtB o lo hi pr r a = decide (pr ≤ (weighL o.bins lo 0 0 0).2) := by rw [rgtB, if_neg g1, if_neg g2, if_pos g3]
        refine EW.seq fun Ψ8 n8 x8 => ?_
        refine EW.region (gs_cons (rcost_ok o lo (by omega) (by omega)) gs_nil) ?_
        simp
        refine n8 _ ?_; clear n8 x8
        refine EW.ret ?_
        refine x1 _ _ rfl ?_; clear n1 x1
        refine ⟨_, _, _, rfl, ?_, ?_, ?_, ?_, ?_⟩ <;> simp [hv]
      · have g3 : ¬ r = 5 := by simpa using hc33
        obtain ⟨j, rfl, hjl⟩ := ha g1 g2 g3
        have e5 : o.limits[j]? = some o.limits[j] := List.getElem?_eq_getElem hjl
        have hv : rgtB o lo hi pr r (j : Int) = decide (0 < rsL o lo hi j o.bins 0 0) := by rw [rgtB, if_neg g1, if_neg g2, if_neg g3]; rfl
        refine EW.skip ?_
        refine n1 _ ?_; clear n1 x1
        refine EW.seq fun Ψ9 n9 x9 => ?_
        refine EW.region gs_nil ?_
        simp
        refine n9 _ ?_; clear n9 x9
        refine EW.seq fun Ψ10 n10 x10 => ?_
        refine EW.seq fun Ψ11 n11 x11 => ?_
        refine EW.region gs_nil ?_
        simp
        refine n11 _ ?_; clear n11 x11
        refine EW.block ?_
        refine EW.loopA (rgS o lo hi r j c) (fun p => p.1 ≤ o.bins.length ∧ rsL o lo hi j (o.bins.drop p.1) p.1 p.2 = rsL o lo hi j o.bins 0 0) (fun p => o.bins.length - p.1) (0, 0) (St.le_lit rfl (by simp) (by simp) (by simp) (by simp) (by simp)) ?_ fun p hk => ?_
        · simp
        obtain ⟨k, s⟩ := p
        obtain ⟨hk, hw⟩ := hk
        simp only at hk hw
        refine EW.seq fun Ψ12 n12 x12 => ?_
        refine EW.seq fun Ψ13 n13 x13 => ?_
        refine EW.region gs_nil ?_
        simp
        refine n13 _ ?_; clear n13 x13
        refine EW.cond (t := _) (by rfl) (fun hc45 => ?_) (fun hc45 => ?_)
        · simp at hc45
          have e2 : o.bins[k]? = some o.bins[k] := List.getElem?_eq_getElem hc45
          have hjg : j < o.bins[k].grams.length := by rw [hg _ (List.getElem_mem hc45)]; exact hjl
          have e4 : o.bins[k].grams[j]? = some o.bins[k].grams[j] := List.getElem?_eq_getElem hjg
          have k1 : k < lo.length := by omega
          have k2 : k < hi.length := by omega
          have e6 : lo[k]? = some lo[k] := List.getElem?_eq_getElem k1
          have e7 : hi[k]? = some hi[k] := List.getElem?_eq_getElem k2
          have ho : ovr o j o.bins[k] = IntKind.i64.wrap (o.bins[k].grams[j].2 - o.limits[j]) := by rw [ovr, e4, e5]; rfl
          refine EW.skip ?_
          refine n12 _ ?_; clear n12 x12
          refine EW.seq fun Ψ14 n14 x14 => ?_
          refine EW.block ?_
          refine EW.seq fun Ψ15 n15 x15 => ?_
          refine EW.drawn [] mixed gs_nil (by kernel_rfl) ?_
          simp [hc45, e2, e4, hjg, e5, hjl]
          refine n15 _ ?_; clear n15 x15
          refine EW.seq fun Ψ16 n16 x16 => ?_
          refine EW.region gs_nil ?_
          simp [k1, e6]
          refine n16 _ ?_; clear n16 x16
          refine EW.seq fun Ψ17 n17 x17 => ?_
          refine EW.seq fun Ψ18 n18 x18 => ?_
          refine EW.region gs_nil ?_
          simp
          refine n18 _ ?_; clear n18 x18
          refine EW.cond (t := _) (by rfl) (fun hc72 => ?_) (fun hc72 => ?_)
          · have hc72 : IntKind.i64.wrap (o.bins[k].grams[j].2 - o.limits[j]) < 0 := by simpa using hc72
            refine EW.region gs_nil ?_
            simp [k2, e7]
            refine n17 _ ?_; clear n17 x17
            refine EW.hide fun Ψ19 n19 => ?_
            refine EW.region gs_nil ?_
            simp [hc45, e2]
            refine n19 _ _ ?_; clear n19
            refine n14 _ ?_; clear n14 x14
            refine EW.hide fun Ψ20 n20 => ?_
            refine EW.region gs_nil ?_
            simp
            refine n20 _ _ ?_; clear n20
            have e3 : IntKind.i64.wrap ((k : Int) + 1) = k + 1 := wr_small (by omega) (by omega)
            refine ⟨(k + 1, IntKind.i64.wrap (s + IntKind.i64.wrap (IntKind.i64.wrap ((if IntKind.i64.wrap (o.bins[k].grams[j].2 - o.limits[j]) < 0 then hi[k] else lo[k]) * o.bins[k].w) * IntKind.i64.wrap (o.bins[k].grams[j].2 - o.limits[j])))), (St.le_lit rfl (by simp [e3, hc72]) (by simp) (by simp) (by simp) (by simp)), ?_, ?_⟩
            · refine ⟨hc45, ?_⟩
              rw [← hw, List.drop_eq_getElem_cons hc45, rsL, ho, e6, e7]; rfl
            · simp; omega
          · have hc72 : ¬ IntKind.i64.wrap (o.bins[k].grams[j].2 - o.limits[j]) < 0 := by simpa using hc72
            refine EW.skip ?_
            refine n17 _ ?_; clear n17 x17
            refine EW.hide fun Ψ21 n21 => ?_
            refine EW.region gs_nil ?_
            simp [hc45, e2]
            refine n21 _ _ ?_; clear n21
            refine n14 _ ?_; clear n14 x14
            refine EW.hide fun Ψ22 n22 => ?_
            refine EW.region gs_nil ?_
            simp
            refine n22 _ _ ?_; clear n22
            have e3 : IntKind.i64.wrap ((k : Int) + 1) = k + 1 := wr_small (by omega) (by omega)
            refine ⟨(k + 1, IntKind.i64.wrap (s + IntKind.i64.wrap (IntKind.i64.wrap ((if IntKind.i64.wrap (o.bins[k].grams[j].2 - o.limits[j]) < 0 then hi[k] else lo[k]) * o.bins[k].w) * IntKind.i64.wrap (o.bins[k].grams[j].2 - o.limits[j])))), (St.le_lit rfl (by simp [e3, hc72]) (by simp) (by simp) (by simp) (by simp)), ?_, ?_⟩
            · refine ⟨hc45, ?_⟩
              rw [← hw, List.drop_eq_getElem_cons hc45, rsL, ho, e6, e7]; rfl
            · simp; omega
        · simp at hc45
          have hkl : k = o.bins.length := by omega
          subst hkl
          simp [rsL] at hw
          rw [← hw] at hv
          refine EW.exit ?_
          refine x12 _ _ rfl ?_; clear n12 x12
          refine n10 _ ?_; clear n10 x10
          refine EW.seq fun Ψ23 n23 x23 => ?_
          refine EW.region gs_nil ?_
          simp
          refine n23 _ ?_; clear n23 x23
          refine EW.ret ?_
          refine ⟨_, _, _, rfl, ?_, ?_, ?_, ?_, ?_⟩ <;> simp [hv]

end Go.Ev
end

section
set_option linter.all false
open Go Go.Ev Go.Proofs
namespace Go.Ev
set_option linter.unusedSimpArgs false
set_option linter.unusedVariables false

set_option maxRecDepth 100000

/-- What is left of a proof: nothing, if there is an error. -/
def vlP (R : Int × List MBd) : List MBd := if R.1 = 0 then R.2 else []
theorem vlP_0 {R : Int × List MBd} (h : R.1 = 0) : vlP R = R.2 := by rw [vlP, if_pos h]
theorem vlP_n {R : Int × List MBd} (h : ¬ R.1 = 0) : vlP R = [] := by rw [vlP, if_neg h]

set_option maxHeartbeats 4000000 in
theorem rver_cut (o : MOrd) (pr : Int) (lo hi : List Int) (a c : Int) (r : List MBd) (A B R : Int × List MBd) (hn : o.bins.length < 900) (hn1 : 1 ≤ o.bins.length) (h1 : lo.length = o.bins.length) (h2 : hi.length = o.bins.length) (hrl : r.length < 1000000)
    (hbd : ∀ (i : Nat) (h : i < lo.length) (h' : i < hi.length), 0 ≤ lo[i] ∧ lo[i] ≤ hi[i] ∧ hi[i] ≤ 1000)
    (hN : ∀ (i : Nat), a = (i : Int) → ∀ (h : i < lo.length) (h' : i < hi.length), lo[i] ≤ c → c < hi[i] → ACalls Try.prog 77 [.agg [.sl false false .U .no o.limits.length (eInts o.limits), .s (.int .i64 o.least), .s (.int .i64 o.most), .sl false false .U .no o.bins.length (eBins o.bins)], .agg [.sl false false .U .no lo.length (eInts lo), .sl false false .U .no (hi.set i c).length (eInts (hi.set i c))], .s (.int .i64 pr), .sl false false .U .no r.length (eBds r)] [] (.ret (.tup [.sl false false .U .no (vlP A).length (eBds (vlP A)), .s (.int .i64 A.1)]) [] []) ∧ (A.1 = 0 → ACalls Try.prog 77 [.agg [.sl false false .U .no o.limits.length (eInts o.limits), .s (.int .i64 o.least), .s (.int .i64 o.most), .sl false false .U .no o.bins.length (eBins o.bins)], .agg [.sl false false .U .no (lo.set i (c + 1)).length (eInts (lo.set i (c + 1))), .sl false false .U .no hi.length (eInts hi)], .s (.int .i64 pr), .sl false false .U .no A.2.length (eBds A.2)] [] (.ret (.tup [.sl false false .U .no (vlP B).length (eBds (vlP B)), .s (.int .i64 B.1)]) [] [])))
    (hR : R = if inB a 0 (IntKind.i64.wrap ((o.bins.length : Int) - 1)) = false then (3, r) else if inB c (lo[a.toNat]?.getD 0) (IntKind.i64.wrap (hi[a.toNat]?.getD 0 - 1)) = false then (1, r) else if A.1 = 0 then B else A) : ACalls Try.prog 77 [.agg [.sl false false .U .no o.limits.length (eInts o.limits), .s (.int .i64 o.least), .s (.int .i64 o.most), .sl false false .U .no o.bins.length (eBins o.bins)], .agg [.sl false false .U .no lo.length (eInts lo), .sl false false .U .no hi.length (eInts hi)], .s (.int .i64 pr), .sl false false .U .no (⟨1, a, c⟩ :: r : List MBd).length (eBds (⟨1, a, c⟩ :: r : List MBd))] [] (.ret (.tup [.sl false false .U .no (vlP R).length (eBds (vlP R)), .s (.int .i64 R.1)]) [] []) := by
  have w0 : IntKind.i64.wrap ((o.bins.length : Int) - 1) = o.bins.length - 1 := wr_small (by omega) (by omega)
  refine acalls_of_ew Try.func77 rfl rfl (by simp [Try.f77]) (rs := [.tmp 8, .tmp 9]) rfl ?_
  refine EW.seq fun Ψ0 n0 x0 => ?_
  refine EW.region gs_nil ?_
  simp
  refine n0 _ ?_; clear n0 x0
  refine EW.seq fun Ψ1 n1 x1 => ?_
  refine EW.seq fun Ψ2 n2 x2 => ?_
  refine EW.region gs_nil ?_
  simp
  refine n2 _ ?_; clear n2 x2
  refine EW.cond (t := _) (by rfl) (fun hc16 => ?_) (fun hc16 => ?_)
  · first | (simp at hc16; done) | (simp at hc16; omega)
  · clear hc16
    refine EW.skip ?_
    refine n1 _ ?_; clear n1 x1
    refine EW.seq fun Ψ3 n3 x3 => ?_
    refine EW.drawn [(2, 5)] mixed gs_nil (by kernel_rfl) ?_
    simp [show (1 : Int) ≤ (r.length : Int) + 1 by omega]
    refine n3 _ ?_; clear n3 x3
    refine EW.seq fun Ψ4 n4 x4 => ?_
    refine EW.block ?_
    refine EW.seq fun Ψ5 n5 x5 => ?_
    refine EW.region (gI_ok gs_nil) ?_
    simp [inB]
    refine n5 _ ?_; clear n5 x5
    refine EW.cond (t := _) (by rfl) (fun hc22 => ?_) (fun hc22 => ?_)
    · simp [inB] at hc22
    · clear hc22
      refine EW.seq fun Ψ6 n6 x6 => ?_
      refine EW.seq fun Ψ7 n7 x7 => ?_
      rcases hA : inB a 0 (IntKind.i64.wrap ((o.bins.length : Int) - 1)) with _ | _
      · skip
        refine EW.region (gI_ok gs_nil) ?_
        simp [hA]
        refine n7 _ ?_; clear n7 x7
        refine EW.cond (t := _) (by rfl) (fun hc27 => ?_) (fun hc27 => ?_)
        · clear hc27
          refine EW.skip ?_
          refine n6 _ ?_; clear n6 x6
          refine EW.cond (t := _) (by rfl) (fun hc27 => ?_) (fun hc27 => ?_)
          · clear hc27
            rw [if_pos hA] at hR
            have hv1 : R.1 = 3 := by rw [hR]
            have hv2 : vlP R = [] := by rw [hR]; rfl
            refine EW.seq fun Ψ8 n8 x8 => ?_
            refine EW.region gs_nil ?_
            simp
            refine n8 _ ?_; clear n8 x8
            refine EW.ret ?_
            refine x4 _ _ rfl ?_; clear n4 x4
            refine ⟨_, _, _, rfl, ?_, ?_, ?_, ?_, ?_⟩ <;> simp [hv1, hv2]
          · simp at hc27
        · simp at hc27
      · skip
        refine EW.region (gI_ok gs_nil) ?_
        simp [hA]
        refine n7 _ ?_; clear n7 x7
        refine EW.cond (t := _) (by rfl) (fun hc27 => ?_) (fun hc27 => ?_)
        · simp at hc27
        · clear hc27
          refine EW.region gs_nil ?_
          simp
          refine n6 _ ?_; clear n6 x6
          refine EW.cond (t := _) (by rfl) (fun hc27 => ?_) (fun hc27 => ?_)
          · simp at hc27
          · clear hc27
            rw [if_neg (by rw [hA]; simp)] at hR
            have hb := inB_iff.1 hA
            rw [w0] at hb
            obtain ⟨i, rfl⟩ : ∃ i : Nat, a = i := ⟨a.toNat, by omega⟩
            have i1 : i < lo.length := by omega
            have i2 : i < hi.length := by omega
            have e1 : lo[i]? = some lo[i] := List.getElem?_eq_getElem i1
            have e2 : hi[i]? = some hi[i] := List.getElem?_eq_getElem i2
            have hbi := hbd i i1 i2
            simp only [Int.toNat_natCast, e1, e2, Option.getD_some] at hR
            refine EW.seq fun Ψ9 n9 x9 => ?_
            rcases hB : inB c lo[i] (IntKind.i64.wrap (hi[i] - 1)) with _ | _
            · skip
              refine EW.drawn [] mixed (gI_ok gs_nil) (by kernel_rfl) ?_
              simp [hB, i1, i2, e1, e2]
              refine n9 _ ?_; clear n9 x9
              refine EW.cond (t := _) (by rfl) (fun hc54 => ?_) (fun hc54 => ?_)
              · clear hc54
                rw [if_pos hB] at hR
                have hv1 : R.1 = 1 := by rw [hR]
                have hv2 : vlP R = [] := by rw [hR]; rfl
                refine EW.seq fun Ψ10 n10 x10 => ?_
                refine EW.region gs_nil ?_
                simp
                refine n10 _ ?_; clear n10 x10
                refine EW.ret ?_
                refine x4 _ _ rfl ?_; clear n4 x4
                refine ⟨_, _, _, rfl, ?_, ?_, ?_, ?_, ?_⟩ <;> simp [hv1, hv2]
              · simp at hc54
            · skip
              refine EW.drawn [] mixed (gI_ok gs_nil) (by kernel_rfl) ?_
              simp [hB, i1, i2, e1, e2]
              refine n9 _ ?_; clear n9 x9
              refine EW.cond (t := _) (by rfl) (fun hc54 => ?_) (fun hc54 => ?_)
              · simp at hc54
              · clear hc54
                rw [if_neg (by rw [hB]; simp)] at hR
                have hb2 := inB_iff.1 hB
                rw [show IntKind.i64.wrap (hi[i] - 1) = hi[i] - 1 from wr_small (by omega) (by omega)] at hb2
                have e4 : IntKind.i64.wrap (c + 1) = c + 1 := wr_small (by omega) (by omega)
                obtain ⟨cA, cB⟩ := hN i rfl i1 i2 hb2.1 (by omega)
                refine EW.seq fun Ψ11 n11 x11 => ?_
                refine EW.region gs_nil ?_
                simp
                refine n11 _ ?_; clear n11 x11
                refine EW.cond (t := _) (by rfl) (fun hc77 => ?_) (fun hc77 => ?_)
                · clear hc77
                  refine EW.seq fun Ψ12 n12 x12 => ?_
                  refine EW.drawn [(0, 6)] mixed (gs_cons (first_ok lo hi i c i2 (by omega)) (gs_cons cA gs_nil)) (by kernel_rfl) ?_
                  simp
                  refine n12 _ ?_; clear n12 x12
                  refine EW.seq fun Ψ13 n13 x13 => ?_
                  refine EW.seq fun Ψ14 n14 x14 => ?_
                  refine EW.region gs_nil ?_
                  simp
                  refine n14 _ ?_; clear n14 x14
                  refine EW.cond (t := _) (by rfl) (fun hc95 => ?_) (fun hc95 => ?_)
                  · have g1 : ¬ A.1 = 0 := by simpa using hc95
                    rw [if_neg g1] at hR
                    have hv1 : R.1 = A.1 := by rw [hR]
                    have hv2 : vlP R = [] := by rw [hR]; exact vlP_n g1
                    refine EW.seq fun Ψ15 n15 x15 => ?_
                    refine EW.region gs_nil ?_
                    simp
                    refine n15 _ ?_; clear n15 x15
                    refine EW.ret ?_
                    refine x13 _ _ rfl ?_; clear n13 x13
                    refine x4 _ _ rfl ?_; clear n4 x4
                    refine ⟨_, _, _, rfl, ?_, ?_, ?_, ?_, ?_⟩ <;> simp [hv1, hv2]
                  · have g1 : A.1 = 0 := by simpa using hc95
                    rw [if_pos g1] at hR
                    have hv1 : R.1 = B.1 := by rw [hR]
                    have hv2 : vlP R = vlP B := by rw [hR]
                    have hA2 := vlP_0 g1
                    have cB2 := cB g1
                    refine EW.skip ?_
                    refine n13 _ ?_; clear n13 x13
                    refine EW.seq fun Ψ16 n16 x16 => ?_
                    refine EW.drawn [(0, 6)] mixed (gs_cons (second_ok lo hi i c i1 (by omega) e4) (gs_cons cB2 gs_nil)) (by kernel_rfl) ?_
                    simp [hA2]
                    refine n16 _ ?_; clear n16 x16
                    refine EW.ret ?_
                    refine x4 _ _ rfl ?_; clear n4 x4
                    refine ⟨_, _, _, rfl, ?_, ?_, ?_, ?_, ?_⟩ <;> simp [hv1, hv2]
                · simp at hc77

set_option maxHeartbeats 4000000 in
theorem rver_leaf (o : MOrd) (pr : Int) (lo hi : List Int) (q a c : Int) (r : List MBd) (R : Int × List MBd) (hn : o.bins.length < 900) (hl : o.limits.length < 900) (h1 : lo.length = o.bins.length) (h2 : hi.length = o.bins.length) (hrl : r.length < 1000000) (hg : ∀ b ∈ o.bins, b.grams.length = o.limits.length)
    (hq : 2 ≤ q ∧ q ≤ 5) (hR : R = if q = 4 ∧ inB a 0 (IntKind.i64.wrap ((o.limits.length : Int) - 1)) = false then (3, r) else if rgtB o lo hi pr q a = true then (0, r) else (9, r)) : ACalls Try.prog 77 [.agg [.sl false false .U .no o.limits.length (eInts o.limits), .s (.int .i64 o.least), .s (.int .i64 o.most), .sl false false .U .no o.bins.length (eBins o.bins)], .agg [.sl false false .U .no lo.length (eInts lo), .sl false false .U .no hi.length (eInts hi)], .s (.int .i64 pr), .sl false false .U .no (⟨q, a, c⟩ :: r : List MBd).length (eBds (⟨q, a, c⟩ :: r : List MBd))] [] (.ret (.tup [.sl false false .U .no (vlP R).length (eBds (vlP R)), .s (.int .i64 R.1)]) [] []) := by
  have w0 : IntKind.i64.wrap ((o.limits.length : Int) - 1) = o.limits.length - 1 := wr_small (by omega) (by omega)
  have q1 : ¬ q = 1 := by omega
  have q0 : inB q 1 5 = true := inB_iff.2 (by omega)
  refine acalls_of_ew Try.func77 rfl rfl (by simp [Try.f77]) (rs := [.tmp 8, .tmp 9]) rfl ?_
  refine EW.seq fun Ψ0 n0 x0 => ?_
  refine EW.region gs_nil ?_
  simp
  refine n0 _ ?_; clear n0 x0
  refine EW.seq fun Ψ1 n1 x1 => ?_
  refine EW.seq fun Ψ2 n2 x2 => ?_
  refine EW.region gs_nil ?_
  simp
  refine n2 _ ?_; clear n2 x2
  refine EW.cond (t := _) (by rfl) (fun hc16 => ?_) (fun hc16 => ?_)
  · first | (simp at hc16; done) | (simp at hc16; omega)
  · clear hc16
    refine EW.skip ?_
    refine n1 _ ?_; clear n1 x1
    refine EW.seq fun Ψ3 n3 x3 => ?_
    refine EW.drawn [(2, 5)] mixed gs_nil (by kernel_rfl) ?_
    simp [show (1 : Int) ≤ (r.length : Int) + 1 by omega]
    refine n3 _ ?_; clear n3 x3
    refine EW.seq fun Ψ4 n4 x4 => ?_
    refine EW.block ?_
    refine EW.seq fun Ψ5 n5 x5 => ?_
    refine EW.region (gI_ok gs_nil) ?_
    simp [q0]
    refine n5 _ ?_; clear n5 x5
    refine EW.cond (t := _) (by rfl) (fun hc22 => ?_) (fun hc22 => ?_)
    · simp [q0] at hc22
    · clear hc22
      refine EW.seq fun Ψ6 n6 x6 => ?_
      refine EW.seq fun Ψ7 n7 x7 => ?_
      refine EW.region (gI_ok gs_nil) ?_
      simp [q1]
      refine n7 _ ?_; clear n7 x7
      refine EW.cond (t := _) (by rfl) (fun hc27 => ?_) (fun hc27 => ?_)
      · simp at hc27
      · clear hc27
        rcases (show (q = 4 ∧ inB a 0 (IntKind.i64.wrap ((o.limits.length : Int) - 1)) = false) ∨ (q = 4 ∧ inB a 0 (IntKind.i64.wrap ((o.limits.length : Int) - 1)) = true) ∨ ¬ q = 4 from by by_cases h : q = 4 <;> cases inB a 0 (IntKind.i64.wrap ((o.limits.length : Int) - 1)) <;> simp [h]) with ⟨h4, hA⟩ | ⟨h4, hA⟩ | h4
        · skip
          refine EW.region (gI_ok gs_nil) ?_
          simp [decide_eq_true h4, hA]
          refine n6 _ ?_; clear n6 x6
          refine EW.cond (t := _) (by rfl) (fun hc27 => ?_) (fun hc27 => ?_)
          · clear hc27
            rw [if_pos ⟨h4, hA⟩] at hR
            have hv1 : R.1 = 3 := by rw [hR]
            have hv2 : vlP R = [] := by rw [hR]; rfl
            refine EW.seq fun Ψ8 n8 x8 => ?_
            refine EW.region gs_nil ?_
            simp
            refine n8 _ ?_; clear n8 x8
            refine EW.ret ?_
            refine x4 _ _ rfl ?_; clear n4 x4
            refine ⟨_, _, _, rfl, ?_, ?_, ?_, ?_, ?_⟩ <;> simp [hv1, hv2]
          · simp at hc27
        · skip
          refine EW.region (gI_ok gs_nil) ?_
          simp [decide_eq_true h4, hA]
          refine n6 _ ?_; clear n6 x6
          refine EW.cond (t := _) (by rfl) (fun hc27 => ?_) (fun hc27 => ?_)
          · simp at hc27
          · clear hc27
            rw [if_neg (by rw [hA]; simp)] at hR
            refine EW.seq fun Ψ9 n9 x9 => ?_
            refine EW.drawn [] mixed (gI_ok gs_nil) (by kernel_rfl) ?_
            simp [q1]
            refine n9 _ ?_; clear n9 x9
            refine EW.cond (t := _) (by rfl) (fun hc54 => ?_) (fun hc54 => ?_)
            · simp [q1] at hc54
            · clear hc54
              refine EW.seq fun Ψ10 n10 x10 => ?_
              refine EW.region gs_nil ?_
              simp [q1]
              refine n10 _ ?_; clear n10 x10
              refine EW.cond (t := _) (by rfl) (fun hc77 => ?_) (fun hc77 => ?_)
              · simp [q1] at hc77
              · clear hc77
                have ha : ¬ q = 2 → ¬ q = 3 → ¬ q = 5 → ∃ j : Nat, a = j ∧ j < o.limits.length := by
                  intro x2 x3 x5
                  first | (exact absurd (show q = 4 by omega) h4) | (have hb := inB_iff.1 hA; rw [w0] at hb; exact ⟨a.toNat, by omega, by omega⟩)
                have cr := right_ok o lo hi pr q a c h1 h2 (by omega) hg ha
                refine EW.seq fun Ψ11 n11 x11 => ?_
                refine EW.region (gs_cons cr gs_nil) ?_
                simp
                refine n11 _ ?_; clear n11 x11
                refine EW.cond (t := _) (by rfl) (fun hc109 => ?_) (fun hc109 => ?_)
                · have g1 : ¬ rgtB o lo hi pr q a = true := by simpa using hc109
                  rw [if_neg g1] at hR
                  have hv1 : R.1 = 9 := by rw [hR]
                  have hv2 : vlP R = [] := by rw [hR]; rfl
                  refine EW.seq fun Ψ12 n12 x12 => ?_
                  refine EW.region gs_nil ?_
                  simp
                  refine n12 _ ?_; clear n12 x12
                  refine EW.ret ?_
                  refine x4 _ _ rfl ?_; clear n4 x4
                  refine ⟨_, _, _, rfl, ?_, ?_, ?_, ?_, ?_⟩ <;> simp [hv1, hv2]
                · have g1 : rgtB o lo hi pr q a = true := by simpa using hc109
                  rw [if_pos g1] at hR
                  have hv1 : R.1 = 0 := by rw [hR]
                  have hv2 : vlP R = r := by rw [hR]; rfl
                  refine EW.skip ?_
                  refine n4 _ ?_; clear n4 x4
                  refine EW.seq fun Ψ13 n13 x13 => ?_
                  refine EW.region gs_nil ?_
                  simp
                  refine n13 _ ?_; clear n13 x13
                  refine EW.ret ?_
                  refine ⟨_, _, _, rfl, ?_, ?_, ?_, ?_, ?_⟩ <;> simp [hv1, hv2]
        · skip
          refine EW.region (gI_ok gs_nil) ?_
          simp [h4]
          refine n6 _ ?_; clear n6 x6
          refine EW.cond (t := _) (by rfl) (fun hc27 => ?_) (fun hc27 => ?_)
          · simp at hc27
          · clear hc27
            rw [if_neg (by intro h; exact h4 h.1)] at hR
            refine EW.seq fun Ψ14 n14 x14 => ?_
            refine EW.drawn [] mixed (gI_ok gs_nil) (by kernel_rfl) ?_
            simp [q1]
            refine n14 _ ?_; clear n14 x14
            refine EW.cond (t := _) (by rfl) (fun hc54 => ?_) (fun hc54 => ?_)
            · simp [q1] at hc54
            · clear hc54
              refine EW.seq fun Ψ15 n15 x15 => ?_
              refine EW.region gs_nil ?_
              simp [q1]
              refine n15 _ ?_; clear n15 x15
              refine EW.cond (t := _) (by rfl) (fun hc77 => ?_) (fun hc77 => ?_)
              · simp [q1] at hc77
              · clear hc77
                have ha : ¬ q = 2 → ¬ q = 3 → ¬ q = 5 → ∃ j : Nat, a = j ∧ j < o.limits.length := by
                  intro x2 x3 x5
                  first | (exact absurd (show q = 4 by omega) h4) | (have hb := inB_iff.1 hA; rw [w0] at hb; exact ⟨a.toNat, by omega, by omega⟩)
                have cr := right_ok o lo hi pr q a c h1 h2 (by omega) hg ha
                refine EW.seq fun Ψ16 n16 x16 => ?_
                refine EW.region (gs_cons cr gs_nil) ?_
                simp
                refine n16 _ ?_; clear n16 x16
                refine EW.cond (t := _) (by rfl) (fun hc109 => ?_) (fun hc109 => ?_)
                · have g1 : ¬ rgtB o lo hi pr q a = true := by simpa using hc109
                  rw [if_neg g1] at hR
                  have hv1 : R.1 = 9 := by rw [hR]
                  have hv2 : vlP R = [] := by rw [hR]; rfl
                  refine EW.seq fun Ψ17 n17 x17 => ?_
                  refine EW.region gs_nil ?_
                  simp
                  refine n17 _ ?_; clear n17 x17
                  refine EW.ret ?_
                  refine x4 _ _ rfl ?_; clear n4 x4
                  refine ⟨_, _, _, rfl, ?_, ?_, ?_, ?_, ?_⟩ <;> simp [hv1, hv2]
                · have g1 : rgtB o lo hi pr q a = true := by simpa using hc109
                  rw [if_pos g1] at hR
                  have hv1 : R.1 = 0 := by rw [hR]
                  have hv2 : vlP R = r := by rw [hR]; rfl
                  refine EW.skip ?_
                  refine n4 _ ?_; clear n4 x4
                  refine EW.seq fun Ψ18 n18 x18 => ?_
                  refine EW.region gs_nil ?_
                  simp
                  refine n18 _ ?_; clear n18 x18
                  refine EW.ret ?_
                  refine ⟨_, _, _, rfl, ?_, ?_, ?_, ?_, ?_⟩ <;> simp [hv1, hv2]

theorem rver_bad (o : MOrd) (pr : Int) (lo hi : List Int) (q a c : Int) (r : List MBd) (R : Int × List MBd) (hrl : r.length < 1000000) (hq : inB q 1 5 = false) (hR : R = (8, r)) : ACalls Try.prog 77 [.agg [.sl false false .U .no o.limits.length (eInts o.limits), .s (.int .i64 o.least), .s (.int .i64 o.most), .sl false false .U .no o.bins.length (eBins o.bins)], .agg [.sl false false .U .no lo.length (eInts lo), .sl false false .U .no hi.length (eInts hi)], .s (.int .i64 pr), .sl false false .U .no (⟨q, a, c⟩ :: r : List MBd).length (eBds (⟨q, a, c⟩ :: r : List MBd))] [] (.ret (.tup [.sl false false .U .no (vlP R).length (eBds (vlP R)), .s (.int .i64 R.1)]) [] []) := by
  refine acalls_of_ew Try.func77 rfl rfl (by simp [Try.f77]) (rs := [.tmp 8, .tmp 9]) rfl ?_
  refine EW.seq fun Ψ0 n0 x0 => ?_
  refine EW.region gs_nil ?_
  simp
  refine n0 _ ?_; clear n0 x0
  refine EW.seq fun Ψ1 n1 x1 => ?_
  refine EW.seq fun Ψ2 n2 x2 => ?_
  refine EW.region gs_nil ?_
  simp
  refine n2 _ ?_; clear n2 x2
  refine EW.cond (t := _) (by rfl) (fun hc16 => ?_) (fun hc16 => ?_)
  · first | (simp at hc16; done) | (simp at hc16; omega)
  · clear hc16
    refine EW.skip ?_
    refine n1 _ ?_; clear n1 x1
    refine EW.seq fun Ψ3 n3 x3 => ?_
    refine EW.drawn [(2, 5)] mixed gs_nil (by kernel_rfl) ?_
    simp [show (1 : Int) ≤ (r.length : Int) + 1 by omega]
    refine n3 _ ?_; clear n3 x3
    refine EW.seq fun Ψ4 n4 x4 => ?_
    refine EW.block ?_
    refine EW.seq fun Ψ5 n5 x5 => ?_
    refine EW.region (gI_ok gs_nil) ?_
    simp [hq]
    refine n5 _ ?_; clear n5 x5
    refine EW.cond (t := _) (by rfl) (fun hc22 => ?_) (fun hc22 => ?_)
    · clear hc22
      have hv1 : R.1 = 8 := by rw [hR]
      have hv2 : vlP R = [] := by rw [hR]; rfl
      refine EW.seq fun Ψ6 n6 x6 => ?_
      refine EW.region gs_nil ?_
      simp
      refine n6 _ ?_; clear n6 x6
      refine EW.ret ?_
      refine x4 _ _ rfl ?_; clear n4 x4
      refine ⟨_, _, _, rfl, ?_, ?_, ?_, ?_, ?_⟩ <;> simp [hv1, hv2]
    · simp [hq] at hc22

theorem rver_nil (o : MOrd) (pr : Int) (lo hi : List Int) (R : Int × List MBd) (hR : R = (2, [])) : ACalls Try.prog 77 [.agg [.sl false false .U .no o.limits.length (eInts o.limits), .s (.int .i64 o.least), .s (.int .i64 o.most), .sl false false .U .no o.bins.length (eBins o.bins)], .agg [.sl false false .U .no lo.length (eInts lo), .sl false false .U .no hi.length (eInts hi)], .s (.int .i64 pr), .sl false false .U .no 0 []] [] (.ret (.tup [.sl false false .U .no (vlP R).length (eBds (vlP R)), .s (.int .i64 R.1)]) [] []) := by
  refine acalls_of_ew Try.func77 rfl rfl (by simp [Try.f77]) (rs := [.tmp 8, .tmp 9]) rfl ?_
  refine EW.seq fun Ψ0 n0 x0 => ?_
  refine EW.region gs_nil ?_
  simp
  refine n0 _ ?_; clear n0 x0
  refine EW.seq fun Ψ1 n1 x1 => ?_
  refine EW.seq fun Ψ2 n2 x2 => ?_
  refine EW.region gs_nil ?_
  simp
  refine n2 _ ?_; clear n2 x2
  refine EW.cond (t := _) (by rfl) (fun hc16 => ?_) (fun hc16 => ?_)
  · clear hc16
    have hv1 : R.1 = 2 := by rw [hR]
    have hv2 : vlP R = [] := by rw [hR]; rfl
    refine EW.seq fun Ψ3 n3 x3 => ?_
    refine EW.region gs_nil ?_
    simp
    refine n3 _ ?_; clear n3 x3
    refine EW.ret ?_
    refine x1 _ _ rfl ?_; clear n1 x1
    refine ⟨_, _, _, rfl, ?_, ?_, ?_, ?_, ?_⟩ <;> simp [hv1, hv2]
  · simp at hc16

end Go.Ev
end
