/- Lemmas for the claims of this seat: an evaluator over abstract values, its soundness, and the contracts of the functions of melt that it walks; no premise beyond what each theorem states. -/
import Derived.Test.YtdcelpomnboeoaaGreatDoorGAH
import Derived.Test.YtdcelpomnboeoaaGreatDoorGAK
import Derived.Test.YtdcelpomnboeoaaGreatDoorGAJ
import Derived.Test.YtdcelpomnboeoaaGreatDoorGAI

section
set_option linter.all false
open Go Go.Ev Go.Proofs
namespace Go.Ev
set_option linter.unusedSimpArgs false
set_option linter.unusedVariables false


theorem anyBad_cons (n : Int) (l : List Int) : anyBad (n :: l) = (!inB n 0 1000000 || anyBad l) := rfl
def rchkA (o : MOrd) (k : Nat) : St := St.lit 64 [(1, .ptr (.own 1) 0), (3, .s (.int .i64 k))] [(1, aOrdC o)] [] []
def rchkB (o : MOrd) (k : Nat) : St := St.lit 64 [(1, .ptr (.own 1) 0), (4, .s (.int .i64 k))] [(1, aOrdC o)] [] []
attribute [simp] rchkA rchkB

set_option maxHeartbeats 1000000 in
theorem rcheck_ok (o : MOrd) (h1 : (o.limits.length : Int) < 9223372036854775807) (h2 : (o.bins.length : Int) < 9223372036854775807) (h3 : ∀ b ∈ o.bins, (b.grams.length : Int) < 9223372036854775807) : ACalls Tryz.prog 51 [.agg [.sl false false .U .no o.limits.length (eInts o.limits), .s (.int .i64 o.least), .s (.int .i64 o.most), .sl false false .U .no o.bins.length (eBins o.bins)]] [] (.ret (.s (.int .i64 (ordErr o))) [] []) := by
  refine acalls_of_ew Tryz.func51 rfl rfl (by simp [Tryz.f51]) (rs := [.tmp 2]) rfl ?_
  refine EW.seq fun Ψ0 n0 x0 => ?_
  refine EW.region gs_nil ?_
  simp
  refine n0 _ ?_; clear n0 x0
  refine EW.seq fun Ψ1 n1 x1 => ?_
  refine EW.seq fun Ψ2 n2 x2 => ?_
  refine EW.region gs_nil ?_
  simp
  refine n2 _ ?_; clear n2 x2
  refine EW.cond (t := _) (by rfl) (fun hc9 => ?_) (fun hc9 => ?_)
  · have g1 : 3 < o.limits.length := by simp at hc9; omega
    have hv : ordErr o = 6 := by simp [ordErr, g1]
    refine EW.seq fun Ψ3 n3 x3 => ?_
    refine EW.region gs_nil ?_
    simp
    refine n3 _ ?_; clear n3 x3
    refine EW.ret ?_
    refine x1 _ _ rfl ?_; clear n1 x1
    refine ⟨_, _, _, rfl, ?_, ?_, ?_, ?_, ?_⟩ <;> simp [hv]
  · have g1 : ¬ 3 < o.limits.length := by simp at hc9; omega
    refine EW.skip ?_
    refine n1 _ ?_; clear n1 x1
    refine EW.seq fun Ψ4 n4 x4 => ?_
    refine EW.seq fun Ψ5 n5 x5 => ?_
    refine EW.region gs_nil ?_
    simp
    refine n5 _ ?_; clear n5 x5
    refine EW.block ?_
    refine EW.loopA (rchkA o) (fun k => k ≤ o.limits.length ∧ anyBad (o.limits.drop k) = anyBad o.limits) (fun k => o.limits.length - k) 0 (St.le_lit rfl (by simp) (by simp) (by simp) (by simp) (by simp)) ?_ fun p hk => ?_
    · simp
    rename Nat => k
    obtain ⟨hk, hw⟩ := hk
    refine EW.seq fun Ψ6 n6 x6 => ?_
    refine EW.seq fun Ψ7 n7 x7 => ?_
    refine EW.region gs_nil ?_
    simp
    refine n7 _ ?_; clear n7 x7
    refine EW.cond (t := _) (by rfl) (fun hc14 => ?_) (fun hc14 => ?_)
    · simp at hc14
      have e1 : o.limits[k]? = some o.limits[k] := List.getElem?_eq_getElem hc14
      refine EW.skip ?_
      refine n6 _ ?_; clear n6 x6
      refine EW.seq fun Ψ8 n8 x8 => ?_
      refine EW.block ?_
      refine EW.seq fun Ψ9 n9 x9 => ?_
      cases q0 : inB o.limits[k] 0 1000000
      · skip
        refine EW.region (gI_ok gs_nil) ?_
        simp [hc14, e1, q0]
        refine n9 _ ?_; clear n9 x9
        refine EW.cond (t := _) (by rfl) (fun hc23 => ?_) (fun hc23 => ?_)
        · simp at hc23
          have g2 : anyBad o.limits = true := by rw [← hw, List.drop_eq_getElem_cons hc14, anyBad_cons, q0]; rfl
          have hv : ordErr o = 1 := by simp [ordErr, g1, g2]
          refine EW.seq fun Ψ10 n10 x10 => ?_
          refine EW.region gs_nil ?_
          simp
          refine n10 _ ?_; clear n10 x10
          refine EW.ret ?_
          refine x8 _ _ rfl ?_; clear n8 x8
          refine x4 _ _ rfl ?_; clear n4 x4
          refine ⟨_, _, _, rfl, ?_, ?_, ?_, ?_, ?_⟩ <;> simp [hv]
        · simp at hc23
      · skip
        refine EW.region (gI_ok gs_nil) ?_
        simp [hc14, e1, q0]
        refine n9 _ ?_; clear n9 x9
        refine EW.cond (t := _) (by rfl) (fun hc23 => ?_) (fun hc23 => ?_)
        · simp at hc23
        · simp at hc23
          refine EW.skip ?_
          refine n8 _ ?_; clear n8 x8
          refine EW.hide fun Ψ11 n11 => ?_
          refine EW.region gs_nil ?_
          simp
          refine n11 _ _ ?_; clear n11
          have e3 : IntKind.i64.wrap ((k : Int) + 1) = k + 1 := wr_small (by omega) (by omega)
          refine ⟨k + 1, (St.le_lit rfl (by simp [e3]) (by simp) (by simp) (by simp) (by simp)), ?_, ?_⟩
          · refine ⟨hc14, ?_⟩
            rw [← hw, List.drop_eq_getElem_cons hc14, anyBad_cons, q0]; rfl
          · omega
    · simp at hc14
      have g2 : ¬ anyBad o.limits = true := by rw [← hw, List.drop_of_length_le (by omega)]; simp [anyBad]
      refine EW.exit ?_
      refine x6 _ _ rfl ?_; clear n6 x6
      refine n4 _ ?_; clear n4 x4
      refine EW.seq fun Ψ12 n12 x12 => ?_
      refine EW.seq fun Ψ13 n13 x13 => ?_
      rcases bor2 (inB o.least 0 240000) (inB o.most 0 240000) with q1 | ⟨q1, q2⟩ | ⟨q1, q2⟩
      · skip
        refine EW.region (gI_ok gs_nil) ?_
        simp [q1]
        refine n13 _ ?_; clear n13 x13
        refine EW.cond (t := _) (by rfl) (fun hc33 => ?_) (fun hc33 => ?_)
        · simp at hc33
          have hv : ordErr o = 1 := by simp [ordErr, g1, g2, q1]
          refine EW.seq fun Ψ14 n14 x14 => ?_
          refine EW.region gs_nil ?_
          simp
          refine n14 _ ?_; clear n14 x14
          refine EW.ret ?_
          refine x12 _ _ rfl ?_; clear n12 x12
          refine ⟨_, _, _, rfl, ?_, ?_, ?_, ?_, ?_⟩ <;> simp [hv]
        · simp at hc33
      · skip
        refine EW.region (gI_ok gs_nil) ?_
        simp [q1, q2]
        refine n13 _ ?_; clear n13 x13
        refine EW.cond (t := _) (by rfl) (fun hc33 => ?_) (fun hc33 => ?_)
        · simp at hc33
          have hv : ordErr o = 1 := by simp [ordErr, g1, g2, q1, q2]
          refine EW.seq fun Ψ15 n15 x15 => ?_
          refine EW.region gs_nil ?_
          simp
          refine n15 _ ?_; clear n15 x15
          refine EW.ret ?_
          refine x12 _ _ rfl ?_; clear n12 x12
          refine ⟨_, _, _, rfl, ?_, ?_, ?_, ?_, ?_⟩ <;> simp [hv]
        · simp at hc33
      · skip
        refine EW.region (gI_ok gs_nil) ?_
        simp [q1, q2]
        refine n13 _ ?_; clear n13 x13
        refine EW.cond (t := _) (by rfl) (fun hc33 => ?_) (fun hc33 => ?_)
        · simp at hc33
        · simp at hc33
          refine EW.skip ?_
          refine n12 _ ?_; clear n12 x12
          refine EW.seq fun Ψ16 n16 x16 => ?_
          refine EW.seq fun Ψ17 n17 x17 => ?_
          refine EW.region gs_nil ?_
          simp
          refine n17 _ ?_; clear n17 x17
          refine EW.cond (t := _) (by rfl) (fun hc38 => ?_) (fun hc38 => ?_)
          · simp at hc38
            have hv : ordErr o = 5 := by simp [ordErr, g1, g2, q1, q2, hc38]
            refine EW.seq fun Ψ18 n18 x18 => ?_
            refine EW.region gs_nil ?_
            simp
            refine n18 _ ?_; clear n18 x18
            refine EW.ret ?_
            refine x16 _ _ rfl ?_; clear n16 x16
            refine ⟨_, _, _, rfl, ?_, ?_, ?_, ?_, ?_⟩ <;> simp [hv]
          · simp at hc38
            have g3 : ¬ o.most < o.least := by omega
            refine EW.skip ?_
            refine n16 _ ?_; clear n16 x16
            refine EW.seq fun Ψ19 n19 x19 => ?_
            refine EW.seq fun Ψ20 n20 x20 => ?_
            refine EW.region gs_nil ?_
            simp
            refine n20 _ ?_; clear n20 x20
            refine EW.cond (t := _) (by rfl) (fun hc42 => ?_) (fun hc42 => ?_)
            · have g4 : o.bins.length = 0 := by simp at hc42; simp [hc42]
              have hv : ordErr o = 7 := by unfold ordErr; rw [if_neg g1, if_neg g2, if_neg (by simp [q1, q2]), if_neg g3, if_pos g4]
              refine EW.seq fun Ψ21 n21 x21 => ?_
              refine EW.region gs_nil ?_
              simp
              refine n21 _ ?_; clear n21 x21
              refine EW.ret ?_
              refine x19 _ _ rfl ?_; clear n19 x19
              refine ⟨_, _, _, rfl, ?_, ?_, ?_, ?_, ?_⟩ <;> simp [hv]
            · have g4 : ¬ o.bins.length = 0 := by simpa using hc42
              refine EW.skip ?_
              refine n19 _ ?_; clear n19 x19
              refine EW.seq fun Ψ22 n22 x22 => ?_
              refine EW.seq fun Ψ23 n23 x23 => ?_
              refine EW.region gs_nil ?_
              simp
              refine n23 _ ?_; clear n23 x23
              refine EW.cond (t := _) (by rfl) (fun hc46 => ?_) (fun hc46 => ?_)
              · have g5 : 4 < o.bins.length := by simp at hc46; omega
                have hv : ordErr o = 6 := by unfold ordErr; rw [if_neg g1, if_neg g2, if_neg (by simp [q1, q2]), if_neg g3, if_neg g4, if_pos g5]
                refine EW.seq fun Ψ24 n24 x24 => ?_
                refine EW.region gs_nil ?_
                simp
                refine n24 _ ?_; clear n24 x24
                refine EW.ret ?_
                refine x22 _ _ rfl ?_; clear n22 x22
                refine ⟨_, _, _, rfl, ?_, ?_, ?_, ?_, ?_⟩ <;> simp [hv]
              · have g5 : ¬ 4 < o.bins.length := by simp at hc46; omega
                have hE : ordErr o = binsErr o.limits.length o.bins := by unfold ordErr; rw [if_neg g1, if_neg g2, if_neg (by simp [q1, q2]), if_neg g3, if_neg g4, if_neg g5]
                refine EW.skip ?_
                refine n22 _ ?_; clear n22 x22
                refine EW.seq fun Ψ25 n25 x25 => ?_
                refine EW.seq fun Ψ26 n26 x26 => ?_
                refine EW.region gs_nil ?_
                simp
                refine n26 _ ?_; clear n26 x26
                refine EW.block ?_
                refine EW.loopA (rchkB o) (fun k => k ≤ o.bins.length ∧ binsErr o.limits.length (o.bins.drop k) = binsErr o.limits.length o.bins) (fun k => o.bins.length - k) 0 (St.le_lit rfl (by simp) (by simp) (by simp) (by simp) (by simp)) ?_ fun p hk => ?_
                · simp
                rename Nat => k
                obtain ⟨hk, hw⟩ := hk
                refine EW.seq fun Ψ27 n27 x27 => ?_
                refine EW.seq fun Ψ28 n28 x28 => ?_
                refine EW.region gs_nil ?_
                simp
                refine n28 _ ?_; clear n28 x28
                refine EW.cond (t := _) (by rfl) (fun hc51 => ?_) (fun hc51 => ?_)
                · simp at hc51
                  have e1 : o.bins[k]? = some o.bins[k] := List.getElem?_eq_getElem hc51
                  have h4 := h3 o.bins[k] (List.getElem_mem hc51)
                  refine EW.skip ?_
                  refine n27 _ ?_; clear n27 x27
                  refine EW.seq fun Ψ29 n29 x29 => ?_
                  refine EW.block ?_
                  refine EW.seq fun Ψ30 n30 x30 => ?_
                  refine EW.drawn [] mixed (gs_cons (rcheckBin_ok o o.bins[k] h4) gs_nil) (by kernel_rfl) ?_
                  simp [hc51, e1, eBins_atm _ _ _ _ _ e1, show 4 ≤ o.bins.length * 4 - k * 4 by omega]
                  refine n30 _ ?_; clear n30 x30
                  refine EW.seq fun Ψ31 n31 x31 => ?_
                  refine EW.region gs_nil ?_
                  simp
                  refine n31 _ ?_; clear n31 x31
                  refine EW.cond (t := _) (by rfl) (fun hc62 => ?_) (fun hc62 => ?_)
                  · have g6 : ¬ binErr o.limits.length o.bins[k] = 0 := by simpa using hc62
                    have hv : ordErr o = binErr o.limits.length o.bins[k] := by rw [hE, ← hw, List.drop_eq_getElem_cons hc51]; simp [binsErr, g6]
                    refine EW.seq fun Ψ32 n32 x32 => ?_
                    refine EW.region gs_nil ?_
                    simp
                    refine n32 _ ?_; clear n32 x32
                    refine EW.ret ?_
                    refine x29 _ _ rfl ?_; clear n29 x29
                    refine x25 _ _ rfl ?_; clear n25 x25
                    refine ⟨_, _, _, rfl, ?_, ?_, ?_, ?_, ?_⟩ <;> simp [hv]
                  · have g6 : binErr o.limits.length o.bins[k] = 0 := by simpa using hc62
                    refine EW.skip ?_
                    refine n29 _ ?_; clear n29 x29
                    refine EW.hide fun Ψ33 n33 => ?_
                    refine EW.region gs_nil ?_
                    simp
                    refine n33 _ _ ?_; clear n33
                    have e3 : IntKind.i64.wrap ((k : Int) + 1) = k + 1 := wr_small (by omega) (by omega)
                    refine ⟨k + 1, (St.le_lit rfl (by simp [e3]) (by simp) (by simp) (by simp) (by simp)), ?_, ?_⟩
                    · refine ⟨hc51, ?_⟩
                      rw [← hw, List.drop_eq_getElem_cons hc51]; simp [binsErr, g6]
                    · omega
                · simp at hc51
                  have hv : ordErr o = 0 := by rw [hE, ← hw, List.drop_of_length_le (by omega)]; rfl
                  refine EW.exit ?_
                  refine x27 _ _ rfl ?_; clear n27 x27
                  refine n25 _ ?_; clear n25 x25
                  refine EW.seq fun Ψ34 n34 x34 => ?_
                  refine EW.region gs_nil ?_
                  simp
                  refine n34 _ ?_; clear n34 x34
                  refine EW.ret ?_
                  refine ⟨_, _, _, rfl, ?_, ?_, ?_, ?_, ?_⟩ <;> simp [hv]

end Go.Ev
end

section
set_option linter.all false
open Go Go.Ev Go.Proofs
namespace Go.Ev
set_option linter.unusedSimpArgs false
set_option linter.unusedVariables false


def rkS (o : MOrd) (l : List Int) (q : Bool) (p : Nat × Int × Int) : St :=
  St.lit 27 [(1, .sl false false .U .no l.length (eInts l)), (2, .ptr (.own 2) 0), (6, .s (.int .i64 p.1)), (5, .s (.int .i64 (if q then p.2.2 else p.2.1)))] [(2, aOrdC o)] [] []
attribute [simp] rkS

theorem rkilos_ok (o : MOrd) (l : List Int) (hb : l.length ≤ o.bins.length) (hl : (l.length : Int) < 9223372036854775807) : ACalls Tryz.prog 73 [.agg [.sl false false .U .no o.limits.length (eInts o.limits), .s (.int .i64 o.least), .s (.int .i64 o.most), .sl false false .U .no o.bins.length (eBins o.bins)], .sl false false .U .no l.length (eInts l)] [] (.ret (.s (.int .i64 (weighL o.bins l 0 0 0).1)) [] []) := by
  refine acalls_of_ew Tryz.func73 rfl rfl (by simp [Tryz.f73]) (rs := [.tmp 4]) rfl ?_
  refine EW.seq fun Ψ0 n0 x0 => ?_
  refine EW.region gs_nil ?_
  simp
  refine n0 _ ?_; clear n0 x0
  refine EW.seq fun Ψ1 n1 x1 => ?_
  refine EW.region gs_nil ?_
  simp
  refine n1 _ ?_; clear n1 x1
  refine EW.seq fun Ψ2 n2 x2 => ?_
  refine EW.seq fun Ψ3 n3 x3 => ?_
  refine EW.region gs_nil ?_
  simp
  refine n3 _ ?_; clear n3 x3
  refine EW.block ?_
  refine EW.loopA (rkS o l false) (fun p => p.1 ≤ l.length ∧ weighL o.bins (l.drop p.1) p.1 p.2.1 p.2.2 = weighL o.bins l 0 0 0) (fun p => l.length - p.1) (0, 0, 0) (St.le_lit rfl (by simp) (by simp) (by simp) (by simp) (by simp)) ?_ fun p hk => ?_
  · simp
  obtain ⟨k, a, b⟩ := p
  obtain ⟨hk, hw⟩ := hk
  simp only at hk hw
  refine EW.seq fun Ψ4 n4 x4 => ?_
  refine EW.seq fun Ψ5 n5 x5 => ?_
  refine EW.region gs_nil ?_
  simp
  refine n5 _ ?_; clear n5 x5
  refine EW.cond (t := _) (by rfl) (fun hc10 => ?_) (fun hc10 => ?_)
  · simp at hc10
    have hkl : k < o.bins.length := by omega
    have e1 : l[k]? = some l[k] := List.getElem?_eq_getElem hc10
    have e2 : o.bins[k]? = some o.bins[k] := List.getElem?_eq_getElem hkl
    refine EW.skip ?_
    refine n4 _ ?_; clear n4 x4
    refine EW.seq fun Ψ6 n6 x6 => ?_
    refine EW.block ?_
    refine EW.hide fun Ψ7 n7 => ?_
    refine EW.drawn [] mixed gs_nil (by kernel_rfl) ?_
    simp [hc10, e1, hkl, e2]
    refine n7 _ _ ?_; clear n7
    refine n6 _ ?_; clear n6 x6
    refine EW.hide fun Ψ8 n8 => ?_
    refine EW.region gs_nil ?_
    simp
    refine n8 _ _ ?_; clear n8
    have e3 : IntKind.i64.wrap ((k : Int) + 1) = k + 1 := wr_small (by omega) (by omega)
    refine ⟨(k + 1, wr (a + wr (l[k] * o.bins[k].w)), wr (b + wr (l[k] * o.bins[k].c))), (St.le_lit rfl (by simp [e3]) (by simp) (by simp) (by simp) (by simp)), ?_, ?_⟩
    · refine ⟨hc10, ?_⟩
      rw [← hw, List.drop_eq_getElem_cons hc10]; simp [weighL, hkl]
    · simp; omega
  · simp at hc10
    have hkl : k = l.length := by omega
    subst hkl
    simp [weighL] at hw
    refine EW.exit ?_
    refine x4 _ _ rfl ?_; clear n4 x4
    refine n2 _ ?_; clear n2 x2
    refine EW.seq fun Ψ9 n9 x9 => ?_
    refine EW.region gs_nil ?_
    simp
    refine n9 _ ?_; clear n9 x9
    refine EW.ret ?_
    refine ⟨_, _, _, rfl, ?_, ?_, ?_, ?_, ?_⟩ <;> simp [← hw]

theorem rcost_ok (o : MOrd) (l : List Int) (hb : l.length ≤ o.bins.length) (hl : (l.length : Int) < 9223372036854775807) : ACalls Tryz.prog 74 [.agg [.sl false false .U .no o.limits.length (eInts o.limits), .s (.int .i64 o.least), .s (.int .i64 o.most), .sl false false .U .no o.bins.length (eBins o.bins)], .sl false false .U .no l.length (eInts l)] [] (.ret (.s (.int .i64 (weighL o.bins l 0 0 0).2)) [] []) := by
  refine acalls_of_ew Tryz.func74 rfl rfl (by simp [Tryz.f74]) (rs := [.tmp 4]) rfl ?_
  refine EW.seq fun Ψ0 n0 x0 => ?_
  refine EW.region gs_nil ?_
  simp
  refine n0 _ ?_; clear n0 x0
  refine EW.seq fun Ψ1 n1 x1 => ?_
  refine EW.region gs_nil ?_
  simp
  refine n1 _ ?_; clear n1 x1
  refine EW.seq fun Ψ2 n2 x2 => ?_
  refine EW.seq fun Ψ3 n3 x3 => ?_
  refine EW.region gs_nil ?_
  simp
  refine n3 _ ?_; clear n3 x3
  refine EW.block ?_
  refine EW.loopA (rkS o l true) (fun p => p.1 ≤ l.length ∧ weighL o.bins (l.drop p.1) p.1 p.2.1 p.2.2 = weighL o.bins l 0 0 0) (fun p => l.length - p.1) (0, 0, 0) (St.le_lit rfl (by simp) (by simp) (by simp) (by simp) (by simp)) ?_ fun p hk => ?_
  · simp
  obtain ⟨k, a, b⟩ := p
  obtain ⟨hk, hw⟩ := hk
  simp only at hk hw
  refine EW.seq fun Ψ4 n4 x4 => ?_
  refine EW.seq fun Ψ5 n5 x5 => ?_
  refine EW.region gs_nil ?_
  simp
  refine n5 _ ?_; clear n5 x5
  refine EW.cond (t := _) (by rfl) (fun hc10 => ?_) (fun hc10 => ?_)
  · simp at hc10
    have hkl : k < o.bins.length := by omega
    have e1 : l[k]? = some l[k] := List.getElem?_eq_getElem hc10
    have e2 : o.bins[k]? = some o.bins[k] := List.getElem?_eq_getElem hkl
    refine EW.skip ?_
    refine n4 _ ?_; clear n4 x4
    refine EW.seq fun Ψ6 n6 x6 => ?_
    refine EW.block ?_
    refine EW.hide fun Ψ7 n7 => ?_
    refine EW.drawn [] mixed gs_nil (by kernel_rfl) ?_
    simp [hc10, e1, hkl, e2]
    refine n7 _ _ ?_; clear n7
    refine n6 _ ?_; clear n6 x6
    refine EW.hide fun Ψ8 n8 => ?_
    refine EW.region gs_nil ?_
    simp
    refine n8 _ _ ?_; clear n8
    have e3 : IntKind.i64.wrap ((k : Int) + 1) = k + 1 := wr_small (by omega) (by omega)
    refine ⟨(k + 1, wr (a + wr (l[k] * o.bins[k].w)), wr (b + wr (l[k] * o.bins[k].c))), (St.le_lit rfl (by simp [e3]) (by simp) (by simp) (by simp) (by simp)), ?_, ?_⟩
    · refine ⟨hc10, ?_⟩
      rw [← hw, List.drop_eq_getElem_cons hc10]; simp [weighL, hkl]
    · simp; omega
  · simp at hc10
    have hkl : k = l.length := by omega
    subst hkl
    simp [weighL] at hw
    refine EW.exit ?_
    refine x4 _ _ rfl ?_; clear n4 x4
    refine n2 _ ?_; clear n2 x2
    refine EW.seq fun Ψ9 n9 x9 => ?_
    refine EW.region gs_nil ?_
    simp
    refine n9 _ ?_; clear n9 x9
    refine EW.ret ?_
    refine ⟨_, _, _, rfl, ?_, ?_, ?_, ?_, ?_⟩ <;> simp [← hw]


def rcbkS (o : MOrd) (l : List Int) (k : Nat) : St :=
  St.lit 36 [(1, .sl false false .U .no l.length (eInts l)), (2, .ptr (.own 2) 0), (6, .s (.int .i64 k))] [(2, aOrdC o)] [] []
attribute [simp] rcbkS
theorem rcheck_ok' (o : MOrd) (h : szO o) : ACalls Tryz.prog 51 [.agg [.sl false false .U .no o.limits.length (eInts o.limits), .s (.int .i64 o.least), .s (.int .i64 o.most), .sl false false .U .no o.bins.length (eBins o.bins)]] [] (.ret (.s (.int .i64 (ordErr o))) [] []) :=
  rcheck_ok o (by have := h.1; omega) (by have := h.2.1; omega) (fun b hb => by have := h.2.2 b hb; omega)

theorem blendErr_len {o : MOrd} {l : List Int} (g1 : blendErr o l = 0) : l.length ≤ o.bins.length := Nat.le_of_eq (blendErr_ord o l g1).2

/-- Whether a blend keeps all limits with one end of all ranges. -/
def holdL (q : Bool) (o : MOrd) (l : List Int) : Nat → Nat → Bool
  | 0, _ => true
  | n + 1, j => if 0 < beyL q o.limits o.bins j l 0 0 then false else holdL q o l n (j + 1)
def holdV (q : Bool) (o : MOrd) (l : List Int) : Bool := holdL q o l o.limits.length 0
def hoE (l : List Int) (q : Bool) (j : Nat) (r : List (Nat × AV)) : List (Nat × AV) := (1, .sl false false .U .no l.length (eInts l)) :: (2, .s (.bool q)) :: (3, .ptr (.own 3) 0) :: (7, .s (.int .i64 j)) :: r
def hoS0 (o : MOrd) (l : List Int) (q : Bool) (j : Nat) : St := St.lit 68 (hoE l q j []) [(3, aOrdC o)] [] []
def hoS1 (o : MOrd) (l : List Int) (q : Bool) (j : Nat) (p : Nat × Int) : St := St.lit 68 (hoE l q j [(8, .s (.int .i64 p.2)), (9, .s (.int .i64 p.1))]) [(3, aOrdC o)] [] []
attribute [simp] hoE hoS0 hoS1

def keepR (o : MOrd) (l : List Int) : Int := if holdV true o l = true then 1 else if holdV false o l = true then 3 else 2

def goodR (o : MOrd) (l : List Int) : Bool := inB (weighL o.bins l 0 0 0).1 o.least o.most && holdV true o l

end Go.Ev
end

section
set_option linter.all false
open Go Go.Ev Go.Proofs
namespace Go.Ev
set_option linter.unusedSimpArgs false
set_option linter.unusedVariables false


open Classical in
noncomputable def gRc (o : MOrd) : List AV → List (List AV) → Option Out
  | [a, .sl false false .U .no n cs], [] => if a = .agg [.sl false false .U .no o.limits.length (eInts o.limits), .s (.int .i64 o.least), .s (.int .i64 o.most), .sl false false .U .no o.bins.length (eBins o.bins)] ∧ n = (dInts cs).length ∧ cs = eInts (dInts cs) ∧ (dInts cs).length ≤ o.bins.length ∧ (dInts cs).length < 1000000000 then some (.ret (.s (.int .i64 (weighL o.bins (dInts cs) 0 0 0).2)) [] []) else none
  | _, _ => none
theorem gRc_ok (o : MOrd) : ∀ a e out, gRc o a e = some out → ACalls Tryz.prog 74 a e out := by
  intro a e out h
  unfold gRc at h
  split at h
  · rename_i n cs
    split at h
    · rename_i hc
      obtain ⟨rfl, rfl, h0, h1, h2⟩ := hc
      cases h
      generalize dInts cs = l at h0 h1 h2 ⊢
      subst h0
      exact rcost_ok o _ h1 (by omega)
    · cases h
  · cases h
attribute [simp] gRc
def nextR (o : MOrd) (s : List Int × Bool) (x : List Int) : List Int × Bool :=
  if goodR o x = true ∧ (s.2 = false ∨ (weighL o.bins x 0 0 0).2 < (weighL o.bins s.1 0 0 0).2) then (x, true) else s
def rchS (o : MOrd) (all : List (List Int)) (p : Nat × List Int × Bool) : St :=
  St.lit 44 [(1, .ptr (.own 1) 0), (4, .sl false false .U .no p.2.1.length (eInts p.2.1)), (5, .s (.bool p.2.2)), (6, .sl false false .U .no all.length (eLL all)), (7, .s (.int .i64 p.1))] [(1, aOrdC o)] [] []
attribute [simp] rchS
def rchR (o : MOrd) : List Int × Bool := (allB o.bins []).foldl (nextR o) ([], false)
theorem four (g s : Bool) (p : Prop) [Decidable p] : g = false ∨ (g = true ∧ s = false) ∨ (g = true ∧ s = true ∧ p) ∨ (g = true ∧ s = true ∧ ¬ p) := by
  cases g <;> cases s <;> by_cases p <;> simp [*]

end Go.Ev
end

section
set_option linter.all false
open Go Go.Ev Go.Proofs
namespace Go.Ev
set_option linter.unusedSimpArgs false
set_option linter.unusedVariables false


theorem keepL_hold (o : MOrd) (l : List Int) : ∀ (n j : Nat) (v : Int), keepL o l n j v = if holdL false o l n j = false then 2 else if holdL true o l n j = false then 3 else v
  | 0, j, v => by simp [keepL, holdL]
  | n + 1, j, v => by
    rw [keepL, holdL, holdL, keepL_hold o l n (j + 1)]
    by_cases h1 : 0 < beyL false o.limits o.bins j l 0 0 <;> by_cases h2 : 0 < beyL true o.limits o.bins j l 0 0 <;> simp [h1, h2]
theorem holdL_mono {o : MOrd} {l : List Int} (k : OkO o) (kb : okBl o l) : ∀ (n j : Nat), j + n ≤ o.limits.length → holdL true o l n j = true → holdL false o l n j = true
  | 0, j, _, _ => rfl
  | n + 1, j, h, ht => by
    have e := sum_in k kb (endG_in k l true) j (by omega)
    rw [holdL] at ht ⊢
    split at ht
    · cases ht
    · rw [if_neg (by omega)]
      exact holdL_mono k kb n (j + 1) (by omega) ht
theorem keepV_R {o : MOrd} {l : List Int} (k : OkO o) (kb : okBl o l) : keepR o l = keepV o l := by
  have m := holdL_mono k kb o.limits.length 0 (by omega)
  rw [keepV, keepL_hold, keepR, holdV, holdV]
  cases h1 : holdL true o l o.limits.length 0 <;> cases h2 : holdL false o l o.limits.length 0 <;> simp_all
theorem keepV_1 {o : MOrd} {l : List Int} (k : OkO o) (kb : okBl o l) : (keepV o l = 1) ↔ holdV true o l = true := by
  rw [← keepV_R k kb, keepR]
  by_cases h1 : holdV true o l = true <;> by_cases h2 : holdV false o l = true <;> simp [h1, h2]
theorem grabErr_ok (bins : List MBin) : ∀ (l : List Int) (i : Nat), l.length + i ≤ bins.length → grabErr bins l i = 0 → ∀ (k : Nat) (h : i + k < bins.length) (h' : k < l.length), 0 ≤ l[k] ∧ l[k] ≤ bins[i + k].g
  | [], i, _, _, k, _, h' => by simp at h'
  | n :: l, i, h, he, k, h1, h2 => by
    simp only [List.length_cons] at h
    have hi : i < bins.length := by omega
    simp only [grabErr, List.getElem?_eq_getElem hi] at he
    split at he
    · rename_i hin
      cases k with
      | zero => simpa using inB_iff.1 hin
      | succ k =>
        have := grabErr_ok bins l (i + 1) (by omega) he k (by omega) (by simpa using h2)
        simpa [Nat.add_assoc, Nat.add_comm 1 k] using this
    · cases he
theorem blendErr_ok {o : MOrd} {l : List Int} (h : blendErr o l = 0) : OkO o ∧ okBl o l := by
  obtain ⟨h1, h2⟩ := blendErr_ord o l h
  refine ⟨ordErr_ok h1, h2, fun i q1 q2 => ?_⟩
  rw [blendErr, if_pos h1, if_pos h2] at h
  have := grabErr_ok _ _ 0 (by omega) h i (by omega) q2
  simpa using this
theorem goodR_B {o : MOrd} {x : List Int} (k : OkO o) (kb : okBl o x) : goodR o x = goodB o x := by
  unfold goodR goodB
  have := keepV_1 k kb
  by_cases h1 : o.least ≤ nW o x <;> by_cases h2 : nW o x ≤ o.most <;> by_cases h3 : holdV true o x = true <;> simp_all [inB]
def simR (o : MOrd) (s : List Int × Int) (t : List Int × Bool) : Prop := t.1 = s.1 ∧ (t.2 = false ↔ s.1.length = 0) ∧ (t.2 = true → s.2 = cW o s.1)
theorem simR_step {o : MOrd} (k : OkO o) {s : List Int × Int} {t : List Int × Bool} (h : simR o s t) {x : List Int} (kb : okBl o x) : simR o (nextC o s x) (nextR o t x) := by
  obtain ⟨s1, s2⟩ := s
  obtain ⟨t1, t2⟩ := t
  obtain ⟨h1, h2, h3⟩ := h
  simp only at h1 h2 h3
  subst h1
  have hx : x.length ≠ 0 := by
    rw [kb.1]; intro h0; exact k.ne (List.length_eq_zero_iff.1 h0)
  rw [nextC_good, nextR, goodR_B k kb]
  have hcond : (goodB o x = true ∧ (t2 = false ∨ cW o x < cW o t1)) ↔ (goodB o x = true ∧ (t1.length = 0 ∨ cW o x < s2)) := by
    refine and_congr_right fun _ => ?_
    cases t2 with
    | false => simp [h2.1 rfl]
    | true =>
      have : ¬ t1.length = 0 := fun e => by cases h2.2 e
      simp only [this, false_or, Bool.true_eq_false, h3 rfl]
  show simR o (if goodB o x = true ∧ (t1.length = 0 ∨ cW o x < s2) then (x, cW o x) else (t1, s2)) (if goodB o x = true ∧ (t2 = false ∨ cW o x < cW o t1) then (x, true) else (t1, t2))
  by_cases hc : goodB o x = true ∧ (t1.length = 0 ∨ cW o x < s2)
  · rw [if_pos hc, if_pos (hcond.2 hc)]
    exact ⟨rfl, ⟨fun e => (by cases e), fun e => absurd e hx⟩, fun _ => rfl⟩
  · rw [if_neg hc, if_neg (fun q => hc (hcond.1 q))]
    exact ⟨rfl, h2, h3⟩
theorem simR_all {o : MOrd} (k : OkO o) : ∀ (L : List (List Int)) (s : List Int × Int) (t : List Int × Bool), (∀ x ∈ L, okBl o x) → simR o s t → simR o (L.foldl (nextC o) s) (L.foldl (nextR o) t)
  | [], s, t, _, h => h
  | x :: L, s, t, hL, h => simR_all k L _ _ (fun y hy => hL y (by simp [hy])) (simR_step k h (hL x (by simp)))
theorem rch_sim {o : MOrd} (k : OkO o) : simR o (cheapR o) (rchR o) := by
  rw [cheapR, bFold_all, rchR]
  exact simR_all k _ _ _ (fun x hx => all_ok hx) ⟨rfl, by simp, by simp⟩
theorem all_len4 {o : MOrd} (k : OkO o) : (allB o.bins []).length < 1000000 := by
  have q := allB_len (N := 0) o.bins [] (fun b hb => (k.bin b hb).g)
  have q2 : 7 ^ o.bins.length ≤ 7 ^ 4 := Nat.pow_le_pow_right (by decide) k.nb
  omega
theorem cheapR_len {o : MOrd} (k : OkO o) : (cheapR o).1.length ≤ o.bins.length := by
  rcases cheap_FS k with ⟨h, _⟩ | ⟨h, _⟩
  · rw [h]; simp
  · rw [(all_ok h).1]; exact Nat.le_refl _
theorem cheapR_cost {o : MOrd} (k : OkO o) (h : ¬ (cheapR o).1.length = 0) : (cheapR o).2 = cW o (cheapR o).1 := by
  rcases cheap_FS k with ⟨e, _⟩ | ⟨_, _, e, _⟩
  · rw [e] at h; exact absurd rfl h
  · exact e

def hugeL : List MBin → Nat → Bool
  | [], _ => false
  | b :: l, i => if i < 20 then if 20 < b.grams.length then true else hugeL l (i + 1) else false
def hugeB (o : MOrd) : Bool := hugeL o.bins 0 || (decide (20 < o.limits.length) || decide (20 < o.bins.length))
def huS (o : MOrd) (k : Nat) : St := St.lit 33 [(1, .ptr (.own 1) 0), (3, .s (.int .i64 k))] [(1, aOrdC o)] [] []
attribute [simp] huS

end Go.Ev
end

section
set_option linter.all false
open Go Go.Ev Go.Proofs
namespace Go.Ev
set_option linter.unusedSimpArgs false
set_option linter.unusedVariables false


def copyS (o : MOrd) (p : Nat × List MBin) : St :=
  St.lit 35 [(1, .ptr (.own 1) 0), (2, .ptr (.own 2) 0), (3, .ptr (.own 3) 0), (4, .s (.int .i64 p.1))] [(1, aOrdC o), (2, [AV.nilsl, .s (.int .i64 0), .s (.int .i64 0), AV.nilsl]),
    (3, [.sl false false .E .no o.limits.length (eInts o.limits), .s (.int .i64 o.least), .s (.int .i64 o.most), .sl false false .Z (.tok 32) p.2.length (eBins p.2)])] [] [(32, (p.2.length, 4))]
attribute [simp] copyS

end Go.Ev
end

section
set_option linter.all false
open Go Go.Ev Go.Proofs
namespace Go.Ev
set_option linter.unusedSimpArgs false
set_option linter.unusedVariables false


theorem five (p1 p2 p3 p4 : Prop) : (¬ p1) ∨ (p1 ∧ ¬ p2) ∨ (p1 ∧ p2 ∧ ¬ p3) ∨ (p1 ∧ p2 ∧ p3 ∧ ¬ p4) ∨ (p1 ∧ p2 ∧ p3 ∧ p4) := by
  by_cases h1 : p1 <;> by_cases h2 : p2 <;> by_cases h3 : p3 <;> by_cases h4 : p4 <;> simp [h1, h2, h3, h4]
def eqHd (a b : MOrd) : Prop := a.limits = b.limits ∧ a.least = b.least ∧ a.most = b.most ∧ a.bins.length = b.bins.length
instance (a b : MOrd) : Decidable (eqHd a b) := by unfold eqHd; infer_instance
def eqOS (a b : MOrd) (p : Nat × Bool) : St :=
  St.lit 84 [(2, .ptr (.own 2) 0), (3, .ptr (.own 3) 0), (5, .s (.bool p.2)), (6, .s (.int .i64 p.1))] [(2, aOrdC a), (3, aOrdC b)] [] []
def eqOJ (a b : MOrd) (p : Bool) : St :=
  St.lit 84 [(2, .ptr (.own 2) 0), (3, .ptr (.own 3) 0), (5, .s (.bool p))] [(2, aOrdC a), (3, aOrdC b)] [] []
attribute [simp] eqOS eqOJ

end Go.Ev
end

section
set_option linter.all false
open Go Go.Ev Go.Proofs
namespace Go.Ev
set_option linter.unusedSimpArgs false
set_option linter.unusedVariables false


def prodL : List MBin → Int → Int
  | [], n => n
  | b :: l, n => if n < 1000 then prodL l (wr (n * wr (b.g + 1))) else n
def wideB (o : MOrd) : Bool := decide (350 < prodL o.bins 1) && decide (ordErr o = 0)
def wiS (o : MOrd) (p : Nat × Int) : St := St.lit 32 [(1, .ptr (.own 1) 0), (3, .s (.int .i64 p.2)), (4, .s (.int .i64 p.1))] [(1, aOrdC o)] [] []
attribute [simp] wiS

theorem hugeL_sz : ∀ (l : List MBin) (i : Nat), hugeL l i = false → l.length + i ≤ 20 → ∀ b ∈ l, b.grams.length ≤ 20
  | [], _, _, _, b, hb => by cases hb
  | x :: l, i, h, hi, b, hb => by
    simp only [List.length_cons] at hi
    rw [hugeL, if_pos (by omega)] at h
    split at h
    · cases h
    · rcases List.mem_cons.1 hb with rfl | hb
      · omega
      · exact hugeL_sz l (i + 1) h (by omega) b hb
structure Sz20 (o : MOrd) : Prop where
  l : o.limits.length ≤ 20
  b : o.bins.length ≤ 20
  g : ∀ b ∈ o.bins, b.grams.length ≤ 20
theorem huge_sz {o : MOrd} (h : hugeB o = false) : Sz20 o := by
  simp only [hugeB, Bool.or_eq_false_iff, decide_eq_false_iff_not] at h
  exact ⟨by omega, by omega, hugeL_sz o.bins 0 h.1 (by omega)⟩
theorem Sz20.sz {o : MOrd} (h : Sz20 o) : szO o := ⟨by have := h.l; omega, by have := h.b; omega, fun b hb => by have := h.g b hb; omega⟩

def eOrd (o : MOrd) : List D := [.sl o.limits.length (eInts o.limits), .s (.int .i64 o.least), .s (.int .i64 o.most), .sl o.bins.length (eBins o.bins)]
def eOrds (l : List MOrd) : List D := l.flatMap eOrd
@[simp] theorem eOrds_nil : eOrds [] = [] := rfl
@[simp] theorem eOrds_cons (o : MOrd) (l : List MOrd) : eOrds (o :: l) = .sl o.limits.length (eInts o.limits) :: .s (.int .i64 o.least) :: .s (.int .i64 o.most) :: .sl o.bins.length (eBins o.bins) :: eOrds l := rfl
@[simp] theorem eOrds_len (l : List MOrd) : (eOrds l).length = l.length * 4 := by
  induction l with
  | nil => rfl
  | cons a l ih => rw [eOrds_cons]; simp only [List.length_cons, ih]; omega
theorem eOrds_at (l : List MOrd) (i : Nat) (x : MOrd) (h : l[i]? = some x) : ((eOrds l).drop (i * 4)).take 4 = eOrd x := flat_take eOrd 4 (fun _ => rfl) l i x h
theorem eOrds_atm (f g : Bool) (l : List MOrd) (i : Nat) (x : MOrd) (h : l[i]? = some x) : ((List.map (D.av f g) (eOrds l)).drop (i * 4)).take 4 = [.sl g g .U .no x.limits.length (eInts x.limits), .s (.int .i64 x.least), .s (.int .i64 x.most), .sl g g .U .no x.bins.length (eBins x.bins)] := by
  rw [← List.map_drop, ← List.map_take, eOrds_at l i x h]; rfl
theorem cheapB_len (o : MOrd) : ((cheapB o).length : Int) < 9223372036854775807 := by
  unfold cheapB
  split
  · rename_i h
    have k := ordErr_ok h
    have := cheapR_len k
    have := k.nb
    omega
  · simp
def mcS (o : MOrd) (os : List MOrd) (k : Nat) : St :=
  St.lit 80 [(6, .sl false false .U .no os.length (eOrds os)), (7, .s (.int .i64 k))] [] [] []
attribute [simp] mcS

end Go.Ev
end

section
set_option linter.all false
open Go Go.Ev Go.Proofs
namespace Go.Ev
set_option linter.unusedSimpArgs false
set_option linter.unusedVariables false


/-- Whether what comes first in a proof is right for a box, and what is left of it. -/
def verR (o : MOrd) (pr : Int) : Nat → List (Int × Int) → List MBd → Int × List MBd
  | 0, _, r => (2, r)
  | _ + 1, _, [] => (2, [])
  | n + 1, x, b :: r =>
    if b.r = 1 then
      if inB b.a 0 (wr (o.bins.length - 1)) = false then (3, r)
      else if inB b.c (x[b.a.toNat]?.getD (0, 0)).1 (wr ((x[b.a.toNat]?.getD (0, 0)).2 - 1)) = false then (1, r)
      else if (verR o pr n (setHi x b.a.toNat b.c) r).1 = 0 then verR o pr n (setLo x b.a.toNat (wr (b.c + 1))) (verR o pr n (setHi x b.a.toNat b.c) r).2
      else verR o pr n (setHi x b.a.toNat b.c) r
    else if b.r = 2 then (if lightB o x = true then 0 else 9, r)
    else if b.r = 3 then (if heavyB o x = true then 0 else 9, r)
    else if b.r = 4 then (if inB b.a 0 (wr (o.limits.length - 1)) = false then (3, r) else (if brkV o x b.a.toNat = true then 0 else 9, r))
    else if b.r = 5 then (if dearB o pr x = true then 0 else 9, r)
    else (8, r)
theorem verR_len (o : MOrd) (pr : Int) : ∀ (n : Nat) (x : List (Int × Int)) (r : List MBd), (verR o pr n x r).2.length ≤ r.length
  | 0, _, r => Nat.le_refl _
  | _ + 1, _, [] => Nat.le_refl _
  | n + 1, x, b :: r => by
    have h1 := verR_len o pr n (setHi x b.a.toNat b.c) r
    have h2 := verR_len o pr n (setLo x b.a.toNat (wr (b.c + 1))) (verR o pr n (setHi x b.a.toNat b.c) r).2
    simp only [verR, List.length_cons]
    repeat' split
    all_goals first | (simp only; omega) | omega
@[simp] theorem eBds_take (l : List MBd) (n : Nat) (h : n = l.length * 3) : List.take n (eBds l) = eBds l := by rw [h, ← eBds_len, List.take_length]

end Go.Ev
end
