/- Lemmas for the claims of this seat: an evaluator over abstract values, its soundness, and the contracts of the functions of melt that it walks; no premise beyond what each theorem states. -/
import Derived.Test.YtdcelpomnboeoaaLA
import Derived.Test.YtdcelpomnboeoaaLB
import Derived.Test.YtdcelpomnboeoaaLC
import Derived.Test.YtdcelpomnboeoaaLH
import Derived.Test.YtdcelpomnboeoaaLK

section
set_option linter.all false
open Go Go.Ev Go.Proofs
namespace Go.Ev
set_option linter.unusedSimpArgs false
set_option linter.unusedVariables false


def rkS (o : MOrd) (l : List Int) (q : Bool) (p : Nat × Int × Int) : St :=
  St.lit 27 [(1, .sl false false .U .no l.length (eInts l)), (2, .ptr (.own 2) 0), (6, .s (.int .i64 p.1)), (5, .s (.int .i64 (if q then p.2.2 else p.2.1)))] [(2, aOrdC o)] [] []
attribute [simp] rkS

theorem rkilos_ok (o : MOrd) (l : List Int) (hb : l.length ≤ o.bins.length) (hl : (l.length : Int) < 9223372036854775807) : ACalls Try.prog 63 [.agg [.sl false false .U .no o.limits.length (eInts o.limits), .s (.int .i64 o.least), .s (.int .i64 o.most), .sl false false .U .no o.bins.length (eBins o.bins)], .sl false false .U .no l.length (eInts l)] [] (.ret (.s (.int .i64 (weighL o.bins l 0 0 0).1)) [] []) := by
  refine acalls_of_ew Try.func63 rfl rfl (by simp [Try.f63]) (rs := [.tmp 4]) rfl ?_
  refine EW.seq fun Ψ0 n0 x0 => ?_
  refine EW.region gs_nil ?_
  simp
  refine n0 _ ?_; clear n0 x0
  refine EW.seq fun Ψ1 n1 x1 => ?_
  refine EW.region gs_nil ?_
  simp
  refine n1 _ ?_; clear n1 x1
  refine EW.seq fun Ψ2 n2 x2 => ?_
  refine EW.seq fun Ψ3 n3 x3 => ?_
  refine EW.region gs_nil ?_
  simp
  refine n3 _ ?_; clear n3 x3
  refine EW.block ?_
  refine EW.loopA (rkS o l false) (fun p => p.1 ≤ l.length ∧ weighL o.bins (l.drop p.1) p.1 p.2.1 p.2.2 = weighL o.bins l 0 0 0) (fun p => l.length - p.1) (0, 0, 0) (St.le_lit rfl (by simp) (by simp) (by simp) (by simp) (by simp)) ?_ fun p hk => ?_
  · simp
  obtain ⟨k, a, b⟩ := p
  obtain ⟨hk, hw⟩ := hk
  simp only at hk hw
  refine EW.seq fun Ψ4 n4 x4 => ?_
  refine EW.seq fun Ψ5 n5 x5 => ?_
  refine EW.region gs_nil ?_
  simp
  refine n5 _ ?_; clear n5 x5
  refine EW.cond (t := _) (by rfl) (fun hc10 => ?_) (fun hc10 => ?_)
  · simp at hc10
    have hkl : k < o.bins.length := by omega
    have e1 : l[k]? = some l[k] := List.getElem?_eq_getElem hc10
    have e2 : o.bins[k]? = some o.bins[k] := List.getElem?_eq_getElem hkl
    refine EW.skip ?_
    refine n4 _ ?_; clear n4 x4
    refine EW.seq fun Ψ6 n6 x6 => ?_
    refine EW.block ?_
    refine EW.hide fun Ψ7 n7 => ?_
    refine EW.drawn [] mixed gs_nil (by kernel_rfl) ?_
    simp [hc10, e1, hkl, e2]
    refine n7 _ _ ?_; clear n7
    refine n6 _ ?_; clear n6 x6
    refine EW.hide fun Ψ8 n8 => ?_
    refine EW.region gs_nil ?_
    simp
    refine n8 _ _ ?_; clear n8
    have e3 : IntKind.i64.wrap ((k : Int) + 1) = k + 1 := wr_small (by omega) (by omega)
    refine ⟨(k + 1, wr (a + wr (l[k] * o.bins[k].w)), wr (b + wr (l[k] * o.bins[k].c))), (St.le_lit rfl (by simp [e3]) (by simp) (by simp) (by simp) (by simp)), ?_, ?_⟩
    · refine ⟨hc10, ?_⟩
      rw [← hw, List.drop_eq_getElem_cons hc10]; simp [weighL, hkl]
    · simp; omega
  · simp at hc10
    have hkl : k = l.length := by omega
    subst hkl
    simp [weighL] at hw
    refine EW.exit ?_
    refine x4 _ _ rfl ?_; clear n4 x4
    refine n2 _ ?_; clear n2 x2
    refine EW.seq fun Ψ9 n9 x9 => ?_
    refine EW.region gs_nil ?_
    simp
    refine n9 _ ?_; clear n9 x9
    refine EW.ret ?_
    refine ⟨_, _, _, rfl, ?_, ?_, ?_, ?_, ?_⟩ <;> simp [← hw]

theorem rcost_ok (o : MOrd) (l : List Int) (hb : l.length ≤ o.bins.length) (hl : (l.length : Int) < 9223372036854775807) : ACalls Try.prog 44 [.agg [.sl false false .U .no o.limits.length (eInts o.limits), .s (.int .i64 o.least), .s (.int .i64 o.most), .sl false false .U .no o.bins.length (eBins o.bins)], .sl false false .U .no l.length (eInts l)] [] (.ret (.s (.int .i64 (weighL o.bins l 0 0 0).2)) [] []) := by
  refine acalls_of_ew Try.func44 rfl rfl (by simp [Try.f44]) (rs := [.tmp 4]) rfl ?_
  refine EW.seq fun Ψ0 n0 x0 => ?_
  refine EW.region gs_nil ?_
  simp
  refine n0 _ ?_; clear n0 x0
  refine EW.seq fun Ψ1 n1 x1 => ?_
  refine EW.region gs_nil ?_
  simp
  refine n1 _ ?_; clear n1 x1
  refine EW.seq fun Ψ2 n2 x2 => ?_
  refine EW.seq fun Ψ3 n3 x3 => ?_
  refine EW.region gs_nil ?_
  simp
  refine n3 _ ?_; clear n3 x3
  refine EW.block ?_
  refine EW.loopA (rkS o l true) (fun p => p.1 ≤ l.length ∧ weighL o.bins (l.drop p.1) p.1 p.2.1 p.2.2 = weighL o.bins l 0 0 0) (fun p => l.length - p.1) (0, 0, 0) (St.le_lit rfl (by simp) (by simp) (by simp) (by simp) (by simp)) ?_ fun p hk => ?_
  · simp
  obtain ⟨k, a, b⟩ := p
  obtain ⟨hk, hw⟩ := hk
  simp only at hk hw
  refine EW.seq fun Ψ4 n4 x4 => ?_
  refine EW.seq fun Ψ5 n5 x5 => ?_
  refine EW.region gs_nil ?_
  simp
  refine n5 _ ?_; clear n5 x5
  refine EW.cond (t := _) (by rfl) (fun hc10 => ?_) (fun hc10 => ?_)
  · simp at hc10
    have hkl : k < o.bins.length := by omega
    have e1 : l[k]? = some l[k] := List.getElem?_eq_getElem hc10
    have e2 : o.bins[k]? = some o.bins[k] := List.getElem?_eq_getElem hkl
    refine EW.skip ?_
    refine n4 _ ?_; clear n4 x4
    refine EW.seq fun Ψ6 n6 x6 => ?_
    refine EW.block ?_
    refine EW.hide fun Ψ7 n7 => ?_
    refine EW.drawn [] mixed gs_nil (by kernel_rfl) ?_
    simp [hc10, e1, hkl, e2]
    refine n7 _ _ ?_; clear n7
    refine n6 _ ?_; clear n6 x6
    refine EW.hide fun Ψ8 n8 => ?_
    refine EW.region gs_nil ?_
    simp
    refine n8 _ _ ?_; clear n8
    have e3 : IntKind.i64.wrap ((k : Int) + 1) = k + 1 := wr_small (by omega) (by omega)
    refine ⟨(k + 1, wr (a + wr (l[k] * o.bins[k].w)), wr (b + wr (l[k] * o.bins[k].c))), (St.le_lit rfl (by simp [e3]) (by simp) (by simp) (by simp) (by simp)), ?_, ?_⟩
    · refine ⟨hc10, ?_⟩
      rw [← hw, List.drop_eq_getElem_cons hc10]; simp [weighL, hkl]
    · simp; omega
  · simp at hc10
    have hkl : k = l.length := by omega
    subst hkl
    simp [weighL] at hw
    refine EW.exit ?_
    refine x4 _ _ rfl ?_; clear n4 x4
    refine n2 _ ?_; clear n2 x2
    refine EW.seq fun Ψ9 n9 x9 => ?_
    refine EW.region gs_nil ?_
    simp
    refine n9 _ ?_; clear n9 x9
    refine EW.ret ?_
    refine ⟨_, _, _, rfl, ?_, ?_, ?_, ?_, ?_⟩ <;> simp [← hw]


def rcbkS (o : MOrd) (l : List Int) (k : Nat) : St :=
  St.lit 36 [(1, .sl false false .U .no l.length (eInts l)), (2, .ptr (.own 2) 0), (6, .s (.int .i64 k))] [(2, aOrdC o)] [] []
attribute [simp] rcbkS
theorem rcheck_ok' (o : MOrd) (h : szO o) : ACalls Try.prog 35 [.agg [.sl false false .U .no o.limits.length (eInts o.limits), .s (.int .i64 o.least), .s (.int .i64 o.most), .sl false false .U .no o.bins.length (eBins o.bins)]] [] (.ret (.s (.int .i64 (ordErr o))) [] []) :=
  rcheck_ok o (by have := h.1; omega) (by have := h.2.1; omega) (fun b hb => by have := h.2.2 b hb; omega)

theorem rcheckBlend_ok (o : MOrd) (l : List Int) (hz : szO o) (hl : (l.length : Int) < 9223372036854775807) : ACalls Try.prog 62 [.agg [.sl false false .U .no o.limits.length (eInts o.limits), .s (.int .i64 o.least), .s (.int .i64 o.most), .sl false false .U .no o.bins.length (eBins o.bins)], .sl false false .U .no l.length (eInts l)] [] (.ret (.s (.int .i64 (blendErr o l))) [] []) := by
  refine acalls_of_ew Try.func62 rfl rfl (by simp [Try.f62]) (rs := [.tmp 4]) rfl ?_
  refine EW.seq fun Ψ0 n0 x0 => ?_
  refine EW.region gs_nil ?_
  simp
  refine n0 _ ?_; clear n0 x0
  refine EW.seq fun Ψ1 n1 x1 => ?_
  refine EW.seq fun Ψ2 n2 x2 => ?_
  refine EW.region (gs_cons (rcheck_ok' o hz) gs_nil) ?_
  simp
  refine n2 _ ?_; clear n2 x2
  refine EW.seq fun Ψ3 n3 x3 => ?_
  refine EW.region gs_nil ?_
  simp
  refine n3 _ ?_; clear n3 x3
  refine EW.cond (t := _) (by rfl) (fun hc10 => ?_) (fun hc10 => ?_)
  · have g1 : ¬ ordErr o = 0 := by simpa using hc10
    have hv : blendErr o l = ordErr o := by simp [blendErr, g1]
    refine EW.seq fun Ψ4 n4 x4 => ?_
    refine EW.region gs_nil ?_
    simp
    refine n4 _ ?_; clear n4 x4
    refine EW.ret ?_
    refine x1 _ _ rfl ?_; clear n1 x1
    refine ⟨_, _, _, rfl, ?_, ?_, ?_, ?_, ?_⟩ <;> simp [hv]
  · have g1 : ordErr o = 0 := by simpa using hc10
    refine EW.skip ?_
    refine n1 _ ?_; clear n1 x1
    refine EW.seq fun Ψ5 n5 x5 => ?_
    refine EW.seq fun Ψ6 n6 x6 => ?_
    refine EW.region gs_nil ?_
    simp
    refine n6 _ ?_; clear n6 x6
    refine EW.cond (t := _) (by rfl) (fun hc17 => ?_) (fun hc17 => ?_)
    · have g2 : ¬ l.length = o.bins.length := by simp at hc17; omega
      have hv : blendErr o l = 2 := by simp [blendErr, g1, g2]
      refine EW.seq fun Ψ7 n7 x7 => ?_
      refine EW.region gs_nil ?_
      simp
      refine n7 _ ?_; clear n7 x7
      refine EW.ret ?_
      refine x5 _ _ rfl ?_; clear n5 x5
      refine ⟨_, _, _, rfl, ?_, ?_, ?_, ?_, ?_⟩ <;> simp [hv]
    · have g2 : l.length = o.bins.length := by simp at hc17; omega
      have hE : blendErr o l = grabErr o.bins l 0 := by simp [blendErr, g1, g2]
      refine EW.skip ?_
      refine n5 _ ?_; clear n5 x5
      refine EW.seq fun Ψ8 n8 x8 => ?_
      refine EW.seq fun Ψ9 n9 x9 => ?_
      refine EW.region gs_nil ?_
      simp
      refine n9 _ ?_; clear n9 x9
      refine EW.block ?_
      refine EW.loopA (rcbkS o l) (fun k => k ≤ l.length ∧ grabErr o.bins (l.drop k) k = grabErr o.bins l 0) (fun k => l.length - k) 0 (St.le_lit rfl (by simp) (by simp) (by simp) (by simp) (by simp)) ?_ fun p hk => ?_
      · simp
      rename Nat => k
      obtain ⟨hk, hw⟩ := hk
      refine EW.seq fun Ψ10 n10 x10 => ?_
      refine EW.seq fun Ψ11 n11 x11 => ?_
      refine EW.region gs_nil ?_
      simp
      refine n11 _ ?_; clear n11 x11
      refine EW.cond (t := _) (by rfl) (fun hc21 => ?_) (fun hc21 => ?_)
      · simp at hc21
        have hkb : k < o.bins.length := by omega
        have e1 : l[k]? = some l[k] := List.getElem?_eq_getElem hc21
        have e2 : o.bins[k]? = some o.bins[k] := List.getElem?_eq_getElem hkb
        refine EW.skip ?_
        refine n10 _ ?_; clear n10 x10
        refine EW.seq fun Ψ12 n12 x12 => ?_
        refine EW.block ?_
        refine EW.seq fun Ψ13 n13 x13 => ?_
        cases q1 : inB l[k] 0 o.bins[k].g
        · skip
          refine EW.drawn [] mixed (gI_ok gs_nil) (by kernel_rfl) ?_
          simp [hc21, e1, hkb, e2, q1]
          refine n13 _ ?_; clear n13 x13
          refine EW.cond (t := _) (by rfl) (fun hc35 => ?_) (fun hc35 => ?_)
          · simp at hc35
            have hv : blendErr o l = 1 := by rw [hE, ← hw, List.drop_eq_getElem_cons hc21]; simp [grabErr, hkb, q1]
            refine EW.seq fun Ψ14 n14 x14 => ?_
            refine EW.region gs_nil ?_
            simp
            refine n14 _ ?_; clear n14 x14
            refine EW.ret ?_
            refine x12 _ _ rfl ?_; clear n12 x12
            refine x8 _ _ rfl ?_; clear n8 x8
            refine ⟨_, _, _, rfl, ?_, ?_, ?_, ?_, ?_⟩ <;> simp [hv]
          · simp at hc35
        · skip
          refine EW.drawn [] mixed (gI_ok gs_nil) (by kernel_rfl) ?_
          simp [hc21, e1, hkb, e2, q1]
          refine n13 _ ?_; clear n13 x13
          refine EW.cond (t := _) (by rfl) (fun hc35 => ?_) (fun hc35 => ?_)
          · simp at hc35
          · simp at hc35
            refine EW.skip ?_
            refine n12 _ ?_; clear n12 x12
            refine EW.hide fun Ψ15 n15 => ?_
            refine EW.region gs_nil ?_
            simp
            refine n15 _ _ ?_; clear n15
            have e3 : IntKind.i64.wrap ((k : Int) + 1) = k + 1 := wr_small (by omega) (by omega)
            refine ⟨k + 1, (St.le_lit rfl (by simp [e3]) (by simp) (by simp) (by simp) (by simp)), ?_, ?_⟩
            · refine ⟨hc21, ?_⟩
              rw [← hw, List.drop_eq_getElem_cons hc21]; simp [grabErr, hkb, q1]
            · omega
      · simp at hc21
        have hv : blendErr o l = 0 := by rw [hE, ← hw, List.drop_of_length_le (by omega)]; rfl
        refine EW.exit ?_
        refine x10 _ _ rfl ?_; clear n10 x10
        refine n8 _ ?_; clear n8 x8
        refine EW.seq fun Ψ16 n16 x16 => ?_
        refine EW.region gs_nil ?_
        simp
        refine n16 _ ?_; clear n16 x16
        refine EW.ret ?_
        refine ⟨_, _, _, rfl, ?_, ?_, ?_, ?_, ?_⟩ <;> simp [hv]


theorem blendErr_len {o : MOrd} {l : List Int} (g1 : blendErr o l = 0) : l.length ≤ o.bins.length := Nat.le_of_eq (blendErr_ord o l g1).2

theorem rWeigh_ok (o : MOrd) (l : List Int) (hz : szO o) (hl : (l.length : Int) < 9223372036854775807) : ACalls Try.prog 32 [.agg [.sl false false .U .no o.limits.length (eInts o.limits), .s (.int .i64 o.least), .s (.int .i64 o.most), .sl false false .U .no o.bins.length (eBins o.bins)], .sl false false .U .no l.length (eInts l)] [] (.ret (.tup [.s (.int .i64 (if blendErr o l = 0 then (weighL o.bins l 0 0 0).1 else 0)), .s (.int .i64 (if blendErr o l = 0 then (weighL o.bins l 0 0 0).2 else 0)), .s (.int .i64 (blendErr o l))]) [] []) := by
  refine acalls_of_ew Try.func32 rfl rfl (by simp [Try.f32]) (rs := [.tmp 4, .tmp 5, .tmp 6]) rfl ?_
  refine EW.seq fun Ψ0 n0 x0 => ?_
  refine EW.region gs_nil ?_
  simp
  refine n0 _ ?_; clear n0 x0
  refine EW.seq fun Ψ1 n1 x1 => ?_
  refine EW.seq fun Ψ2 n2 x2 => ?_
  refine EW.region (gs_cons (rcheckBlend_ok o l hz hl) gs_nil) ?_
  simp
  refine n2 _ ?_; clear n2 x2
  refine EW.seq fun Ψ3 n3 x3 => ?_
  refine EW.region gs_nil ?_
  simp
  refine n3 _ ?_; clear n3 x3
  refine EW.cond (t := _) (by rfl) (fun hc12 => ?_) (fun hc12 => ?_)
  · have g1 : ¬ blendErr o l = 0 := by simpa using hc12
    refine EW.seq fun Ψ4 n4 x4 => ?_
    refine EW.region gs_nil ?_
    simp
    refine n4 _ ?_; clear n4 x4
    refine EW.ret ?_
    refine x1 _ _ rfl ?_; clear n1 x1
    refine ⟨_, _, _, rfl, ?_, ?_, ?_, ?_, ?_⟩ <;> simp [g1]
  · have g1 : blendErr o l = 0 := by simpa using hc12
    have g2 := blendErr_len g1
    refine EW.skip ?_
    refine n1 _ ?_; clear n1 x1
    refine EW.seq fun Ψ5 n5 x5 => ?_
    refine EW.drawn [(2, 3)] mixed (gs_cons (rkilos_ok o l g2 hl) (gs_cons (rcost_ok o l g2 hl) gs_nil)) (by kernel_rfl) ?_
    simp
    refine n5 _ ?_; clear n5 x5
    refine EW.ret ?_
    refine ⟨_, _, _, rfl, ?_, ?_, ?_, ?_, ?_⟩ <;> simp [g1]


/-- Whether a blend keeps all limits with one end of all ranges. -/
def holdL (q : Bool) (o : MOrd) (l : List Int) : Nat → Nat → Bool
  | 0, _ => true
  | n + 1, j => if 0 < beyL q o.limits o.bins j l 0 0 then false else holdL q o l n (j + 1)
def holdV (q : Bool) (o : MOrd) (l : List Int) : Bool := holdL q o l o.limits.length 0
def hoE (l : List Int) (q : Bool) (j : Nat) (r : List (Nat × AV)) : List (Nat × AV) := (1, .sl false false .U .no l.length (eInts l)) :: (2, .s (.bool q)) :: (3, .ptr (.own 3) 0) :: (7, .s (.int .i64 j)) :: r
def hoS0 (o : MOrd) (l : List Int) (q : Bool) (j : Nat) : St := St.lit 68 (hoE l q j []) [(3, aOrdC o)] [] []
def hoS1 (o : MOrd) (l : List Int) (q : Bool) (j : Nat) (p : Nat × Int) : St := St.lit 68 (hoE l q j [(8, .s (.int .i64 p.2)), (9, .s (.int .i64 p.1))]) [(3, aOrdC o)] [] []
attribute [simp] hoE hoS0 hoS1

set_option maxHeartbeats 2000000 in
theorem rholds_ok (o : MOrd) (l : List Int) (q : Bool) (hl : (l.length : Int) < 9223372036854775807) (hb : l.length ≤ o.bins.length) (h1 : (o.limits.length : Int) < 9223372036854775807) (hg : ∀ b ∈ o.bins, b.grams.length = o.limits.length) : ACalls Try.prog 64 [.agg [.sl false false .U .no o.limits.length (eInts o.limits), .s (.int .i64 o.least), .s (.int .i64 o.most), .sl false false .U .no o.bins.length (eBins o.bins)], .sl false false .U .no l.length (eInts l), .s (.bool q)] [] (.ret (.s (.bool (holdV q o l))) [] []) := by
  refine acalls_of_ew Try.func64 rfl rfl (by simp [Try.f64]) (rs := [.tmp 6]) rfl ?_
  refine EW.seq fun Ψ0 n0 x0 => ?_
  refine EW.region gs_nil ?_
  simp
  refine n0 _ ?_; clear n0 x0
  refine EW.seq fun Ψ1 n1 x1 => ?_
  refine EW.seq fun Ψ2 n2 x2 => ?_
  refine EW.region gs_nil ?_
  simp
  refine n2 _ ?_; clear n2 x2
  refine EW.block ?_
  refine EW.loopA (hoS0 o l q) (fun j => j ≤ o.limits.length ∧ holdL q o l (o.limits.length - j) j = holdV q o l) (fun j => o.limits.length - j) 0 (St.le_lit rfl (by simp) (by simp) (by simp) (by simp) (by simp)) ?_ fun p hk => ?_
  · simp [holdV]
  rename Nat => j
  obtain ⟨hj, hv⟩ := hk
  refine EW.seq fun Ψ3 n3 x3 => ?_
  refine EW.seq fun Ψ4 n4 x4 => ?_
  refine EW.region gs_nil ?_
  simp
  refine n4 _ ?_; clear n4 x4
  refine EW.cond (t := _) (by rfl) (fun hc15 => ?_) (fun hc15 => ?_)
  · simp at hc15
    have hn : o.limits.length - j = (o.limits.length - (j + 1)) + 1 := by omega
    have e5 : o.limits[j]? = some o.limits[j] := List.getElem?_eq_getElem hc15
    refine EW.skip ?_
    refine n3 _ ?_; clear n3 x3
    refine EW.seq fun Ψ5 n5 x5 => ?_
    refine EW.block ?_
    refine EW.seq fun Ψ6 n6 x6 => ?_
    refine EW.region gs_nil ?_
    simp
    refine n6 _ ?_; clear n6 x6
    refine EW.seq fun Ψ7 n7 x7 => ?_
    refine EW.seq fun Ψ8 n8 x8 => ?_
    refine EW.region gs_nil ?_
    simp
    refine n8 _ ?_; clear n8 x8
    refine EW.block ?_
    refine EW.loopA (hoS1 o l q j) (fun p => p.1 ≤ l.length ∧ beyL q o.limits o.bins j (l.drop p.1) p.1 p.2 = beyL q o.limits o.bins j l 0 0) (fun p => l.length - p.1) (0, 0) (St.le_lit rfl (by simp) (by simp) (by simp) (by simp) (by simp)) ?_ fun p hk => ?_
    · simp
    obtain ⟨k, s⟩ := p
    obtain ⟨hk, hw⟩ := hk
    simp only at hk hw
    refine EW.seq fun Ψ9 n9 x9 => ?_
    refine EW.seq fun Ψ10 n10 x10 => ?_
    refine EW.region gs_nil ?_
    simp
    refine n10 _ ?_; clear n10 x10
    refine EW.cond (t := _) (by rfl) (fun hc21 => ?_) (fun hc21 => ?_)
    · simp at hc21
      have hkl : k < o.bins.length := by omega
      have e1 : l[k]? = some l[k] := List.getElem?_eq_getElem hc21
      have e2 : o.bins[k]? = some o.bins[k] := List.getElem?_eq_getElem hkl
      have hjg : j < o.bins[k].grams.length := by rw [hg _ (List.getElem_mem hkl)]; exact hc15
      have e4 : o.bins[k].grams[j]? = some o.bins[k].grams[j] := List.getElem?_eq_getElem hjg
      refine EW.skip ?_
      refine n9 _ ?_; clear n9 x9
      refine EW.seq fun Ψ11 n11 x11 => ?_
      refine EW.block ?_
      refine EW.seq fun Ψ12 n12 x12 => ?_
      refine EW.region gs_nil ?_
      simp [hkl, e2, e4, hjg]
      refine n12 _ ?_; clear n12 x12
      refine EW.seq fun Ψ13 n13 x13 => ?_
      refine EW.seq fun Ψ14 n14 x14 => ?_
      refine EW.region gs_nil ?_
      simp
      refine n14 _ ?_; clear n14 x14
      refine EW.cond (t := _) (by rfl) (fun hc34 => ?_) (fun hc34 => ?_)
      · skip
        refine EW.region gs_nil ?_
        simp [hkl, e2, e4, hjg]
        refine n13 _ ?_; clear n13 x13
        refine EW.hide fun Ψ15 n15 => ?_
        refine EW.drawn [] mixed gs_nil (by kernel_rfl) ?_
        simp [hc21, e1, hkl, e2, hc15, e5]
        refine n15 _ _ ?_; clear n15
        refine n11 _ ?_; clear n11 x11
        refine EW.hide fun Ψ16 n16 => ?_
        refine EW.region gs_nil ?_
        simp
        refine n16 _ _ ?_; clear n16
        have e3 : IntKind.i64.wrap ((k : Int) + 1) = k + 1 := wr_small (by omega) (by omega)
        refine ⟨(k + 1, wr (s + wr (wr (l[k] * o.bins[k].w) * wr (endR q o.bins[k].grams[j] - o.limits[j])))), (St.le_lit rfl (by simp [e3, endR, hc34]) (by simp) (by simp) (by simp) (by simp)), ?_, ?_⟩
        · refine ⟨hc21, ?_⟩
          rw [← hw, List.drop_eq_getElem_cons hc21]; simp [beyL, hkl, hjg, hc15]
        · simp; omega
      · skip
        refine EW.skip ?_
        refine n13 _ ?_; clear n13 x13
        refine EW.hide fun Ψ17 n17 => ?_
        refine EW.drawn [] mixed gs_nil (by kernel_rfl) ?_
        simp [hc21, e1, hkl, e2, hc15, e5]
        refine n17 _ _ ?_; clear n17
        refine n11 _ ?_; clear n11 x11
        refine EW.hide fun Ψ18 n18 => ?_
        refine EW.region gs_nil ?_
        simp
        refine n18 _ _ ?_; clear n18
        have e3 : IntKind.i64.wrap ((k : Int) + 1) = k + 1 := wr_small (by omega) (by omega)
        refine ⟨(k + 1, wr (s + wr (wr (l[k] * o.bins[k].w) * wr (endR q o.bins[k].grams[j] - o.limits[j])))), (St.le_lit rfl (by simp [e3, endR, hc34]) (by simp) (by simp) (by simp) (by simp)), ?_, ?_⟩
        · refine ⟨hc21, ?_⟩
          rw [← hw, List.drop_eq_getElem_cons hc21]; simp [beyL, hkl, hjg, hc15]
        · simp; omega
    · simp at hc21
      have hkl : k = l.length := by omega
      subst hkl
      simp [beyL] at hw
      refine EW.exit ?_
      refine x9 _ _ rfl ?_; clear n9 x9
      refine n7 _ ?_; clear n7 x7
      refine EW.seq fun Ψ19 n19 x19 => ?_
      refine EW.region gs_nil ?_
      simp
      refine n19 _ ?_; clear n19 x19
      refine EW.cond (t := _) (by rfl) (fun hc67 => ?_) (fun hc67 => ?_)
      · have hc67 : 0 < beyL q o.limits o.bins j l 0 0 := by rw [← hw]; simpa using hc67
        have hV : holdV q o l = false := by rw [← hv, hn]; simp [holdL, hc67]
        refine EW.seq fun Ψ20 n20 x20 => ?_
        refine EW.region gs_nil ?_
        simp
        refine n20 _ ?_; clear n20 x20
        refine EW.ret ?_
        refine x5 _ _ rfl ?_; clear n5 x5
        refine x1 _ _ rfl ?_; clear n1 x1
        refine ⟨_, _, _, rfl, ?_, ?_, ?_, ?_, ?_⟩ <;> simp [hV]
      · have hc67 : ¬ 0 < beyL q o.limits o.bins j l 0 0 := by rw [← hw]; simpa using hc67
        refine EW.skip ?_
        refine n5 _ ?_; clear n5 x5
        refine EW.hide fun Ψ21 n21 => ?_
        refine EW.region gs_nil ?_
        simp
        refine n21 _ _ ?_; clear n21
        have e3 : IntKind.i64.wrap ((j : Int) + 1) = j + 1 := wr_small (by omega) (by omega)
        refine ⟨(j + 1), (St.le_lit rfl (by simp [e3]) (by simp) (by simp) (by simp) (by simp)), ?_, ?_⟩
        · refine ⟨hc15, ?_⟩
          rw [← hv, hn]; simp [holdL, hc67]
        · omega
  · simp at hc15
    have hV : holdV q o l = true := by rw [← hv, show o.limits.length - j = 0 by omega]; rfl
    refine EW.exit ?_
    refine x3 _ _ rfl ?_; clear n3 x3
    refine n1 _ ?_; clear n1 x1
    refine EW.seq fun Ψ22 n22 x22 => ?_
    refine EW.region gs_nil ?_
    simp
    refine n22 _ ?_; clear n22 x22
    refine EW.ret ?_
    refine ⟨_, _, _, rfl, ?_, ?_, ?_, ?_, ?_⟩ <;> simp [hV]


def keepR (o : MOrd) (l : List Int) : Int := if holdV true o l = true then 1 else if holdV false o l = true then 3 else 2

theorem rKeeps_ok (o : MOrd) (l : List Int) (hz : szO o) (hl : (l.length : Int) < 9223372036854775807) : ACalls Try.prog 33 [.agg [.sl false false .U .no o.limits.length (eInts o.limits), .s (.int .i64 o.least), .s (.int .i64 o.most), .sl false false .U .no o.bins.length (eBins o.bins)], .sl false false .U .no l.length (eInts l)] [] (.ret (.tup [.s (.int .i64 (if blendErr o l = 0 then keepR o l else 0)), .s (.int .i64 (blendErr o l))]) [] []) := by
  refine acalls_of_ew Try.func33 rfl rfl (by simp [Try.f33]) (rs := [.tmp 4, .tmp 5]) rfl ?_
  refine EW.seq fun Ψ0 n0 x0 => ?_
  refine EW.region gs_nil ?_
  simp
  refine n0 _ ?_; clear n0 x0
  refine EW.seq fun Ψ1 n1 x1 => ?_
  refine EW.seq fun Ψ2 n2 x2 => ?_
  refine EW.region (gs_cons (rcheckBlend_ok o l hz hl) gs_nil) ?_
  simp
  refine n2 _ ?_; clear n2 x2
  refine EW.seq fun Ψ3 n3 x3 => ?_
  refine EW.region gs_nil ?_
  simp
  refine n3 _ ?_; clear n3 x3
  refine EW.cond (t := _) (by rfl) (fun hc11 => ?_) (fun hc11 => ?_)
  · have g1 : ¬ blendErr o l = 0 := by simpa using hc11
    refine EW.seq fun Ψ4 n4 x4 => ?_
    refine EW.region gs_nil ?_
    simp
    refine n4 _ ?_; clear n4 x4
    refine EW.ret ?_
    refine x1 _ _ rfl ?_; clear n1 x1
    refine ⟨_, _, _, rfl, ?_, ?_, ?_, ?_, ?_⟩ <;> simp [g1]
    all_goals simp_all
  · have g1 : blendErr o l = 0 := by simpa using hc11
    obtain ⟨g2, g3⟩ := blendErr_ord o l g1
    have g4 := binsErr_len _ _ (ordErr_bins o g2)
    refine EW.skip ?_
    refine n1 _ ?_; clear n1 x1
    refine EW.seq fun Ψ5 n5 x5 => ?_
    refine EW.block ?_
    refine EW.seq fun Ψ6 n6 x6 => ?_
    refine EW.region (gs_cons (rholds_ok o l true hl (by omega) (by have := hz.1; omega) g4) gs_nil) ?_
    simp
    refine n6 _ ?_; clear n6 x6
    refine EW.cond (t := _) (by rfl) (fun hc13 => ?_) (fun hc13 => ?_)
    · skip
      have hV : keepR o l = 1 := by simp [keepR, hc13]
      refine EW.seq fun Ψ7 n7 x7 => ?_
      refine EW.region gs_nil ?_
      simp
      refine n7 _ ?_; clear n7 x7
      refine EW.ret ?_
      refine x5 _ _ rfl ?_; clear n5 x5
      refine ⟨_, _, _, rfl, ?_, ?_, ?_, ?_, ?_⟩ <;> simp [g1]
      all_goals simp_all
    · skip
      refine EW.seq fun Ψ8 n8 x8 => ?_
      refine EW.region (gs_cons (rholds_ok o l false hl (by omega) (by have := hz.1; omega) g4) gs_nil) ?_
      simp
      refine n8 _ ?_; clear n8 x8
      refine EW.cond (t := _) (by rfl) (fun hc17 => ?_) (fun hc17 => ?_)
      · skip
        have hV : keepR o l = 3 := by simp [keepR, hc13, hc17]
        refine EW.seq fun Ψ9 n9 x9 => ?_
        refine EW.region gs_nil ?_
        simp
        refine n9 _ ?_; clear n9 x9
        refine EW.ret ?_
        refine x5 _ _ rfl ?_; clear n5 x5
        refine ⟨_, _, _, rfl, ?_, ?_, ?_, ?_, ?_⟩ <;> simp [g1]
        all_goals simp_all
      · skip
        have hV : keepR o l = 2 := by simp [keepR, hc13, hc17]
        refine EW.skip ?_
        refine n5 _ ?_; clear n5 x5
        refine EW.seq fun Ψ10 n10 x10 => ?_
        refine EW.region gs_nil ?_
        simp
        refine n10 _ ?_; clear n10 x10
        refine EW.ret ?_
        refine ⟨_, _, _, rfl, ?_, ?_, ?_, ?_, ?_⟩ <;> simp [g1]
        all_goals simp_all


def goodR (o : MOrd) (l : List Int) : Bool := inB (weighL o.bins l 0 0 0).1 o.least o.most && holdV true o l

theorem rGood_ok (o : MOrd) (l : List Int) (hl : (l.length : Int) < 9223372036854775807) (hb : l.length ≤ o.bins.length) (h1 : (o.limits.length : Int) < 9223372036854775807) (hg : ∀ b ∈ o.bins, b.grams.length = o.limits.length) : ACalls Try.prog 43 [.agg [.sl false false .U .no o.limits.length (eInts o.limits), .s (.int .i64 o.least), .s (.int .i64 o.most), .sl false false .U .no o.bins.length (eBins o.bins)], .sl false false .U .no l.length (eInts l)] [] (.ret (.s (.bool (goodR o l))) [] []) := by
  refine acalls_of_ew Try.func43 rfl rfl (by simp [Try.f43]) (rs := [.tmp 4]) rfl ?_
  refine EW.seq fun Ψ0 n0 x0 => ?_
  refine EW.region gs_nil ?_
  simp
  refine n0 _ ?_; clear n0 x0
  refine EW.seq fun Ψ1 n1 x1 => ?_
  cases q1 : inB (weighL o.bins l 0 0 0).1 o.least o.most
  · skip
    refine EW.drawn [(2, 4), (2, 6)] mixed (gI_ok (gs_cons (rkilos_ok o l hb hl) (gs_cons (rholds_ok o l true hl hb h1 hg) gs_nil))) (by kernel_rfl) ?_
    simp [q1]
    refine n1 _ ?_; clear n1 x1
    refine EW.ret ?_
    refine ⟨_, _, _, rfl, ?_, ?_, ?_, ?_, ?_⟩ <;> simp [goodR, q1]
  · skip
    refine EW.drawn [(2, 4), (2, 6)] mixed (gI_ok (gs_cons (rkilos_ok o l hb hl) (gs_cons (rholds_ok o l true hl hb h1 hg) gs_nil))) (by kernel_rfl) ?_
    simp [q1]
    refine n1 _ ?_; clear n1 x1
    refine EW.ret ?_
    refine ⟨_, _, _, rfl, ?_, ?_, ?_, ?_, ?_⟩ <;> simp [goodR, q1]

end Go.Ev
end

section
set_option linter.all false
open Go Go.Ev Go.Proofs
namespace Go.Ev
set_option linter.unusedSimpArgs false
set_option linter.unusedVariables false


open Classical in
noncomputable def gRc (o : MOrd) : List AV → List (List AV) → Option Out
  | [a, .sl false false .U .no n cs], [] => if a = .agg [.sl false false .U .no o.limits.length (eInts o.limits), .s (.int .i64 o.least), .s (.int .i64 o.most), .sl false false .U .no o.bins.length (eBins o.bins)] ∧ n = (dInts cs).length ∧ cs = eInts (dInts cs) ∧ (dInts cs).length ≤ o.bins.length ∧ (dInts cs).length < 1000000000 then some (.ret (.s (.int .i64 (weighL o.bins (dInts cs) 0 0 0).2)) [] []) else none
  | _, _ => none
theorem gRc_ok (o : MOrd) : ∀ a e out, gRc o a e = some out → ACalls Try.prog 44 a e out := by
  intro a e out h
  unfold gRc at h
  split at h
  · rename_i n cs
    split at h
    · rename_i hc
      obtain ⟨rfl, rfl, h0, h1, h2⟩ := hc
      cases h
      generalize dInts cs = l at h0 h1 h2 ⊢
      subst h0
      exact rcost_ok o _ h1 (by omega)
    · cases h
  · cases h
attribute [simp] gRc
def nextR (o : MOrd) (s : List Int × Bool) (x : List Int) : List Int × Bool :=
  if goodR o x = true ∧ (s.2 = false ∨ (weighL o.bins x 0 0 0).2 < (weighL o.bins s.1 0 0 0).2) then (x, true) else s
def rchS (o : MOrd) (all : List (List Int)) (p : Nat × List Int × Bool) : St :=
  St.lit 44 [(1, .ptr (.own 1) 0), (4, .sl false false .U .no p.2.1.length (eInts p.2.1)), (5, .s (.bool p.2.2)), (6, .sl false false .U .no all.length (eLL all)), (7, .s (.int .i64 p.1))] [(1, aOrdC o)] [] []
attribute [simp] rchS
def rchR (o : MOrd) : List Int × Bool := (allB o.bins []).foldl (nextR o) ([], false)
theorem four (g s : Bool) (p : Prop) [Decidable p] : g = false ∨ (g = true ∧ s = false) ∨ (g = true ∧ s = true ∧ p) ∨ (g = true ∧ s = true ∧ ¬ p) := by
  cases g <;> cases s <;> by_cases p <;> simp [*]

set_option maxHeartbeats 2000000 in
theorem rcheapest_ok (o : MOrd) (all : List (List Int)) (h4 : all = allB o.bins []) (hbl : o.bins.length ≤ 4) (hg : ∀ b ∈ o.bins, 0 ≤ b.g ∧ b.g ≤ 6) (hx : ∀ x ∈ all, x.length = o.bins.length) (ha : all.length < 1000000) (hll : o.limits.length < 1000000) (hG : ∀ b ∈ o.bins, b.grams.length = o.limits.length) : ACalls Try.prog 58 [.agg [.sl false false .U .no o.limits.length (eInts o.limits), .s (.int .i64 o.least), .s (.int .i64 o.most), .sl false false .U .no o.bins.length (eBins o.bins)]] [] (.ret (.tup [.sl false false .U .no (rchR o).1.length (eInts (rchR o).1), .s (.bool (rchR o).2)]) [] []) := by
  have c3 := blends36_ok o hbl hg o.bins [] rfl (by simp)
  rw [← h4] at c3
  simp only [List.length_nil, eInts_nil] at c3
  refine acalls_of_ew Try.func58 rfl rfl (by simp [Try.f58]) (rs := [.tmp 2, .tmp 3]) rfl ?_
  refine EW.seq fun Ψ0 n0 x0 => ?_
  refine EW.region gs_nil ?_
  simp
  refine n0 _ ?_; clear n0 x0
  refine EW.seq fun Ψ1 n1 x1 => ?_
  refine EW.region gs_nil ?_
  simp
  refine n1 _ ?_; clear n1 x1
  refine EW.seq fun Ψ2 n2 x2 => ?_
  refine EW.region gs_nil ?_
  simp
  refine n2 _ ?_; clear n2 x2
  refine EW.seq fun Ψ3 n3 x3 => ?_
  refine EW.region (gs_cons c3 gs_nil) ?_
  simp
  refine n3 _ ?_; clear n3 x3
  refine EW.seq fun Ψ4 n4 x4 => ?_
  refine EW.seq fun Ψ5 n5 x5 => ?_
  refine EW.region gs_nil ?_
  simp
  refine n5 _ ?_; clear n5 x5
  refine EW.block ?_
  refine EW.loopA (rchS o all) (fun p => p.1 ≤ all.length ∧ (p.2.2 = true → p.2.1.length = o.bins.length) ∧ (all.drop p.1).foldl (nextR o) p.2 = rchR o) (fun p => all.length - p.1) (0, [], false) (St.le_lit rfl (by simp) (by simp) (by simp) (by simp) (by simp)) ?_ fun p hk => ?_
  · simp [rchR, h4]
  obtain ⟨k, b, sm⟩ := p
  obtain ⟨hk, hs, hw⟩ := hk
  simp only at hk hs hw
  refine EW.seq fun Ψ6 n6 x6 => ?_
  refine EW.seq fun Ψ7 n7 x7 => ?_
  refine EW.region gs_nil ?_
  simp
  refine n7 _ ?_; clear n7 x7
  refine EW.cond (t := _) (by rfl) (fun hc13 => ?_) (fun hc13 => ?_)
  · simp at hc13
    have e1 : all[k]? = some all[k] := List.getElem?_eq_getElem hc13
    have hxl := hx _ (List.getElem_mem hc13)
    refine EW.skip ?_
    refine n6 _ ?_; clear n6 x6
    refine EW.seq fun Ψ8 n8 x8 => ?_
    refine EW.block ?_
    refine EW.seq fun Ψ9 n9 x9 => ?_
    rcases four (goodR o all[k]) sm ((weighL o.bins all[k] 0 0 0).2 < (weighL o.bins b 0 0 0).2) with q1 | ⟨q1, q2⟩ | ⟨q1, q2, q3⟩ | ⟨q1, q2, q3⟩
    · skip
      refine EW.drawn [(15, 16)] mixed (gAlt_sound (f := 44) (gRc_ok o) (gs_cons (rGood_ok o all[k] (by omega) (by omega) (by omega) hG) gs_nil)) (by kernel_rfl) ?_
      simp [hc13, e1, q1]
      refine n9 _ ?_; clear n9 x9
      refine EW.cond (t := _) (by rfl) (fun hc37 => ?_) (fun hc37 => ?_)
      · simp at hc37
      · simp at hc37
        have hn : nextR o (b, sm) all[k] = (b, sm) := by simp [nextR, q1]
        refine EW.skip ?_
        refine n8 _ ?_; clear n8 x8
        refine EW.hide fun Ψ10 n10 => ?_
        refine EW.region gs_nil ?_
        simp
        refine n10 _ _ ?_; clear n10
        have e3 : IntKind.i64.wrap ((k : Int) + 1) = k + 1 := wr_small (by omega) (by omega)
        refine ⟨(k + 1, nextR o (b, sm) all[k]), (St.le_lit rfl (by simp [e3, hn] <;> (try exact ⟨hs q2, q2⟩)) (by simp) (by simp) (by simp) (by simp)), ?_, ?_⟩
        · refine ⟨hc13, ?_, ?_⟩
          · rw [hn]; simp; try assumption
          · rw [← hw, List.drop_eq_getElem_cons hc13]; rfl
        · simp; omega
    · skip
      refine EW.drawn [(15, 16)] mixed (gAlt_sound (f := 44) (gRc_ok o) (gs_cons (rGood_ok o all[k] (by omega) (by omega) (by omega) hG) gs_nil)) (by kernel_rfl) ?_
      simp [hc13, e1, q1, q2]
      refine n9 _ ?_; clear n9 x9
      refine EW.cond (t := _) (by rfl) (fun hc37 => ?_) (fun hc37 => ?_)
      · simp at hc37
        have hn : nextR o (b, sm) all[k] = (all[k], true) := by simp [nextR, q1, q2]
        refine EW.hide fun Ψ11 n11 => ?_
        refine EW.region gs_nil ?_
        simp [hc13, e1]
        refine n11 _ _ ?_; clear n11
        refine n8 _ ?_; clear n8 x8
        refine EW.hide fun Ψ12 n12 => ?_
        refine EW.region gs_nil ?_
        simp
        refine n12 _ _ ?_; clear n12
        have e3 : IntKind.i64.wrap ((k : Int) + 1) = k + 1 := wr_small (by omega) (by omega)
        refine ⟨(k + 1, nextR o (b, sm) all[k]), (St.le_lit rfl (by simp [e3, hn] <;> (try exact ⟨hs q2, q2⟩)) (by simp) (by simp) (by simp) (by simp)), ?_, ?_⟩
        · refine ⟨hc13, ?_, ?_⟩
          · rw [hn]; simp; try assumption
          · rw [← hw, List.drop_eq_getElem_cons hc13]; rfl
        · simp; omega
      · simp at hc37
    · skip
      have hsb := hs q2
      refine EW.drawn [(15, 16)] mixed (gAlt_sound (f := 44) (gRc_ok o) (gs_cons (rGood_ok o all[k] (by omega) (by omega) (by omega) hG) gs_nil)) (by kernel_rfl) ?_
      simp [hc13, e1, q1, q2, q3, hxl, hsb, show o.bins.length < 1000000000 by omega]
      refine n9 _ ?_; clear n9 x9
      refine EW.cond (t := _) (by rfl) (fun hc37 => ?_) (fun hc37 => ?_)
      · simp at hc37
        have hn : nextR o (b, sm) all[k] = (all[k], true) := by simp [nextR, q1, q2, q3]
        refine EW.hide fun Ψ13 n13 => ?_
        refine EW.region gs_nil ?_
        simp [hc13, e1]
        refine n13 _ _ ?_; clear n13
        refine n8 _ ?_; clear n8 x8
        refine EW.hide fun Ψ14 n14 => ?_
        refine EW.region gs_nil ?_
        simp
        refine n14 _ _ ?_; clear n14
        have e3 : IntKind.i64.wrap ((k : Int) + 1) = k + 1 := wr_small (by omega) (by omega)
        refine ⟨(k + 1, nextR o (b, sm) all[k]), (St.le_lit rfl (by simp [e3, hn] <;> (try exact ⟨hs q2, q2⟩)) (by simp) (by simp) (by simp) (by simp)), ?_, ?_⟩
        · refine ⟨hc13, ?_, ?_⟩
          · rw [hn]; simp; try assumption
          · rw [← hw, List.drop_eq_getElem_cons hc13]; rfl
        · simp; omega
      · simp at hc37
    · skip
      have hsb := hs q2
      refine EW.drawn [(15, 16)] mixed (gAlt_sound (f := 44) (gRc_ok o) (gs_cons (rGood_ok o all[k] (by omega) (by omega) (by omega) hG) gs_nil)) (by kernel_rfl) ?_
      simp [hc13, e1, q1, q2, q3, hxl, hsb, show o.bins.length < 1000000000 by omega]
      refine n9 _ ?_; clear n9 x9
      refine EW.cond (t := _) (by rfl) (fun hc37 => ?_) (fun hc37 => ?_)
      · simp at hc37
      · simp at hc37
        have hn : nextR o (b, sm) all[k] = (b, sm) := by unfold nextR; rw [if_neg]; simp [q2]; intro _; omega
        refine EW.skip ?_
        refine n8 _ ?_; clear n8 x8
        refine EW.hide fun Ψ15 n15 => ?_
        refine EW.region gs_nil ?_
        simp
        refine n15 _ _ ?_; clear n15
        have e3 : IntKind.i64.wrap ((k : Int) + 1) = k + 1 := wr_small (by omega) (by omega)
        refine ⟨(k + 1, nextR o (b, sm) all[k]), (St.le_lit rfl (by simp [e3, hn] <;> (try exact ⟨hs q2, q2⟩)) (by simp) (by simp) (by simp) (by simp)), ?_, ?_⟩
        · refine ⟨hc13, ?_, ?_⟩
          · rw [hn]; simp; try assumption
          · rw [← hw, List.drop_eq_getElem_cons hc13]; rfl
        · simp; omega
  · simp at hc13
    have hkl : k = all.length := by omega
    subst hkl
    simp at hw
    refine EW.exit ?_
    refine x6 _ _ rfl ?_; clear n6 x6
    refine n4 _ ?_; clear n4 x4
    refine EW.seq fun Ψ16 n16 x16 => ?_
    refine EW.region gs_nil ?_
    simp
    refine n16 _ ?_; clear n16 x16
    refine EW.ret ?_
    refine ⟨_, _, _, rfl, ?_, ?_, ?_, ?_, ?_⟩ <;> simp [← hw]

end Go.Ev
end
