/- Lemmas for the claims of this seat: an evaluator over abstract values, its soundness, and the contracts of the functions of melt that it walks; no premise beyond what each theorem states. -/
import Derived.Test.YtdcelpomnboeoaaLA
import Derived.Test.YtdcelpomnboeoaaLB

section
set_option linter.all false
open Go Go.Ev Go.Proofs
namespace Go.Ev
set_option linter.unusedSimpArgs false
set_option linter.unusedVariables false


/-- What a blend weighs, and costs. -/
def weighL (bins : List MBin) : List Int → Nat → Int → Int → Int × Int
  | [], _, k, c => (k, c)
  | n :: l, i, k, c => match bins[i]? with
    | some b => weighL bins l (i + 1) (wr (k + wr (n * b.w))) (wr (c + wr (n * b.c)))
    | none => (k, c)
def weighS (o : MOrd) (l : List Int) (p : Nat × Int × Int) : St :=
  St.lit 38 [(2, .ptr (.own 2) 0), (8, .sl false false .U .no l.length (eInts l)), (9, .s (.int .i64 l.length)), (10, .s (.int .i64 p.1)), (4, .s (.int .i64 p.2.1)), (5, .s (.int .i64 p.2.2))] [(2, aOrdC o)] [] []
attribute [simp] weighS

theorem weigh_ok (o : MOrd) (l : List Int) (hb : l.length ≤ o.bins.length) (hl : (l.length : Int) < 9223372036854775807) : ACalls Try.prog 55 [.agg [.sl false false .U .no o.limits.length (eInts o.limits), .s (.int .i64 o.least), .s (.int .i64 o.most), .sl false false .U .no o.bins.length (eBins o.bins)], .sl false false .U .no l.length (eInts l)] [] (.ret (.tup [.s (.int .i64 (weighL o.bins l 0 0 0).1), .s (.int .i64 (weighL o.bins l 0 0 0).2)]) [] []) := by
  refine acalls_of_ew Try.func55 rfl rfl (by simp [Try.f55]) (rs := [.tmp 4, .tmp 5]) rfl ?_
  refine EW.seq fun Ψ0 n0 x0 => ?_
  refine EW.region gs_nil ?_
  simp
  refine n0 _ ?_; clear n0 x0
  refine EW.seq fun Ψ1 n1 x1 => ?_
  refine EW.seq fun Ψ2 n2 x2 => ?_
  refine EW.region gs_nil ?_
  simp
  refine n2 _ ?_; clear n2 x2
  refine EW.block ?_
  refine EW.loopA (weighS o l) (fun p => p.1 ≤ l.length ∧ weighL o.bins (l.drop p.1) p.1 p.2.1 p.2.2 = weighL o.bins l 0 0 0) (fun p => l.length - p.1) (0, 0, 0) (St.le_lit rfl (by simp) (by simp) (by simp) (by simp) (by simp)) ?_ fun p hk => ?_
  · simp
  obtain ⟨k, a, b⟩ := p
  obtain ⟨hk, hw⟩ := hk
  simp only at hk hw
  refine EW.seq fun Ψ3 n3 x3 => ?_
  refine EW.region gs_nil ?_
  simp
  refine n3 _ ?_; clear n3 x3
  refine EW.seq fun Ψ4 n4 x4 => ?_
  refine EW.cond (t := _) (by rfl) (fun hc11 => ?_) (fun hc11 => ?_)
  · simp at hc11
    have hkl : k < o.bins.length := by omega
    have e1 : l[k]? = some l[k] := List.getElem?_eq_getElem hc11
    have e2 : o.bins[k]? = some o.bins[k] := List.getElem?_eq_getElem hkl
    refine EW.skip ?_
    refine n4 _ ?_; clear n4 x4
    refine EW.seq fun Ψ5 n5 x5 => ?_
    refine EW.block ?_
    refine EW.seq fun Ψ6 n6 x6 => ?_
    refine EW.region gs_nil ?_
    simp [hc11, e1]
    refine n6 _ ?_; clear n6 x6
    refine EW.hide fun Ψ7 n7 => ?_
    refine EW.drawn [] mixed gs_nil (by kernel_rfl) ?_
    simp [hkl, e2]
    refine n7 _ _ ?_; clear n7
    refine n5 _ ?_; clear n5 x5
    refine EW.hide fun Ψ8 n8 => ?_
    refine EW.region gs_nil ?_
    simp
    refine n8 _ _ ?_; clear n8
    have e3 : IntKind.i64.wrap ((k : Int) + 1) = k + 1 := wr_small (by omega) (by omega)
    refine ⟨(k + 1, wr (a + wr (l[k] * o.bins[k].w)), wr (b + wr (l[k] * o.bins[k].c))), (St.le_lit rfl (by simp [e3]) (by simp) (by simp) (by simp) (by simp)), ?_, ?_⟩
    · refine ⟨hc11, ?_⟩
      rw [← hw, List.drop_eq_getElem_cons hc11]; simp [weighL, hkl]
    · simp; omega
  · simp at hc11
    have hkl : k = l.length := by omega
    subst hkl
    simp [weighL] at hw
    refine EW.exit ?_
    refine x4 _ _ rfl ?_; clear n4 x4
    refine n1 _ ?_; clear n1 x1
    refine EW.seq fun Ψ9 n9 x9 => ?_
    refine EW.region gs_nil ?_
    simp
    refine n9 _ ?_; clear n9 x9
    refine EW.ret ?_
    refine ⟨_, _, _, rfl, ?_, ?_, ?_, ?_, ?_⟩ <;> simp [← hw]

end Go.Ev
end

section
set_option linter.all false
open Go Go.Ev Go.Proofs
namespace Go.Ev
set_option linter.unusedSimpArgs false
set_option linter.unusedVariables false


/-- All lists are short. -/
def szO (o : MOrd) : Prop := (o.limits.length : Int) < 1000000000 ∧ (o.bins.length : Int) < 1000000000 ∧ ∀ b ∈ o.bins, (b.grams.length : Int) < 1000000000
theorem check_ok' (o : MOrd) (h : szO o) : ACalls Try.prog 34 [.agg [.sl false false .U .no o.limits.length (eInts o.limits), .s (.int .i64 o.least), .s (.int .i64 o.most), .sl false false .U .no o.bins.length (eBins o.bins)]] [] (.ret (.s (.int .i64 (ordErr o))) [] []) :=
  check_ok o (by have := h.1; omega) (by have := h.2.1; omega) (fun b hb => by have := h.2.2 b hb; omega)
def grabErr (bins : List MBin) : List Int → Nat → Int
  | [], _ => 0
  | n :: l, i => match bins[i]? with
    | some b => if inB n 0 b.g = true then grabErr bins l (i + 1) else 1
    | none => 0
def blendErr (o : MOrd) (l : List Int) : Int :=
  if ordErr o = 0 then if l.length = o.bins.length then grabErr o.bins l 0 else 2 else ordErr o
def cbkS (o : MOrd) (l : List Int) (k : Nat) : St :=
  St.lit 36 [(2, .ptr (.own 2) 0), (19, .sl false false .U .no l.length (eInts l)), (20, .s (.int .i64 l.length)), (21, .s (.int .i64 k))] [(2, aOrdC o)] [] []
attribute [simp] cbkS

theorem checkBlend_ok (o : MOrd) (l : List Int) (hz : szO o) (hl : (l.length : Int) < 9223372036854775807) : ACalls Try.prog 60 [.agg [.sl false false .U .no o.limits.length (eInts o.limits), .s (.int .i64 o.least), .s (.int .i64 o.most), .sl false false .U .no o.bins.length (eBins o.bins)], .sl false false .U .no l.length (eInts l)] [] (.ret (.s (.int .i64 (blendErr o l))) [] []) := by
  refine acalls_of_ew Try.func60 rfl rfl (by simp [Try.f60]) (rs := [.tmp 4]) rfl ?_
  refine EW.seq fun Ψ0 n0 x0 => ?_
  refine EW.region gs_nil ?_
  simp
  refine n0 _ ?_; clear n0 x0
  refine EW.seq fun Ψ1 n1 x1 => ?_
  refine EW.seq fun Ψ2 n2 x2 => ?_
  refine EW.region (gs_cons (check_ok' o hz) gs_nil) ?_
  simp
  refine n2 _ ?_; clear n2 x2
  refine EW.seq fun Ψ3 n3 x3 => ?_
  refine EW.region gs_nil ?_
  simp
  refine n3 _ ?_; clear n3 x3
  refine EW.cond (t := _) (by rfl) (fun hc11 => ?_) (fun hc11 => ?_)
  · have g1 : ¬ ordErr o = 0 := by simpa using hc11
    have hv : blendErr o l = ordErr o := by simp [blendErr, g1]
    refine EW.seq fun Ψ4 n4 x4 => ?_
    refine EW.region gs_nil ?_
    simp
    refine n4 _ ?_; clear n4 x4
    refine EW.ret ?_
    refine x1 _ _ rfl ?_; clear n1 x1
    refine ⟨_, _, _, rfl, ?_, ?_, ?_, ?_, ?_⟩ <;> simp [hv]
  · have g1 : ordErr o = 0 := by simpa using hc11
    refine EW.skip ?_
    refine n1 _ ?_; clear n1 x1
    refine EW.seq fun Ψ5 n5 x5 => ?_
    refine EW.seq fun Ψ6 n6 x6 => ?_
    refine EW.region gs_nil ?_
    simp
    refine n6 _ ?_; clear n6 x6
    refine EW.cond (t := _) (by rfl) (fun hc18 => ?_) (fun hc18 => ?_)
    · have g2 : ¬ l.length = o.bins.length := by simp at hc18; omega
      have hv : blendErr o l = 2 := by simp [blendErr, g1, g2]
      refine EW.seq fun Ψ7 n7 x7 => ?_
      refine EW.region gs_nil ?_
      simp
      refine n7 _ ?_; clear n7 x7
      refine EW.ret ?_
      refine x5 _ _ rfl ?_; clear n5 x5
      refine ⟨_, _, _, rfl, ?_, ?_, ?_, ?_, ?_⟩ <;> simp [hv]
    · have g2 : l.length = o.bins.length := by simp at hc18; omega
      have hE : blendErr o l = grabErr o.bins l 0 := by simp [blendErr, g1, g2]
      refine EW.skip ?_
      refine n5 _ ?_; clear n5 x5
      refine EW.seq fun Ψ8 n8 x8 => ?_
      refine EW.seq fun Ψ9 n9 x9 => ?_
      refine EW.region gs_nil ?_
      simp
      refine n9 _ ?_; clear n9 x9
      refine EW.block ?_
      refine EW.loopA (cbkS o l) (fun k => k ≤ l.length ∧ grabErr o.bins (l.drop k) k = grabErr o.bins l 0) (fun k => l.length - k) 0 (St.le_lit rfl (by simp) (by simp) (by simp) (by simp) (by simp)) ?_ fun p hk => ?_
      · simp
      rename Nat => k
      obtain ⟨hk, hw⟩ := hk
      refine EW.seq fun Ψ10 n10 x10 => ?_
      refine EW.region gs_nil ?_
      simp
      refine n10 _ ?_; clear n10 x10
      refine EW.seq fun Ψ11 n11 x11 => ?_
      refine EW.cond (t := _) (by rfl) (fun hc22 => ?_) (fun hc22 => ?_)
      · simp at hc22
        have hkb : k < o.bins.length := by omega
        have e1 : l[k]? = some l[k] := List.getElem?_eq_getElem hc22
        have e2 : o.bins[k]? = some o.bins[k] := List.getElem?_eq_getElem hkb
        refine EW.skip ?_
        refine n11 _ ?_; clear n11 x11
        refine EW.seq fun Ψ12 n12 x12 => ?_
        refine EW.block ?_
        refine EW.seq fun Ψ13 n13 x13 => ?_
        refine EW.region gs_nil ?_
        simp [hc22, e1]
        refine n13 _ ?_; clear n13 x13
        refine EW.seq fun Ψ14 n14 x14 => ?_
        cases q1 : inB l[k] 0 o.bins[k].g
        · skip
          refine EW.region (gI_ok gs_nil) ?_
          simp [hkb, e2, q1]
          refine n14 _ ?_; clear n14 x14
          refine EW.cond (t := _) (by rfl) (fun hc34 => ?_) (fun hc34 => ?_)
          · simp at hc34
            have hv : blendErr o l = 1 := by rw [hE, ← hw, List.drop_eq_getElem_cons hc22]; simp [grabErr, hkb, q1]
            refine EW.seq fun Ψ15 n15 x15 => ?_
            refine EW.region gs_nil ?_
            simp
            refine n15 _ ?_; clear n15 x15
            refine EW.ret ?_
            refine x12 _ _ rfl ?_; clear n12 x12
            refine x8 _ _ rfl ?_; clear n8 x8
            refine ⟨_, _, _, rfl, ?_, ?_, ?_, ?_, ?_⟩ <;> simp [hv]
          · simp at hc34
        · skip
          refine EW.region (gI_ok gs_nil) ?_
          simp [hkb, e2, q1]
          refine n14 _ ?_; clear n14 x14
          refine EW.cond (t := _) (by rfl) (fun hc34 => ?_) (fun hc34 => ?_)
          · simp at hc34
          · simp at hc34
            refine EW.skip ?_
            refine n12 _ ?_; clear n12 x12
            refine EW.hide fun Ψ16 n16 => ?_
            refine EW.region gs_nil ?_
            simp
            refine n16 _ _ ?_; clear n16
            have e3 : IntKind.i64.wrap ((k : Int) + 1) = k + 1 := wr_small (by omega) (by omega)
            refine ⟨k + 1, (St.le_lit rfl (by simp [e3]) (by simp) (by simp) (by simp) (by simp)), ?_, ?_⟩
            · refine ⟨hc22, ?_⟩
              rw [← hw, List.drop_eq_getElem_cons hc22]; simp [grabErr, hkb, q1]
            · omega
      · simp at hc22
        have hv : blendErr o l = 0 := by rw [hE, ← hw, List.drop_of_length_le (by omega)]; rfl
        refine EW.exit ?_
        refine x11 _ _ rfl ?_; clear n11 x11
        refine n8 _ ?_; clear n8 x8
        refine EW.seq fun Ψ17 n17 x17 => ?_
        refine EW.region gs_nil ?_
        simp
        refine n17 _ ?_; clear n17 x17
        refine EW.ret ?_
        refine ⟨_, _, _, rfl, ?_, ?_, ?_, ?_, ?_⟩ <;> simp [hv]

theorem Weigh_ok (o : MOrd) (l : List Int) (hz : szO o) (hl : (l.length : Int) < 9223372036854775807) : ACalls Try.prog 31 [.agg [.sl false false .U .no o.limits.length (eInts o.limits), .s (.int .i64 o.least), .s (.int .i64 o.most), .sl false false .U .no o.bins.length (eBins o.bins)], .sl false false .U .no l.length (eInts l)] [] (.ret (.tup [.s (.int .i64 (if blendErr o l = 0 then (weighL o.bins l 0 0 0).1 else 0)), .s (.int .i64 (if blendErr o l = 0 then (weighL o.bins l 0 0 0).2 else 0)), .s (.int .i64 (blendErr o l))]) [] []) := by
  refine acalls_of_ew Try.func31 rfl rfl (by simp [Try.f31]) (rs := [.tmp 4, .tmp 5, .tmp 6]) rfl ?_
  refine EW.seq fun Ψ0 n0 x0 => ?_
  refine EW.region gs_nil ?_
  simp
  refine n0 _ ?_; clear n0 x0
  refine EW.seq fun Ψ1 n1 x1 => ?_
  refine EW.seq fun Ψ2 n2 x2 => ?_
  refine EW.region (gs_cons (checkBlend_ok o l hz hl) gs_nil) ?_
  simp
  refine n2 _ ?_; clear n2 x2
  refine EW.seq fun Ψ3 n3 x3 => ?_
  refine EW.region gs_nil ?_
  simp
  refine n3 _ ?_; clear n3 x3
  refine EW.cond (t := _) (by rfl) (fun hc12 => ?_) (fun hc12 => ?_)
  · have g1 : ¬ blendErr o l = 0 := by simpa using hc12
    refine EW.seq fun Ψ4 n4 x4 => ?_
    refine EW.region gs_nil ?_
    simp
    refine n4 _ ?_; clear n4 x4
    refine EW.ret ?_
    refine x1 _ _ rfl ?_; clear n1 x1
    refine ⟨_, _, _, rfl, ?_, ?_, ?_, ?_, ?_⟩ <;> simp [g1]
  · have g1 : blendErr o l = 0 := by simpa using hc12
    have g2 : l.length ≤ o.bins.length := by
      apply Classical.byContradiction; intro hn
      unfold blendErr at g1; split at g1
      · rw [if_neg (by omega)] at g1; cases g1
      · rename_i h; exact h g1
    refine EW.skip ?_
    refine n1 _ ?_; clear n1 x1
    refine EW.seq fun Ψ5 n5 x5 => ?_
    refine EW.region (gs_cons (weigh_ok o l g2 hl) gs_nil) ?_
    simp
    refine n5 _ ?_; clear n5 x5
    refine EW.seq fun Ψ6 n6 x6 => ?_
    refine EW.region gs_nil ?_
    simp
    refine n6 _ ?_; clear n6 x6
    refine EW.ret ?_
    refine ⟨_, _, _, rfl, ?_, ?_, ?_, ?_, ?_⟩ <;> simp [g1]

end Go.Ev
end

section
set_option linter.all false
open Go Go.Ev Go.Proofs
namespace Go.Ev
set_option linter.unusedSimpArgs false
set_option linter.unusedVariables false

theorem least_ok (a b : Int) : ACalls Try.prog 84 [.agg [.s (.int .i64 a), .s (.int .i64 b)]] [] (.ret (.s (.int .i64 a)) [] []) := by
  refine acalls_of_ew Try.func84 rfl rfl (by simp [Try.f84]) (rs := [.tmp 2]) rfl ?_
  refine EW.seq fun Ψ0 n0 x0 => ?_
  refine EW.region gs_nil ?_
  simp
  refine n0 _ ?_; clear n0 x0
  refine EW.seq fun Ψ1 n1 x1 => ?_
  refine EW.region gs_nil ?_
  simp
  refine n1 _ ?_; clear n1 x1
  refine EW.ret ?_
  refine ⟨_, _, _, rfl, ?_, ?_, ?_, ?_, ?_⟩ <;> simp

theorem most_ok (a b : Int) : ACalls Try.prog 85 [.agg [.s (.int .i64 a), .s (.int .i64 b)]] [] (.ret (.s (.int .i64 b)) [] []) := by
  refine acalls_of_ew Try.func85 rfl rfl (by simp [Try.f85]) (rs := [.tmp 2]) rfl ?_
  refine EW.seq fun Ψ0 n0 x0 => ?_
  refine EW.region gs_nil ?_
  simp
  refine n0 _ ?_; clear n0 x0
  refine EW.seq fun Ψ1 n1 x1 => ?_
  refine EW.region gs_nil ?_
  simp
  refine n1 _ ?_; clear n1 x1
  refine EW.ret ?_
  refine ⟨_, _, _, rfl, ?_, ?_, ?_, ?_, ?_⟩ <;> simp


def endR (q : Bool) (r : Int × Int) : Int := if q then r.2 else r.1
def gEnd (q : Bool) : List AV → List (List AV) → Option Out
  | [.agg [.s (.int .i64 a), .s (.int .i64 b)]], [] => some (.ret (.s (.int .i64 (endR q (a, b)))) [] [])
  | _, _ => none
theorem gEnd_l : ∀ a e o, gEnd false a e = some o → ACalls Try.prog 84 a e o := by
  intro a e o h
  unfold gEnd at h
  split at h
  · cases h; exact least_ok _ _
  · cases h
theorem gEnd_m : ∀ a e o, gEnd true a e = some o → ACalls Try.prog 85 a e o := by
  intro a e o h
  unfold gEnd at h
  split at h
  · cases h; exact most_ok _ _
  · cases h
attribute [simp] gEnd
/-- By how much a blend is beyond a limit. -/
def beyL (q : Bool) (lims : List Int) (bins : List MBin) (j : Nat) : List Int → Nat → Int → Int
  | [], _, s => s
  | n :: l, i, s => match bins[i]? with
    | some b => match b.grams[j]?, lims[j]? with
      | some r, some m => beyL q lims bins j l (i + 1) (wr (s + wr (wr (n * b.w) * wr (endR q r - m))))
      | _, _ => s
    | none => s
def beyS (o : MOrd) (l : List Int) (j : Nat) (f : FuncId) (p : Nat × Int) : St :=
  St.lit 49 [(2, .s (.int .i64 j)), (3, .fn f []), (4, .ptr (.own 4) 0), (12, .sl false false .U .no l.length (eInts l)), (13, .s (.int .i64 l.length)), (14, .s (.int .i64 p.1)), (9, .s (.int .i64 p.2))] [(4, aOrdC o)] [] []
attribute [simp] beyS

set_option maxHeartbeats 1000000 in
theorem beyond_ok84 (o : MOrd) (l : List Int) (j : Nat) (hl : (l.length : Int) < 9223372036854775807) (hb : l.length ≤ o.bins.length) (hj : j < o.limits.length) (hg : ∀ b ∈ o.bins, b.grams.length = o.limits.length) : ACalls Try.prog 83 [.agg [.sl false false .U .no o.limits.length (eInts o.limits), .s (.int .i64 o.least), .s (.int .i64 o.most), .sl false false .U .no o.bins.length (eBins o.bins)], .sl false false .U .no l.length (eInts l), .s (.int .i64 j), .fn 84 []] [] (.ret (.s (.int .i64 (beyL false o.limits o.bins j l 0 0))) [] []) := by
  refine acalls_of_ew Try.func83 rfl rfl (by simp [Try.f83]) (rs := [.tmp 8]) rfl ?_
  refine EW.seq fun Ψ0 n0 x0 => ?_
  refine EW.region gs_nil ?_
  simp
  refine n0 _ ?_; clear n0 x0
  refine EW.seq fun Ψ1 n1 x1 => ?_
  refine EW.region gs_nil ?_
  simp
  refine n1 _ ?_; clear n1 x1
  refine EW.seq fun Ψ2 n2 x2 => ?_
  refine EW.seq fun Ψ3 n3 x3 => ?_
  refine EW.region gs_nil ?_
  simp
  refine n3 _ ?_; clear n3 x3
  refine EW.block ?_
  refine EW.loopA (beyS o l j 84) (fun p => p.1 ≤ l.length ∧ beyL false o.limits o.bins j (l.drop p.1) p.1 p.2 = beyL false o.limits o.bins j l 0 0) (fun p => l.length - p.1) (0, 0) (St.le_lit rfl (by simp) (by simp) (by simp) (by simp) (by simp)) ?_ fun p hk => ?_
  · simp
  obtain ⟨k, s⟩ := p
  obtain ⟨hk, hw⟩ := hk
  simp only at hk hw
  refine EW.seq fun Ψ4 n4 x4 => ?_
  refine EW.region gs_nil ?_
  simp
  refine n4 _ ?_; clear n4 x4
  refine EW.seq fun Ψ5 n5 x5 => ?_
  refine EW.cond (t := _) (by rfl) (fun hc15 => ?_) (fun hc15 => ?_)
  · simp at hc15
    have hkl : k < o.bins.length := by omega
    have e1 : l[k]? = some l[k] := List.getElem?_eq_getElem hc15
    have e2 : o.bins[k]? = some o.bins[k] := List.getElem?_eq_getElem hkl
    have hjg : j < o.bins[k].grams.length := by rw [hg _ (List.getElem_mem hkl)]; exact hj
    have e4 : o.bins[k].grams[j]? = some o.bins[k].grams[j] := List.getElem?_eq_getElem hjg
    have e5 : o.limits[j]? = some o.limits[j] := List.getElem?_eq_getElem hj
    refine EW.skip ?_
    refine n5 _ ?_; clear n5 x5
    refine EW.seq fun Ψ6 n6 x6 => ?_
    refine EW.block ?_
    refine EW.seq fun Ψ7 n7 x7 => ?_
    refine EW.region gs_nil ?_
    simp [hc15, e1]
    refine n7 _ ?_; clear n7 x7
    refine EW.hide fun Ψ8 n8 => ?_
    refine EW.drawn [(3, 19), (7, 19), (19, 21), (19, 24)] mixed (gAlt_sound (f := 84) gEnd_l gs_nil) (by kernel_rfl) ?_
    simp [hkl, hj, hjg, e2, e5, eRngs_atm _ _ _ _ _ e4, show 2 ≤ o.bins[k].grams.length * 2 - j * 2 by omega]
    refine n8 _ _ ?_; clear n8
    refine n6 _ ?_; clear n6 x6
    refine EW.hide fun Ψ9 n9 => ?_
    refine EW.region gs_nil ?_
    simp
    refine n9 _ _ ?_; clear n9
    have e3 : IntKind.i64.wrap ((k : Int) + 1) = k + 1 := wr_small (by omega) (by omega)
    refine ⟨(k + 1, wr (s + wr (wr (l[k] * o.bins[k].w) * wr (endR false o.bins[k].grams[j] - o.limits[j])))), (St.le_lit rfl (by simp [e3]) (by simp) (by simp) (by simp) (by simp)), ?_, ?_⟩
    · refine ⟨hc15, ?_⟩
      rw [← hw, List.drop_eq_getElem_cons hc15]; simp [beyL, hkl, hjg, hj]
    · simp; omega
  · simp at hc15
    have hkl : k = l.length := by omega
    subst hkl
    simp [beyL] at hw
    refine EW.exit ?_
    refine x5 _ _ rfl ?_; clear n5 x5
    refine n2 _ ?_; clear n2 x2
    refine EW.seq fun Ψ10 n10 x10 => ?_
    refine EW.region gs_nil ?_
    simp
    refine n10 _ ?_; clear n10 x10
    refine EW.ret ?_
    refine ⟨_, _, _, rfl, ?_, ?_, ?_, ?_, ?_⟩ <;> simp [← hw]

set_option maxHeartbeats 1000000 in
theorem beyond_ok85 (o : MOrd) (l : List Int) (j : Nat) (hl : (l.length : Int) < 9223372036854775807) (hb : l.length ≤ o.bins.length) (hj : j < o.limits.length) (hg : ∀ b ∈ o.bins, b.grams.length = o.limits.length) : ACalls Try.prog 83 [.agg [.sl false false .U .no o.limits.length (eInts o.limits), .s (.int .i64 o.least), .s (.int .i64 o.most), .sl false false .U .no o.bins.length (eBins o.bins)], .sl false false .U .no l.length (eInts l), .s (.int .i64 j), .fn 85 []] [] (.ret (.s (.int .i64 (beyL true o.limits o.bins j l 0 0))) [] []) := by
  refine acalls_of_ew Try.func83 rfl rfl (by simp [Try.f83]) (rs := [.tmp 8]) rfl ?_
  refine EW.seq fun Ψ0 n0 x0 => ?_
  refine EW.region gs_nil ?_
  simp
  refine n0 _ ?_; clear n0 x0
  refine EW.seq fun Ψ1 n1 x1 => ?_
  refine EW.region gs_nil ?_
  simp
  refine n1 _ ?_; clear n1 x1
  refine EW.seq fun Ψ2 n2 x2 => ?_
  refine EW.seq fun Ψ3 n3 x3 => ?_
  refine EW.region gs_nil ?_
  simp
  refine n3 _ ?_; clear n3 x3
  refine EW.block ?_
  refine EW.loopA (beyS o l j 85) (fun p => p.1 ≤ l.length ∧ beyL true o.limits o.bins j (l.drop p.1) p.1 p.2 = beyL true o.limits o.bins j l 0 0) (fun p => l.length - p.1) (0, 0) (St.le_lit rfl (by simp) (by simp) (by simp) (by simp) (by simp)) ?_ fun p hk => ?_
  · simp
  obtain ⟨k, s⟩ := p
  obtain ⟨hk, hw⟩ := hk
  simp only at hk hw
  refine EW.seq fun Ψ4 n4 x4 => ?_
  refine EW.region gs_nil ?_
  simp
  refine n4 _ ?_; clear n4 x4
  refine EW.seq fun Ψ5 n5 x5 => ?_
  refine EW.cond (t := _) (by rfl) (fun hc15 => ?_) (fun hc15 => ?_)
  · simp at hc15
    have hkl : k < o.bins.length := by omega
    have e1 : l[k]? = some l[k] := List.getElem?_eq_getElem hc15
    have e2 : o.bins[k]? = some o.bins[k] := List.getElem?_eq_getElem hkl
    have hjg : j < o.bins[k].grams.length := by rw [hg _ (List.getElem_mem hkl)]; exact hj
    have e4 : o.bins[k].grams[j]? = some o.bins[k].grams[j] := List.getElem?_eq_getElem hjg
    have e5 : o.limits[j]? = some o.limits[j] := List.getElem?_eq_getElem hj
    refine EW.skip ?_
    refine n5 _ ?_; clear n5 x5
    refine EW.seq fun Ψ6 n6 x6 => ?_
    refine EW.block ?_
    refine EW.seq fun Ψ7 n7 x7 => ?_
    refine EW.region gs_nil ?_
    simp [hc15, e1]
    refine n7 _ ?_; clear n7 x7
    refine EW.hide fun Ψ8 n8 => ?_
    refine EW.drawn [(3, 19), (7, 19), (19, 21), (19, 24)] mixed (gAlt_sound (f := 85) gEnd_m gs_nil) (by kernel_rfl) ?_
    simp [hkl, hj, hjg, e2, e5, eRngs_atm _ _ _ _ _ e4, show 2 ≤ o.bins[k].grams.length * 2 - j * 2 by omega]
    refine n8 _ _ ?_; clear n8
    refine n6 _ ?_; clear n6 x6
    refine EW.hide fun Ψ9 n9 => ?_
    refine EW.region gs_nil ?_
    simp
    refine n9 _ _ ?_; clear n9
    have e3 : IntKind.i64.wrap ((k : Int) + 1) = k + 1 := wr_small (by omega) (by omega)
    refine ⟨(k + 1, wr (s + wr (wr (l[k] * o.bins[k].w) * wr (endR true o.bins[k].grams[j] - o.limits[j])))), (St.le_lit rfl (by simp [e3]) (by simp) (by simp) (by simp) (by simp)), ?_, ?_⟩
    · refine ⟨hc15, ?_⟩
      rw [← hw, List.drop_eq_getElem_cons hc15]; simp [beyL, hkl, hjg, hj]
    · simp; omega
  · simp at hc15
    have hkl : k = l.length := by omega
    subst hkl
    simp [beyL] at hw
    refine EW.exit ?_
    refine x5 _ _ rfl ?_; clear n5 x5
    refine n2 _ ?_; clear n2 x2
    refine EW.seq fun Ψ10 n10 x10 => ?_
    refine EW.region gs_nil ?_
    simp
    refine n10 _ ?_; clear n10 x10
    refine EW.ret ?_
    refine ⟨_, _, _, rfl, ?_, ?_, ?_, ?_, ?_⟩ <;> simp [← hw]

end Go.Ev
end

section
set_option linter.all false
open Go Go.Ev Go.Proofs
namespace Go.Ev
set_option linter.unusedSimpArgs false
set_option linter.unusedVariables false


/-- Whether a blend keeps its limits: from metal j on, with n metals left, and what is known. -/
def keepL (o : MOrd) (l : List Int) : Nat → Nat → Int → Int
  | 0, _, v => v
  | n + 1, j, v => if 0 < beyL false o.limits o.bins j l 0 0 then 2 else keepL o l n (j + 1) (if 0 < beyL true o.limits o.bins j l 0 0 then 3 else v)
def keepV (o : MOrd) (l : List Int) : Int := keepL o l o.limits.length 0 1
def keepS (o : MOrd) (l : List Int) (p : Nat × Int) : St :=
  St.lit 27 [(1, .sl false false .U .no l.length (eInts l)), (2, .ptr (.own 2) 0), (5, .s (.int .i64 p.2)), (9, .s (.int .i64 o.limits.length)), (10, .s (.int .i64 p.1))] [(2, aOrdC o)] [] []
attribute [simp] keepS

theorem keeps_ok (o : MOrd) (l : List Int) (hl : (l.length : Int) < 9223372036854775807) (hb : l.length ≤ o.bins.length) (h1 : (o.limits.length : Int) < 9223372036854775807) (hg : ∀ b ∈ o.bins, b.grams.length = o.limits.length) : ACalls Try.prog 57 [.agg [.sl false false .U .no o.limits.length (eInts o.limits), .s (.int .i64 o.least), .s (.int .i64 o.most), .sl false false .U .no o.bins.length (eBins o.bins)], .sl false false .U .no l.length (eInts l)] [] (.ret (.s (.int .i64 (keepV o l))) [] []) := by
  refine acalls_of_ew Try.func57 rfl rfl (by simp [Try.f57]) (rs := [.tmp 4]) rfl ?_
  refine EW.seq fun Ψ0 n0 x0 => ?_
  refine EW.region gs_nil ?_
  simp
  refine n0 _ ?_; clear n0 x0
  refine EW.seq fun Ψ1 n1 x1 => ?_
  refine EW.region gs_nil ?_
  simp
  refine n1 _ ?_; clear n1 x1
  refine EW.seq fun Ψ2 n2 x2 => ?_
  refine EW.seq fun Ψ3 n3 x3 => ?_
  refine EW.region gs_nil ?_
  simp
  refine n3 _ ?_; clear n3 x3
  refine EW.block ?_
  refine EW.loopA (keepS o l) (fun p => p.1 ≤ o.limits.length ∧ keepL o l (o.limits.length - p.1) p.1 p.2 = keepV o l) (fun p => o.limits.length - p.1) (0, 1) (St.le_lit rfl (by simp) (by simp) (by simp) (by simp) (by simp)) ?_ fun p hk => ?_
  · simp [keepV]
  obtain ⟨k, v⟩ := p
  obtain ⟨hk, hw⟩ := hk
  simp only at hk hw
  refine EW.seq fun Ψ4 n4 x4 => ?_
  refine EW.region gs_nil ?_
  simp
  refine n4 _ ?_; clear n4 x4
  refine EW.seq fun Ψ5 n5 x5 => ?_
  refine EW.cond (t := _) (by rfl) (fun hc11 => ?_) (fun hc11 => ?_)
  · simp at hc11
    have hn : o.limits.length - k = (o.limits.length - (k + 1)) + 1 := by omega
    refine EW.skip ?_
    refine n5 _ ?_; clear n5 x5
    refine EW.seq fun Ψ6 n6 x6 => ?_
    refine EW.block ?_
    refine EW.seq fun Ψ7 n7 x7 => ?_
    refine EW.region gs_nil ?_
    simp
    refine n7 _ ?_; clear n7 x7
    refine EW.block ?_
    refine EW.seq fun Ψ8 n8 x8 => ?_
    refine EW.region (gs_cons (beyond_ok84 o l k hl hb hc11 hg) gs_nil) ?_
    simp
    refine n8 _ ?_; clear n8 x8
    refine EW.cond (t := _) (by rfl) (fun hc13 => ?_) (fun hc13 => ?_)
    · simp at hc13
      have hv : keepV o l = 2 := by rw [← hw, hn]; simp [keepL, hc13]
      refine EW.seq fun Ψ9 n9 x9 => ?_
      refine EW.region gs_nil ?_
      simp
      refine n9 _ ?_; clear n9 x9
      refine EW.ret ?_
      refine x6 _ _ rfl ?_; clear n6 x6
      refine x2 _ _ rfl ?_; clear n2 x2
      refine ⟨_, _, _, rfl, ?_, ?_, ?_, ?_, ?_⟩ <;> simp [hv]
    · simp at hc13
      refine EW.seq fun Ψ10 n10 x10 => ?_
      refine EW.region (gs_cons (beyond_ok85 o l k hl hb hc11 hg) gs_nil) ?_
      simp
      refine n10 _ ?_; clear n10 x10
      refine EW.cond (t := _) (by rfl) (fun hc19 => ?_) (fun hc19 => ?_)
      · simp at hc19
        refine EW.hide fun Ψ11 n11 => ?_
        refine EW.region gs_nil ?_
        simp
        refine n11 _ _ ?_; clear n11
        refine n6 _ ?_; clear n6 x6
        refine EW.hide fun Ψ12 n12 => ?_
        refine EW.region gs_nil ?_
        simp
        refine n12 _ _ ?_; clear n12
        have e3 : IntKind.i64.wrap ((k : Int) + 1) = k + 1 := wr_small (by omega) (by omega)
        refine ⟨(k + 1, if 0 < beyL true o.limits o.bins k l 0 0 then 3 else v), (St.le_lit rfl (by simp [e3, hc19]; try omega) (by simp) (by simp) (by simp) (by simp)), ?_, ?_⟩
        · refine ⟨hc11, ?_⟩
          rw [← hw, hn]; simp [keepL, show ¬ 0 < beyL false o.limits o.bins k l 0 0 by omega]
        · simp; omega
      · simp at hc19
        refine EW.skip ?_
        refine n6 _ ?_; clear n6 x6
        refine EW.hide fun Ψ13 n13 => ?_
        refine EW.region gs_nil ?_
        simp
        refine n13 _ _ ?_; clear n13
        have e3 : IntKind.i64.wrap ((k : Int) + 1) = k + 1 := wr_small (by omega) (by omega)
        refine ⟨(k + 1, if 0 < beyL true o.limits o.bins k l 0 0 then 3 else v), (St.le_lit rfl (by simp [e3, hc19]; try omega) (by simp) (by simp) (by simp) (by simp)), ?_, ?_⟩
        · refine ⟨hc11, ?_⟩
          rw [← hw, hn]; simp [keepL, show ¬ 0 < beyL false o.limits o.bins k l 0 0 by omega]
        · simp; omega
  · simp at hc11
    have hv : keepV o l = v := by rw [← hw, show o.limits.length - k = 0 by omega]; rfl
    refine EW.exit ?_
    refine x5 _ _ rfl ?_; clear n5 x5
    refine n2 _ ?_; clear n2 x2
    refine EW.seq fun Ψ14 n14 x14 => ?_
    refine EW.region gs_nil ?_
    simp
    refine n14 _ ?_; clear n14 x14
    refine EW.ret ?_
    refine ⟨_, _, _, rfl, ?_, ?_, ?_, ?_, ?_⟩ <;> simp [hv]

end Go.Ev
end

section
set_option linter.all false
open Go Go.Ev Go.Proofs
namespace Go.Ev
set_option linter.unusedSimpArgs false
set_option linter.unusedVariables false


theorem binsErr_len (nl : Nat) : ∀ (l : List MBin), binsErr nl l = 0 → ∀ b ∈ l, b.grams.length = nl
  | [], _, b, hb => by cases hb
  | x :: l, h, b, hb => by
    unfold binsErr at h
    split at h
    · rename_i hx
      rcases List.mem_cons.1 hb with rfl | hb
      · unfold binErr at hx
        split at hx
        · assumption
        · cases hx
      · exact binsErr_len nl l h b hb
    · rename_i hx; exact absurd h hx
theorem ordErr_bins (o : MOrd) (h : ordErr o = 0) : binsErr o.limits.length o.bins = 0 := by
  unfold ordErr at h
  repeat (split at h; first | cases h | skip)
  exact h
theorem blendErr_ord (o : MOrd) (l : List Int) (h : blendErr o l = 0) : ordErr o = 0 ∧ l.length = o.bins.length := by
  unfold blendErr at h
  split at h
  · rename_i h1
    split at h
    · exact ⟨h1, by assumption⟩
    · cases h
  · rename_i h1; exact absurd h h1

theorem Keeps_ok (o : MOrd) (l : List Int) (hz : szO o) (hl : (l.length : Int) < 9223372036854775807) : ACalls Try.prog 24 [.agg [.sl false false .U .no o.limits.length (eInts o.limits), .s (.int .i64 o.least), .s (.int .i64 o.most), .sl false false .U .no o.bins.length (eBins o.bins)], .sl false false .U .no l.length (eInts l)] [] (.ret (.tup [.s (.int .i64 (if blendErr o l = 0 then keepV o l else 0)), .s (.int .i64 (blendErr o l))]) [] []) := by
  refine acalls_of_ew Try.func24 rfl rfl (by simp [Try.f24]) (rs := [.tmp 4, .tmp 5]) rfl ?_
  refine EW.seq fun Ψ0 n0 x0 => ?_
  refine EW.region gs_nil ?_
  simp
  refine n0 _ ?_; clear n0 x0
  refine EW.seq fun Ψ1 n1 x1 => ?_
  refine EW.seq fun Ψ2 n2 x2 => ?_
  refine EW.region (gs_cons (checkBlend_ok o l hz hl) gs_nil) ?_
  simp
  refine n2 _ ?_; clear n2 x2
  refine EW.seq fun Ψ3 n3 x3 => ?_
  refine EW.region gs_nil ?_
  simp
  refine n3 _ ?_; clear n3 x3
  refine EW.cond (t := _) (by rfl) (fun hc11 => ?_) (fun hc11 => ?_)
  · have g1 : ¬ blendErr o l = 0 := by simpa using hc11
    refine EW.seq fun Ψ4 n4 x4 => ?_
    refine EW.region gs_nil ?_
    simp
    refine n4 _ ?_; clear n4 x4
    refine EW.ret ?_
    refine x1 _ _ rfl ?_; clear n1 x1
    refine ⟨_, _, _, rfl, ?_, ?_, ?_, ?_, ?_⟩ <;> simp [g1]
  · have g1 : blendErr o l = 0 := by simpa using hc11
    obtain ⟨g2, g3⟩ := blendErr_ord o l g1
    have g4 := binsErr_len _ _ (ordErr_bins o g2)
    refine EW.skip ?_
    refine n1 _ ?_; clear n1 x1
    refine EW.seq fun Ψ5 n5 x5 => ?_
    refine EW.region (gs_cons (keeps_ok o l hl (by omega) (by have := hz.1; omega) g4) gs_nil) ?_
    simp
    refine n5 _ ?_; clear n5 x5
    refine EW.ret ?_
    refine ⟨_, _, _, rfl, ?_, ?_, ?_, ?_, ?_⟩ <;> simp [g1]

end Go.Ev
end

section
set_option linter.all false
open Go Go.Ev Go.Proofs
namespace Go.Ev
set_option linter.unusedSimpArgs false
set_option linter.unusedVariables false


theorem bor2 (a b : Bool) : a = false ∨ (a = true ∧ b = false) ∨ (a = true ∧ b = true) := by cases a <;> cases b <;> simp
def rcbS (o : MOrd) (b : MBin) (k : Nat) : St :=
  St.lit 67 [(2, .ptr (.own 2) 0), (3, .ptr (.own 3) 0), (5, .s (.int .i64 k))]
    [(2, aOrdC o), (3, [.sl false false .U .no b.grams.length (eRngs b.grams), .s (.int .i64 b.w), .s (.int .i64 b.c), .s (.int .i64 b.g)])] [] []
attribute [simp] rcbS

set_option maxHeartbeats 1000000 in
theorem rcheckBin_ok (o : MOrd) (b : MBin) (hl : (b.grams.length : Int) < 9223372036854775807) : ACalls Try.prog 69 [.agg [.sl false false .U .no o.limits.length (eInts o.limits), .s (.int .i64 o.least), .s (.int .i64 o.most), .sl false false .U .no o.bins.length (eBins o.bins)], .agg [.sl false false .U .no b.grams.length (eRngs b.grams), .s (.int .i64 b.w), .s (.int .i64 b.c), .s (.int .i64 b.g)]] [] (.ret (.s (.int .i64 (binErr o.limits.length b))) [] []) := by
  refine acalls_of_ew Try.func69 rfl rfl (by simp [Try.f69]) (rs := [.tmp 4]) rfl ?_
  refine EW.seq fun Ψ0 n0 x0 => ?_
  refine EW.region gs_nil ?_
  simp
  refine n0 _ ?_; clear n0 x0
  refine EW.seq fun Ψ1 n1 x1 => ?_
  refine EW.seq fun Ψ2 n2 x2 => ?_
  refine EW.region gs_nil ?_
  simp
  refine n2 _ ?_; clear n2 x2
  refine EW.cond (t := _) (by rfl) (fun hc12 => ?_) (fun hc12 => ?_)
  · have hlen : ¬ b.grams.length = o.limits.length := by simp at hc12; omega
    have hv : binErr o.limits.length b = 2 := by simp [binErr, hlen]
    refine EW.seq fun Ψ3 n3 x3 => ?_
    refine EW.region gs_nil ?_
    simp
    refine n3 _ ?_; clear n3 x3
    refine EW.ret ?_
    refine x1 _ _ rfl ?_; clear n1 x1
    refine ⟨_, _, _, rfl, ?_, ?_, ?_, ?_, ?_⟩ <;> simp [hv]
  · have hlen : b.grams.length = o.limits.length := by simp at hc12; omega
    refine EW.skip ?_
    refine n1 _ ?_; clear n1 x1
    refine EW.seq fun Ψ4 n4 x4 => ?_
    refine EW.seq fun Ψ5 n5 x5 => ?_
    refine EW.region gs_nil ?_
    simp
    refine n5 _ ?_; clear n5 x5
    refine EW.block ?_
    refine EW.loopA (rcbS o b) (fun k => k ≤ b.grams.length ∧ rngsErr (b.grams.drop k) = rngsErr b.grams) (fun k => b.grams.length - k) 0 (St.le_lit rfl (by simp) (by simp) (by simp) (by simp) (by simp)) ?_ fun p hk => ?_
    · simp
    rename Nat => k
    obtain ⟨hk, hw⟩ := hk
    refine EW.seq fun Ψ6 n6 x6 => ?_
    refine EW.seq fun Ψ7 n7 x7 => ?_
    refine EW.region gs_nil ?_
    simp
    refine n7 _ ?_; clear n7 x7
    refine EW.cond (t := _) (by rfl) (fun hc17 => ?_) (fun hc17 => ?_)
    · simp at hc17
      have e1 : b.grams[k]? = some b.grams[k] := List.getElem?_eq_getElem hc17
      refine EW.skip ?_
      refine n6 _ ?_; clear n6 x6
      refine EW.seq fun Ψ8 n8 x8 => ?_
      refine EW.block ?_
      refine EW.seq fun Ψ9 n9 x9 => ?_
      refine EW.seq fun Ψ10 n10 x10 => ?_
      rcases bor2 (inB b.grams[k].1 0 1000000) (inB b.grams[k].2 0 1000000) with q1 | ⟨q1, q2⟩ | ⟨q1, q2⟩
      · skip
        refine EW.region (gI_ok gs_nil) ?_
        simp [hc17, e1, q1]
        refine n10 _ ?_; clear n10 x10
        refine EW.cond (t := _) (by rfl) (fun hc37 => ?_) (fun hc37 => ?_)
        · simp at hc37
          have e4 : rngErr b.grams[k] = 1 := by simp [rngErr, q1]
          have hv : binErr o.limits.length b = 1 := by rw [List.drop_eq_getElem_cons hc17] at hw; simp [rngsErr, e4] at hw; simp [binErr, hlen, ← hw]
          refine EW.seq fun Ψ11 n11 x11 => ?_
          refine EW.region gs_nil ?_
          simp
          refine n11 _ ?_; clear n11 x11
          refine EW.ret ?_
          refine x9 _ _ rfl ?_; clear n9 x9
          refine x8 _ _ rfl ?_; clear n8 x8
          refine x4 _ _ rfl ?_; clear n4 x4
          refine ⟨_, _, _, rfl, ?_, ?_, ?_, ?_, ?_⟩ <;> simp [hv]
        · simp at hc37
      · skip
        refine EW.region (gI_ok gs_nil) ?_
        simp [hc17, e1, q1, q2]
        refine n10 _ ?_; clear n10 x10
        refine EW.cond (t := _) (by rfl) (fun hc37 => ?_) (fun hc37 => ?_)
        · simp at hc37
          have e4 : rngErr b.grams[k] = 1 := by simp [rngErr, q1, q2]
          have hv : binErr o.limits.length b = 1 := by rw [List.drop_eq_getElem_cons hc17] at hw; simp [rngsErr, e4] at hw; simp [binErr, hlen, ← hw]
          refine EW.seq fun Ψ12 n12 x12 => ?_
          refine EW.region gs_nil ?_
          simp
          refine n12 _ ?_; clear n12 x12
          refine EW.ret ?_
          refine x9 _ _ rfl ?_; clear n9 x9
          refine x8 _ _ rfl ?_; clear n8 x8
          refine x4 _ _ rfl ?_; clear n4 x4
          refine ⟨_, _, _, rfl, ?_, ?_, ?_, ?_, ?_⟩ <;> simp [hv]
        · simp at hc37
      · skip
        refine EW.region (gI_ok gs_nil) ?_
        simp [hc17, e1, q1, q2]
        refine n10 _ ?_; clear n10 x10
        refine EW.cond (t := _) (by rfl) (fun hc37 => ?_) (fun hc37 => ?_)
        · simp at hc37
        · simp at hc37
          refine EW.skip ?_
          refine n9 _ ?_; clear n9 x9
          refine EW.seq fun Ψ13 n13 x13 => ?_
          refine EW.drawn [] mixed gs_nil (by kernel_rfl) ?_
          simp [hc17, e1]
          refine n13 _ ?_; clear n13 x13
          refine EW.cond (t := _) (by rfl) (fun hc50 => ?_) (fun hc50 => ?_)
          · simp at hc50
            have e4 : rngErr b.grams[k] = 5 := by simp [rngErr, q1, q2, hc50]
            have hv : binErr o.limits.length b = 5 := by rw [List.drop_eq_getElem_cons hc17] at hw; simp [rngsErr, e4] at hw; simp [binErr, hlen, ← hw]
            refine EW.seq fun Ψ14 n14 x14 => ?_
            refine EW.region gs_nil ?_
            simp
            refine n14 _ ?_; clear n14 x14
            refine EW.ret ?_
            refine x8 _ _ rfl ?_; clear n8 x8
            refine x4 _ _ rfl ?_; clear n4 x4
            refine ⟨_, _, _, rfl, ?_, ?_, ?_, ?_, ?_⟩ <;> simp [hv]
          · simp at hc50
            refine EW.skip ?_
            refine n8 _ ?_; clear n8 x8
            refine EW.hide fun Ψ15 n15 => ?_
            refine EW.region gs_nil ?_
            simp
            refine n15 _ _ ?_; clear n15
            have e3 : IntKind.i64.wrap ((k : Int) + 1) = k + 1 := wr_small (by omega) (by omega)
            have e4 : rngErr b.grams[k] = 0 := by simp [rngErr, q1, q2]; omega
            refine ⟨k + 1, (St.le_lit rfl (by simp [e3]) (by simp) (by simp) (by simp) (by simp)), ?_, ?_⟩
            · refine ⟨hc17, ?_⟩
              rw [← hw, List.drop_eq_getElem_cons hc17]; simp [rngsErr, e4]
            · omega
    · simp at hc17
      have hz : rngsErr b.grams = 0 := by rw [← hw, List.drop_of_length_le (by omega)]; rfl
      refine EW.exit ?_
      refine x6 _ _ rfl ?_; clear n6 x6
      refine n4 _ ?_; clear n4 x4
      refine EW.seq fun Ψ16 n16 x16 => ?_
      refine EW.seq fun Ψ17 n17 x17 => ?_
      rcases bor3 (inB b.w 1 10000) (inB b.c 0 10000000) (inB b.g 0 6) with q3 | ⟨q3, q4⟩ | ⟨q3, q4, q5⟩ | ⟨q3, q4, q5⟩
      · skip
        refine EW.region (gI_ok gs_nil) ?_
        simp [q3]
        have hv : binErr o.limits.length b = 1 := by simp [binErr, hlen, hz, q3]
        refine n17 _ ?_; clear n17 x17
        refine EW.cond (t := _) (by rfl) (fun hc66 => ?_) (fun hc66 => ?_)
        · simp at hc66
          refine EW.seq fun Ψ18 n18 x18 => ?_
          refine EW.region gs_nil ?_
          simp
          refine n18 _ ?_; clear n18 x18
          refine EW.ret ?_
          refine x16 _ _ rfl ?_; clear n16 x16
          refine ⟨_, _, _, rfl, ?_, ?_, ?_, ?_, ?_⟩ <;> simp [hv]
        · simp at hc66
      · skip
        refine EW.region (gI_ok gs_nil) ?_
        simp [q3, q4]
        have hv : binErr o.limits.length b = 1 := by simp [binErr, hlen, hz, q3, q4]
        refine n17 _ ?_; clear n17 x17
        refine EW.cond (t := _) (by rfl) (fun hc66 => ?_) (fun hc66 => ?_)
        · simp at hc66
          refine EW.seq fun Ψ19 n19 x19 => ?_
          refine EW.region gs_nil ?_
          simp
          refine n19 _ ?_; clear n19 x19
          refine EW.ret ?_
          refine x16 _ _ rfl ?_; clear n16 x16
          refine ⟨_, _, _, rfl, ?_, ?_, ?_, ?_, ?_⟩ <;> simp [hv]
        · simp at hc66
      · skip
        refine EW.region (gI_ok gs_nil) ?_
        simp [q3, q4, q5]
        have hv : binErr o.limits.length b = 1 := by simp [binErr, hlen, hz, q3, q4, q5]
        refine n17 _ ?_; clear n17 x17
        refine EW.cond (t := _) (by rfl) (fun hc66 => ?_) (fun hc66 => ?_)
        · simp at hc66
          refine EW.seq fun Ψ20 n20 x20 => ?_
          refine EW.region gs_nil ?_
          simp
          refine n20 _ ?_; clear n20 x20
          refine EW.ret ?_
          refine x16 _ _ rfl ?_; clear n16 x16
          refine ⟨_, _, _, rfl, ?_, ?_, ?_, ?_, ?_⟩ <;> simp [hv]
        · simp at hc66
      · skip
        refine EW.region (gI_ok gs_nil) ?_
        simp [q3, q4, q5]
        have hv : binErr o.limits.length b = 0 := by simp [binErr, hlen, hz, q3, q4, q5]
        refine n17 _ ?_; clear n17 x17
        refine EW.cond (t := _) (by rfl) (fun hc66 => ?_) (fun hc66 => ?_)
        · simp at hc66
        · simp at hc66
          refine EW.skip ?_
          refine n16 _ ?_; clear n16 x16
          refine EW.seq fun Ψ21 n21 x21 => ?_
          refine EW.region gs_nil ?_
          simp
          refine n21 _ ?_; clear n21 x21
          refine EW.ret ?_
          refine ⟨_, _, _, rfl, ?_, ?_, ?_, ?_, ?_⟩ <;> simp [hv]

end Go.Ev
end

section
set_option linter.all false
open Go Go.Ev Go.Proofs
namespace Go.Ev
set_option linter.unusedSimpArgs false
set_option linter.unusedVariables false


theorem anyBad_cons (n : Int) (l : List Int) : anyBad (n :: l) = (!inB n 0 1000000 || anyBad l) := rfl
def rchkA (o : MOrd) (k : Nat) : St := St.lit 64 [(1, .ptr (.own 1) 0), (3, .s (.int .i64 k))] [(1, aOrdC o)] [] []
def rchkB (o : MOrd) (k : Nat) : St := St.lit 64 [(1, .ptr (.own 1) 0), (4, .s (.int .i64 k))] [(1, aOrdC o)] [] []
attribute [simp] rchkA rchkB

set_option maxHeartbeats 1000000 in
theorem rcheck_ok (o : MOrd) (h1 : (o.limits.length : Int) < 9223372036854775807) (h2 : (o.bins.length : Int) < 9223372036854775807) (h3 : ∀ b ∈ o.bins, (b.grams.length : Int) < 9223372036854775807) : ACalls Try.prog 35 [.agg [.sl false false .U .no o.limits.length (eInts o.limits), .s (.int .i64 o.least), .s (.int .i64 o.most), .sl false false .U .no o.bins.length (eBins o.bins)]] [] (.ret (.s (.int .i64 (ordErr o))) [] []) := by
  refine acalls_of_ew Try.func35 rfl rfl (by simp [Try.f35]) (rs := [.tmp 2]) rfl ?_
  refine EW.seq fun Ψ0 n0 x0 => ?_
  refine EW.region gs_nil ?_
  simp
  refine n0 _ ?_; clear n0 x0
  refine EW.seq fun Ψ1 n1 x1 => ?_
  refine EW.seq fun Ψ2 n2 x2 => ?_
  refine EW.region gs_nil ?_
  simp
  refine n2 _ ?_; clear n2 x2
  refine EW.cond (t := _) (by rfl) (fun hc9 => ?_) (fun hc9 => ?_)
  · have g1 : 3 < o.limits.length := by simp at hc9; omega
    have hv : ordErr o = 6 := by simp [ordErr, g1]
    refine EW.seq fun Ψ3 n3 x3 => ?_
    refine EW.region gs_nil ?_
    simp
    refine n3 _ ?_; clear n3 x3
    refine EW.ret ?_
    refine x1 _ _ rfl ?_; clear n1 x1
    refine ⟨_, _, _, rfl, ?_, ?_, ?_, ?_, ?_⟩ <;> simp [hv]
  · have g1 : ¬ 3 < o.limits.length := by simp at hc9; omega
    refine EW.skip ?_
    refine n1 _ ?_; clear n1 x1
    refine EW.seq fun Ψ4 n4 x4 => ?_
    refine EW.seq fun Ψ5 n5 x5 => ?_
    refine EW.region gs_nil ?_
    simp
    refine n5 _ ?_; clear n5 x5
    refine EW.block ?_
    refine EW.loopA (rchkA o) (fun k => k ≤ o.limits.length ∧ anyBad (o.limits.drop k) = anyBad o.limits) (fun k => o.limits.length - k) 0 (St.le_lit rfl (by simp) (by simp) (by simp) (by simp) (by simp)) ?_ fun p hk => ?_
    · simp
    rename Nat => k
    obtain ⟨hk, hw⟩ := hk
    refine EW.seq fun Ψ6 n6 x6 => ?_
    refine EW.seq fun Ψ7 n7 x7 => ?_
    refine EW.region gs_nil ?_
    simp
    refine n7 _ ?_; clear n7 x7
    refine EW.cond (t := _) (by rfl) (fun hc14 => ?_) (fun hc14 => ?_)
    · simp at hc14
      have e1 : o.limits[k]? = some o.limits[k] := List.getElem?_eq_getElem hc14
      refine EW.skip ?_
      refine n6 _ ?_; clear n6 x6
      refine EW.seq fun Ψ8 n8 x8 => ?_
      refine EW.block ?_
      refine EW.seq fun Ψ9 n9 x9 => ?_
      cases q0 : inB o.limits[k] 0 1000000
      · skip
        refine EW.region (gI_ok gs_nil) ?_
        simp [hc14, e1, q0]
        refine n9 _ ?_; clear n9 x9
        refine EW.cond (t := _) (by rfl) (fun hc23 => ?_) (fun hc23 => ?_)
        · simp at hc23
          have g2 : anyBad o.limits = true := by rw [← hw, List.drop_eq_getElem_cons hc14, anyBad_cons, q0]; rfl
          have hv : ordErr o = 1 := by simp [ordErr, g1, g2]
          refine EW.seq fun Ψ10 n10 x10 => ?_
          refine EW.region gs_nil ?_
          simp
          refine n10 _ ?_; clear n10 x10
          refine EW.ret ?_
          refine x8 _ _ rfl ?_; clear n8 x8
          refine x4 _ _ rfl ?_; clear n4 x4
          refine ⟨_, _, _, rfl, ?_, ?_, ?_, ?_, ?_⟩ <;> simp [hv]
        · simp at hc23
      · skip
        refine EW.region (gI_ok gs_nil) ?_
        simp [hc14, e1, q0]
        refine n9 _ ?_; clear n9 x9
        refine EW.cond (t := _) (by rfl) (fun hc23 => ?_) (fun hc23 => ?_)
        · simp at hc23
        · simp at hc23
          refine EW.skip ?_
          refine n8 _ ?_; clear n8 x8
          refine EW.hide fun Ψ11 n11 => ?_
          refine EW.region gs_nil ?_
          simp
          refine n11 _ _ ?_; clear n11
          have e3 : IntKind.i64.wrap ((k : Int) + 1) = k + 1 := wr_small (by omega) (by omega)
          refine ⟨k + 1, (St.le_lit rfl (by simp [e3]) (by simp) (by simp) (by simp) (by simp)), ?_, ?_⟩
          · refine ⟨hc14, ?_⟩
            rw [← hw, List.drop_eq_getElem_cons hc14, anyBad_cons, q0]; rfl
          · omega
    · simp at hc14
      have g2 : ¬ anyBad o.limits = true := by rw [← hw, List.drop_of_length_le (by omega)]; simp [anyBad]
      refine EW.exit ?_
      refine x6 _ _ rfl ?_; clear n6 x6
      refine n4 _ ?_; clear n4 x4
      refine EW.seq fun Ψ12 n12 x12 => ?_
      refine EW.seq fun Ψ13 n13 x13 => ?_
      rcases bor2 (inB o.least 0 240000) (inB o.most 0 240000) with q1 | ⟨q1, q2⟩ | ⟨q1, q2⟩
      · skip
        refine EW.region (gI_ok gs_nil) ?_
        simp [q1]
        refine n13 _ ?_; clear n13 x13
        refine EW.cond (t := _) (by rfl) (fun hc33 => ?_) (fun hc33 => ?_)
        · simp at hc33
          have hv : ordErr o = 1 := by simp [ordErr, g1, g2, q1]
          refine EW.seq fun Ψ14 n14 x14 => ?_
          refine EW.region gs_nil ?_
          simp
          refine n14 _ ?_; clear n14 x14
          refine EW.ret ?_
          refine x12 _ _ rfl ?_; clear n12 x12
          refine ⟨_, _, _, rfl, ?_, ?_, ?_, ?_, ?_⟩ <;> simp [hv]
        · simp at hc33
      · skip
        refine EW.region (gI_ok gs_nil) ?_
        simp [q1, q2]
        refine n13 _ ?_; clear n13 x13
        refine EW.cond (t := _) (by rfl) (fun hc33 => ?_) (fun hc33 => ?_)
        · simp at hc33
          have hv : ordErr o = 1 := by simp [ordErr, g1, g2, q1, q2]
          refine EW.seq fun Ψ15 n15 x15 => ?_
          refine EW.region gs_nil ?_
          simp
          refine n15 _ ?_; clear n15 x15
          refine EW.ret ?_
          refine x12 _ _ rfl ?_; clear n12 x12
          refine ⟨_, _, _, rfl, ?_, ?_, ?_, ?_, ?_⟩ <;> simp [hv]
        · simp at hc33
      · skip
        refine EW.region (gI_ok gs_nil) ?_
        simp [q1, q2]
        refine n13 _ ?_; clear n13 x13
        refine EW.cond (t := _) (by rfl) (fun hc33 => ?_) (fun hc33 => ?_)
        · simp at hc33
        · simp at hc33
          refine EW.skip ?_
          refine n12 _ ?_; clear n12 x12
          refine EW.seq fun Ψ16 n16 x16 => ?_
          refine EW.seq fun Ψ17 n17 x17 => ?_
          refine EW.region gs_nil ?_
          simp
          refine n17 _ ?_; clear n17 x17
          refine EW.cond (t := _) (by rfl) (fun hc38 => ?_) (fun hc38 => ?_)
          · simp at hc38
            have hv : ordErr o = 5 := by simp [ordErr, g1, g2, q1, q2, hc38]
            refine EW.seq fun Ψ18 n18 x18 => ?_
            refine EW.region gs_nil ?_
            simp
            refine n18 _ ?_; clear n18 x18
            refine EW.ret ?_
            refine x16 _ _ rfl ?_; clear n16 x16
            refine ⟨_, _, _, rfl, ?_, ?_, ?_, ?_, ?_⟩ <;> simp [hv]
          · simp at hc38
            have g3 : ¬ o.most < o.least := by omega
            refine EW.skip ?_
            refine n16 _ ?_; clear n16 x16
            refine EW.seq fun Ψ19 n19 x19 => ?_
            refine EW.seq fun Ψ20 n20 x20 => ?_
            refine EW.region gs_nil ?_
            simp
            refine n20 _ ?_; clear n20 x20
            refine EW.cond (t := _) (by rfl) (fun hc42 => ?_) (fun hc42 => ?_)
            · have g4 : o.bins.length = 0 := by simp at hc42; simp [hc42]
              have hv : ordErr o = 7 := by unfold ordErr; rw [if_neg g1, if_neg g2, if_neg (by simp [q1, q2]), if_neg g3, if_pos g4]
              refine EW.seq fun Ψ21 n21 x21 => ?_
              refine EW.region gs_nil ?_
              simp
              refine n21 _ ?_; clear n21 x21
              refine EW.ret ?_
              refine x19 _ _ rfl ?_; clear n19 x19
              refine ⟨_, _, _, rfl, ?_, ?_, ?_, ?_, ?_⟩ <;> simp [hv]
            · have g4 : ¬ o.bins.length = 0 := by simpa using hc42
              refine EW.skip ?_
              refine n19 _ ?_; clear n19 x19
              refine EW.seq fun Ψ22 n22 x22 => ?_
              refine EW.seq fun Ψ23 n23 x23 => ?_
              refine EW.region gs_nil ?_
              simp
              refine n23 _ ?_; clear n23 x23
              refine EW.cond (t := _) (by rfl) (fun hc46 => ?_) (fun hc46 => ?_)
              · have g5 : 4 < o.bins.length := by simp at hc46; omega
                have hv : ordErr o = 6 := by unfold ordErr; rw [if_neg g1, if_neg g2, if_neg (by simp [q1, q2]), if_neg g3, if_neg g4, if_pos g5]
                refine EW.seq fun Ψ24 n24 x24 => ?_
                refine EW.region gs_nil ?_
                simp
                refine n24 _ ?_; clear n24 x24
                refine EW.ret ?_
                refine x22 _ _ rfl ?_; clear n22 x22
                refine ⟨_, _, _, rfl, ?_, ?_, ?_, ?_, ?_⟩ <;> simp [hv]
              · have g5 : ¬ 4 < o.bins.length := by simp at hc46; omega
                have hE : ordErr o = binsErr o.limits.length o.bins := by unfold ordErr; rw [if_neg g1, if_neg g2, if_neg (by simp [q1, q2]), if_neg g3, if_neg g4, if_neg g5]
                refine EW.skip ?_
                refine n22 _ ?_; clear n22 x22
                refine EW.seq fun Ψ25 n25 x25 => ?_
                refine EW.seq fun Ψ26 n26 x26 => ?_
                refine EW.region gs_nil ?_
                simp
                refine n26 _ ?_; clear n26 x26
                refine EW.block ?_
                refine EW.loopA (rchkB o) (fun k => k ≤ o.bins.length ∧ binsErr o.limits.length (o.bins.drop k) = binsErr o.limits.length o.bins) (fun k => o.bins.length - k) 0 (St.le_lit rfl (by simp) (by simp) (by simp) (by simp) (by simp)) ?_ fun p hk => ?_
                · simp
                rename Nat => k
                obtain ⟨hk, hw⟩ := hk
                refine EW.seq fun Ψ27 n27 x27 => ?_
                refine EW.seq fun Ψ28 n28 x28 => ?_
                refine EW.region gs_nil ?_
                simp
                refine n28 _ ?_; clear n28 x28
                refine EW.cond (t := _) (by rfl) (fun hc51 => ?_) (fun hc51 => ?_)
                · simp at hc51
                  have e1 : o.bins[k]? = some o.bins[k] := List.getElem?_eq_getElem hc51
                  have h4 := h3 o.bins[k] (List.getElem_mem hc51)
                  refine EW.skip ?_
                  refine n27 _ ?_; clear n27 x27
                  refine EW.seq fun Ψ29 n29 x29 => ?_
                  refine EW.block ?_
                  refine EW.seq fun Ψ30 n30 x30 => ?_
                  refine EW.drawn [] mixed (gs_cons (rcheckBin_ok o o.bins[k] h4) gs_nil) (by kernel_rfl) ?_
                  simp [hc51, e1, eBins_atm _ _ _ _ _ e1, show 4 ≤ o.bins.length * 4 - k * 4 by omega]
                  refine n30 _ ?_; clear n30 x30
                  refine EW.seq fun Ψ31 n31 x31 => ?_
                  refine EW.region gs_nil ?_
                  simp
                  refine n31 _ ?_; clear n31 x31
                  refine EW.cond (t := _) (by rfl) (fun hc62 => ?_) (fun hc62 => ?_)
                  · have g6 : ¬ binErr o.limits.length o.bins[k] = 0 := by simpa using hc62
                    have hv : ordErr o = binErr o.limits.length o.bins[k] := by rw [hE, ← hw, List.drop_eq_getElem_cons hc51]; simp [binsErr, g6]
                    refine EW.seq fun Ψ32 n32 x32 => ?_
                    refine EW.region gs_nil ?_
                    simp
                    refine n32 _ ?_; clear n32 x32
                    refine EW.ret ?_
                    refine x29 _ _ rfl ?_; clear n29 x29
                    refine x25 _ _ rfl ?_; clear n25 x25
                    refine ⟨_, _, _, rfl, ?_, ?_, ?_, ?_, ?_⟩ <;> simp [hv]
                  · have g6 : binErr o.limits.length o.bins[k] = 0 := by simpa using hc62
                    refine EW.skip ?_
                    refine n29 _ ?_; clear n29 x29
                    refine EW.hide fun Ψ33 n33 => ?_
                    refine EW.region gs_nil ?_
                    simp
                    refine n33 _ _ ?_; clear n33
                    have e3 : IntKind.i64.wrap ((k : Int) + 1) = k + 1 := wr_small (by omega) (by omega)
                    refine ⟨k + 1, (St.le_lit rfl (by simp [e3]) (by simp) (by simp) (by simp) (by simp)), ?_, ?_⟩
                    · refine ⟨hc51, ?_⟩
                      rw [← hw, List.drop_eq_getElem_cons hc51]; simp [binsErr, g6]
                    · omega
                · simp at hc51
                  have hv : ordErr o = 0 := by rw [hE, ← hw, List.drop_of_length_le (by omega)]; rfl
                  refine EW.exit ?_
                  refine x27 _ _ rfl ?_; clear n27 x27
                  refine n25 _ ?_; clear n25 x25
                  refine EW.seq fun Ψ34 n34 x34 => ?_
                  refine EW.region gs_nil ?_
                  simp
                  refine n34 _ ?_; clear n34 x34
                  refine EW.ret ?_
                  refine ⟨_, _, _, rfl, ?_, ?_, ?_, ?_, ?_⟩ <;> simp [hv]

end Go.Ev
end
