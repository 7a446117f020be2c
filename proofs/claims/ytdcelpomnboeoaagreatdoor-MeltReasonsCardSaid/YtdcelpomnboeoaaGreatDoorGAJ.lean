/- Lemmas for the claims of this seat: an evaluator over abstract values, its soundness, and the contracts of the functions of melt that it walks; no premise beyond what each theorem states. -/
import Derived.Test.YtdcelpomnboeoaaGreatDoorGAH
import Derived.Test.YtdcelpomnboeoaaGreatDoorGAI

section
set_option linter.all false
open Go Go.Ev Go.Proofs
namespace Go.Ev
set_option linter.unusedSimpArgs false
set_option linter.unusedVariables false

theorem least_ok (a b : Int) : ACalls Tryz.prog 61 [.agg [.s (.int .i64 a), .s (.int .i64 b)]] [] (.ret (.s (.int .i64 a)) [] []) := by
  refine acalls_of_ew Tryz.func61 rfl rfl (by simp [Tryz.f61]) (rs := [.tmp 2]) rfl ?_
  refine EW.seq fun Ψ0 n0 x0 => ?_
  refine EW.region gs_nil ?_
  simp
  refine n0 _ ?_; clear n0 x0
  refine EW.seq fun Ψ1 n1 x1 => ?_
  refine EW.region gs_nil ?_
  simp
  refine n1 _ ?_; clear n1 x1
  refine EW.ret ?_
  refine ⟨_, _, _, rfl, ?_, ?_, ?_, ?_, ?_⟩ <;> simp

theorem most_ok (a b : Int) : ACalls Tryz.prog 62 [.agg [.s (.int .i64 a), .s (.int .i64 b)]] [] (.ret (.s (.int .i64 b)) [] []) := by
  refine acalls_of_ew Tryz.func62 rfl rfl (by simp [Tryz.f62]) (rs := [.tmp 2]) rfl ?_
  refine EW.seq fun Ψ0 n0 x0 => ?_
  refine EW.region gs_nil ?_
  simp
  refine n0 _ ?_; clear n0 x0
  refine EW.seq fun Ψ1 n1 x1 => ?_
  refine EW.region gs_nil ?_
  simp
  refine n1 _ ?_; clear n1 x1
  refine EW.ret ?_
  refine ⟨_, _, _, rfl, ?_, ?_, ?_, ?_, ?_⟩ <;> simp


def endR (q : Bool) (r : Int × Int) : Int := if q then r.2 else r.1
def gEnd (q : Bool) : List AV → List (List AV) → Option Out
  | [.agg [.s (.int .i64 a), .s (.int .i64 b)]], [] => some (.ret (.s (.int .i64 (endR q (a, b)))) [] [])
  | _, _ => none
theorem gEnd_l : ∀ a e o, gEnd false a e = some o → ACalls Tryz.prog 61 a e o := by
  intro a e o h
  unfold gEnd at h
  split at h
  · cases h; exact least_ok _ _
  · cases h
theorem gEnd_m : ∀ a e o, gEnd true a e = some o → ACalls Tryz.prog 62 a e o := by
  intro a e o h
  unfold gEnd at h
  split at h
  · cases h; exact most_ok _ _
  · cases h
attribute [simp] gEnd
/-- By how much a blend is beyond a limit. -/
def beyL (q : Bool) (lims : List Int) (bins : List MBin) (j : Nat) : List Int → Nat → Int → Int
  | [], _, s => s
  | n :: l, i, s => match bins[i]? with
    | some b => match b.grams[j]?, lims[j]? with
      | some r, some m => beyL q lims bins j l (i + 1) (wr (s + wr (wr (n * b.w) * wr (endR q r - m))))
      | _, _ => s
    | none => s
def beyS (o : MOrd) (l : List Int) (j : Nat) (f : FuncId) (p : Nat × Int) : St :=
  St.lit 49 [(2, .s (.int .i64 j)), (3, .fn f []), (4, .ptr (.own 4) 0), (12, .sl false false .U .no l.length (eInts l)), (13, .s (.int .i64 l.length)), (14, .s (.int .i64 p.1)), (9, .s (.int .i64 p.2))] [(4, aOrdC o)] [] []
attribute [simp] beyS

set_option maxHeartbeats 1000000 in
theorem beyond_ok84 (o : MOrd) (l : List Int) (j : Nat) (hl : (l.length : Int) < 9223372036854775807) (hb : l.length ≤ o.bins.length) (hj : j < o.limits.length) (hg : ∀ b ∈ o.bins, b.grams.length = o.limits.length) : ACalls Tryz.prog 60 [.agg [.sl false false .U .no o.limits.length (eInts o.limits), .s (.int .i64 o.least), .s (.int .i64 o.most), .sl false false .U .no o.bins.length (eBins o.bins)], .sl false false .U .no l.length (eInts l), .s (.int .i64 j), .fn 61 []] [] (.ret (.s (.int .i64 (beyL false o.limits o.bins j l 0 0))) [] []) := by
  refine acalls_of_ew Tryz.func60 rfl rfl (by simp [Tryz.f60]) (rs := [.tmp 8]) rfl ?_
  refine EW.seq fun Ψ0 n0 x0 => ?_
  refine EW.region gs_nil ?_
  simp
  refine n0 _ ?_; clear n0 x0
  refine EW.seq fun Ψ1 n1 x1 => ?_
  refine EW.region gs_nil ?_
  simp
  refine n1 _ ?_; clear n1 x1
  refine EW.seq fun Ψ2 n2 x2 => ?_
  refine EW.seq fun Ψ3 n3 x3 => ?_
  refine EW.region gs_nil ?_
  simp
  refine n3 _ ?_; clear n3 x3
  refine EW.block ?_
  refine EW.loopA (beyS o l j 61) (fun p => p.1 ≤ l.length ∧ beyL false o.limits o.bins j (l.drop p.1) p.1 p.2 = beyL false o.limits o.bins j l 0 0) (fun p => l.length - p.1) (0, 0) (St.le_lit rfl (by simp) (by simp) (by simp) (by simp) (by simp)) ?_ fun p hk => ?_
  · simp
  obtain ⟨k, s⟩ := p
  obtain ⟨hk, hw⟩ := hk
  simp only at hk hw
  refine EW.seq fun Ψ4 n4 x4 => ?_
  refine EW.region gs_nil ?_
  simp
  refine n4 _ ?_; clear n4 x4
  refine EW.seq fun Ψ5 n5 x5 => ?_
  refine EW.cond (t := _) (by rfl) (fun hc15 => ?_) (fun hc15 => ?_)
  · simp at hc15
    have hkl : k < o.bins.length := by omega
    have e1 : l[k]? = some l[k] := List.getElem?_eq_getElem hc15
    have e2 : o.bins[k]? = some o.bins[k] := List.getElem?_eq_getElem hkl
    have hjg : j < o.bins[k].grams.length := by rw [hg _ (List.getElem_mem hkl)]; exact hj
    have e4 : o.bins[k].grams[j]? = some o.bins[k].grams[j] := List.getElem?_eq_getElem hjg
    have e5 : o.limits[j]? = some o.limits[j] := List.getElem?_eq_getElem hj
    refine EW.skip ?_
    refine n5 _ ?_; clear n5 x5
    refine EW.seq fun Ψ6 n6 x6 => ?_
    refine EW.block ?_
    refine EW.seq fun Ψ7 n7 x7 => ?_
    refine EW.region gs_nil ?_
    simp [hc15, e1]
    refine n7 _ ?_; clear n7 x7
    refine EW.hide fun Ψ8 n8 => ?_
    refine EW.drawn [(3, 19), (7, 19), (19, 21), (19, 24)] mixed (gAlt_sound (f := 61) gEnd_l gs_nil) (by kernel_rfl) ?_
    simp [hkl, hj, hjg, e2, e5, eRngs_atm _ _ _ _ _ e4, show 2 ≤ o.bins[k].grams.length * 2 - j * 2 by omega]
    refine n8 _ _ ?_; clear n8
    refine n6 _ ?_; clear n6 x6
    refine EW.hide fun Ψ9 n9 => ?_
    refine EW.region gs_nil ?_
    simp
    refine n9 _ _ ?_; clear n9
    have e3 : IntKind.i64.wrap ((k : Int) + 1) = k + 1 := wr_small (by omega) (by omega)
    refine ⟨(k + 1, wr (s + wr (wr (l[k] * o.bins[k].w) * wr (endR false o.bins[k].grams[j] - o.limits[j])))), (St.le_lit rfl (by simp [e3]) (by simp) (by simp) (by simp) (by simp)), ?_, ?_⟩
    · refine ⟨hc15, ?_⟩
      rw [← hw, List.drop_eq_getElem_cons hc15]; simp [beyL, hkl, hjg, hj]
    · simp; omega
  · simp at hc15
    have hkl : k = l.length := by omega
    subst hkl
    simp [beyL] at hw
    refine EW.exit ?_
    refine x5 _ _ rfl ?_; clear n5 x5
    refine n2 _ ?_; clear n2 x2
    refine EW.seq fun Ψ10 n10 x10 => ?_
    refine EW.region gs_nil ?_
    simp
    refine n10 _ ?_; clear n10 x10
    refine EW.ret ?_
    refine ⟨_, _, _, rfl, ?_, ?_, ?_, ?_, ?_⟩ <;> simp [← hw]

set_option maxHeartbeats 1000000 in
theorem beyond_ok85 (o : MOrd) (l : List Int) (j : Nat) (hl : (l.length : Int) < 9223372036854775807) (hb : l.length ≤ o.bins.length) (hj : j < o.limits.length) (hg : ∀ b ∈ o.bins, b.grams.length = o.limits.length) : ACalls Tryz.prog 60 [.agg [.sl false false .U .no o.limits.length (eInts o.limits), .s (.int .i64 o.least), .s (.int .i64 o.most), .sl false false .U .no o.bins.length (eBins o.bins)], .sl false false .U .no l.length (eInts l), .s (.int .i64 j), .fn 62 []] [] (.ret (.s (.int .i64 (beyL true o.limits o.bins j l 0 0))) [] []) := by
  refine acalls_of_ew Tryz.func60 rfl rfl (by simp [Tryz.f60]) (rs := [.tmp 8]) rfl ?_
  refine EW.seq fun Ψ0 n0 x0 => ?_
  refine EW.region gs_nil ?_
  simp
  refine n0 _ ?_; clear n0 x0
  refine EW.seq fun Ψ1 n1 x1 => ?_
  refine EW.region gs_nil ?_
  simp
  refine n1 _ ?_; clear n1 x1
  refine EW.seq fun Ψ2 n2 x2 => ?_
  refine EW.seq fun Ψ3 n3 x3 => ?_
  refine EW.region gs_nil ?_
  simp
  refine n3 _ ?_; clear n3 x3
  refine EW.block ?_
  refine EW.loopA (beyS o l j 62) (fun p => p.1 ≤ l.length ∧ beyL true o.limits o.bins j (l.drop p.1) p.1 p.2 = beyL true o.limits o.bins j l 0 0) (fun p => l.length - p.1) (0, 0) (St.le_lit rfl (by simp) (by simp) (by simp) (by simp) (by simp)) ?_ fun p hk => ?_
  · simp
  obtain ⟨k, s⟩ := p
  obtain ⟨hk, hw⟩ := hk
  simp only at hk hw
  refine EW.seq fun Ψ4 n4 x4 => ?_
  refine EW.region gs_nil ?_
  simp
  refine n4 _ ?_; clear n4 x4
  refine EW.seq fun Ψ5 n5 x5 => ?_
  refine EW.cond (t := _) (by rfl) (fun hc15 => ?_) (fun hc15 => ?_)
  · simp at hc15
    have hkl : k < o.bins.length := by omega
    have e1 : l[k]? = some l[k] := List.getElem?_eq_getElem hc15
    have e2 : o.bins[k]? = some o.bins[k] := List.getElem?_eq_getElem hkl
    have hjg : j < o.bins[k].grams.length := by rw [hg _ (List.getElem_mem hkl)]; exact hj
    have e4 : o.bins[k].grams[j]? = some o.bins[k].grams[j] := List.getElem?_eq_getElem hjg
    have e5 : o.limits[j]? = some o.limits[j] := List.getElem?_eq_getElem hj
    refine EW.skip ?_
    refine n5 _ ?_; clear n5 x5
    refine EW.seq fun Ψ6 n6 x6 => ?_
    refine EW.block ?_
    refine EW.seq fun Ψ7 n7 x7 => ?_
    refine EW.region gs_nil ?_
    simp [hc15, e1]
    refine n7 _ ?_; clear n7 x7
    refine EW.hide fun Ψ8 n8 => ?_
    refine EW.drawn [(3, 19), (7, 19), (19, 21), (19, 24)] mixed (gAlt_sound (f := 62) gEnd_m gs_nil) (by kernel_rfl) ?_
    simp [hkl, hj, hjg, e2, e5, eRngs_atm _ _ _ _ _ e4, show 2 ≤ o.bins[k].grams.length * 2 - j * 2 by omega]
    refine n8 _ _ ?_; clear n8
    refine n6 _ ?_; clear n6 x6
    refine EW.hide fun Ψ9 n9 => ?_
    refine EW.region gs_nil ?_
    simp
    refine n9 _ _ ?_; clear n9
    have e3 : IntKind.i64.wrap ((k : Int) + 1) = k + 1 := wr_small (by omega) (by omega)
    refine ⟨(k + 1, wr (s + wr (wr (l[k] * o.bins[k].w) * wr (endR true o.bins[k].grams[j] - o.limits[j])))), (St.le_lit rfl (by simp [e3]) (by simp) (by simp) (by simp) (by simp)), ?_, ?_⟩
    · refine ⟨hc15, ?_⟩
      rw [← hw, List.drop_eq_getElem_cons hc15]; simp [beyL, hkl, hjg, hj]
    · simp; omega
  · simp at hc15
    have hkl : k = l.length := by omega
    subst hkl
    simp [beyL] at hw
    refine EW.exit ?_
    refine x5 _ _ rfl ?_; clear n5 x5
    refine n2 _ ?_; clear n2 x2
    refine EW.seq fun Ψ10 n10 x10 => ?_
    refine EW.region gs_nil ?_
    simp
    refine n10 _ ?_; clear n10 x10
    refine EW.ret ?_
    refine ⟨_, _, _, rfl, ?_, ?_, ?_, ?_, ?_⟩ <;> simp [← hw]

end Go.Ev
end

section
set_option linter.all false
open Go Go.Ev Go.Proofs
namespace Go.Ev
set_option linter.unusedSimpArgs false
set_option linter.unusedVariables false


/-- Whether a blend keeps its limits: from metal j on, with n metals left, and what is known. -/
def keepL (o : MOrd) (l : List Int) : Nat → Nat → Int → Int
  | 0, _, v => v
  | n + 1, j, v => if 0 < beyL false o.limits o.bins j l 0 0 then 2 else keepL o l n (j + 1) (if 0 < beyL true o.limits o.bins j l 0 0 then 3 else v)
def keepV (o : MOrd) (l : List Int) : Int := keepL o l o.limits.length 0 1
def keepS (o : MOrd) (l : List Int) (p : Nat × Int) : St :=
  St.lit 27 [(1, .sl false false .U .no l.length (eInts l)), (2, .ptr (.own 2) 0), (5, .s (.int .i64 p.2)), (9, .s (.int .i64 o.limits.length)), (10, .s (.int .i64 p.1))] [(2, aOrdC o)] [] []
attribute [simp] keepS

theorem keeps_ok (o : MOrd) (l : List Int) (hl : (l.length : Int) < 9223372036854775807) (hb : l.length ≤ o.bins.length) (h1 : (o.limits.length : Int) < 9223372036854775807) (hg : ∀ b ∈ o.bins, b.grams.length = o.limits.length) : ACalls Tryz.prog 43 [.agg [.sl false false .U .no o.limits.length (eInts o.limits), .s (.int .i64 o.least), .s (.int .i64 o.most), .sl false false .U .no o.bins.length (eBins o.bins)], .sl false false .U .no l.length (eInts l)] [] (.ret (.s (.int .i64 (keepV o l))) [] []) := by
  refine acalls_of_ew Tryz.func43 rfl rfl (by simp [Tryz.f43]) (rs := [.tmp 4]) rfl ?_
  refine EW.seq fun Ψ0 n0 x0 => ?_
  refine EW.region gs_nil ?_
  simp
  refine n0 _ ?_; clear n0 x0
  refine EW.seq fun Ψ1 n1 x1 => ?_
  refine EW.region gs_nil ?_
  simp
  refine n1 _ ?_; clear n1 x1
  refine EW.seq fun Ψ2 n2 x2 => ?_
  refine EW.seq fun Ψ3 n3 x3 => ?_
  refine EW.region gs_nil ?_
  simp
  refine n3 _ ?_; clear n3 x3
  refine EW.block ?_
  refine EW.loopA (keepS o l) (fun p => p.1 ≤ o.limits.length ∧ keepL o l (o.limits.length - p.1) p.1 p.2 = keepV o l) (fun p => o.limits.length - p.1) (0, 1) (St.le_lit rfl (by simp) (by simp) (by simp) (by simp) (by simp)) ?_ fun p hk => ?_
  · simp [keepV]
  obtain ⟨k, v⟩ := p
  obtain ⟨hk, hw⟩ := hk
  simp only at hk hw
  refine EW.seq fun Ψ4 n4 x4 => ?_
  refine EW.region gs_nil ?_
  simp
  refine n4 _ ?_; clear n4 x4
  refine EW.seq fun Ψ5 n5 x5 => ?_
  refine EW.cond (t := _) (by rfl) (fun hc11 => ?_) (fun hc11 => ?_)
  · simp at hc11
    have hn : o.limits.length - k = (o.limits.length - (k + 1)) + 1 := by omega
    refine EW.skip ?_
    refine n5 _ ?_; clear n5 x5
    refine EW.seq fun Ψ6 n6 x6 => ?_
    refine EW.block ?_
    refine EW.seq fun Ψ7 n7 x7 => ?_
    refine EW.region gs_nil ?_
    simp
    refine n7 _ ?_; clear n7 x7
    refine EW.block ?_
    refine EW.seq fun Ψ8 n8 x8 => ?_
    refine EW.region (gs_cons (beyond_ok84 o l k hl hb hc11 hg) gs_nil) ?_
    simp
    refine n8 _ ?_; clear n8 x8
    refine EW.cond (t := _) (by rfl) (fun hc13 => ?_) (fun hc13 => ?_)
    · simp at hc13
      have hv : keepV o l = 2 := by rw [← hw, hn]; simp [keepL, hc13]
      refine EW.seq fun Ψ9 n9 x9 => ?_
      refine EW.region gs_nil ?_
      simp
      refine n9 _ ?_; clear n9 x9
      refine EW.ret ?_
      refine x6 _ _ rfl ?_; clear n6 x6
      refine x2 _ _ rfl ?_; clear n2 x2
      refine ⟨_, _, _, rfl, ?_, ?_, ?_, ?_, ?_⟩ <;> simp [hv]
    · simp at hc13
      refine EW.seq fun Ψ10 n10 x10 => ?_
      refine EW.region (gs_cons (beyond_ok85 o l k hl hb hc11 hg) gs_nil) ?_
      simp
      refine n10 _ ?_; clear n10 x10
      refine EW.cond (t := _) (by rfl) (fun hc19 => ?_) (fun hc19 => ?_)
      · simp at hc19
        refine EW.hide fun Ψ11 n11 => ?_
        refine EW.region gs_nil ?_
        simp
        refine n11 _ _ ?_; clear n11
        refine n6 _ ?_; clear n6 x6
        refine EW.hide fun Ψ12 n12 => ?_
        refine EW.region gs_nil ?_
        simp
        refine n12 _ _ ?_; clear n12
        have e3 : IntKind.i64.wrap ((k : Int) + 1) = k + 1 := wr_small (by omega) (by omega)
        refine ⟨(k + 1, if 0 < beyL true o.limits o.bins k l 0 0 then 3 else v), (St.le_lit rfl (by simp [e3, hc19]; try omega) (by simp) (by simp) (by simp) (by simp)), ?_, ?_⟩
        · refine ⟨hc11, ?_⟩
          rw [← hw, hn]; simp [keepL, show ¬ 0 < beyL false o.limits o.bins k l 0 0 by omega]
        · simp; omega
      · simp at hc19
        refine EW.skip ?_
        refine n6 _ ?_; clear n6 x6
        refine EW.hide fun Ψ13 n13 => ?_
        refine EW.region gs_nil ?_
        simp
        refine n13 _ _ ?_; clear n13
        have e3 : IntKind.i64.wrap ((k : Int) + 1) = k + 1 := wr_small (by omega) (by omega)
        refine ⟨(k + 1, if 0 < beyL true o.limits o.bins k l 0 0 then 3 else v), (St.le_lit rfl (by simp [e3, hc19]; try omega) (by simp) (by simp) (by simp) (by simp)), ?_, ?_⟩
        · refine ⟨hc11, ?_⟩
          rw [← hw, hn]; simp [keepL, show ¬ 0 < beyL false o.limits o.bins k l 0 0 by omega]
        · simp; omega
  · simp at hc11
    have hv : keepV o l = v := by rw [← hw, show o.limits.length - k = 0 by omega]; rfl
    refine EW.exit ?_
    refine x5 _ _ rfl ?_; clear n5 x5
    refine n2 _ ?_; clear n2 x2
    refine EW.seq fun Ψ14 n14 x14 => ?_
    refine EW.region gs_nil ?_
    simp
    refine n14 _ ?_; clear n14 x14
    refine EW.ret ?_
    refine ⟨_, _, _, rfl, ?_, ?_, ?_, ?_, ?_⟩ <;> simp [hv]

end Go.Ev
end

section
set_option linter.all false
open Go Go.Ev Go.Proofs
namespace Go.Ev
set_option linter.unusedSimpArgs false
set_option linter.unusedVariables false

theorem cloneE_ok (l : List Int) (hl : (l.length : Int) < 1000000000) : ACalls Tryz.prog 68 [.sl false false .E .no l.length (eInts l)] [] (.rtok .U l.length 1 (eInts l)) := by
  refine acalls_tok Tryz.func68 rfl rfl (by simp [Tryz.f68]) (x := 2) rfl (by simp) (by simp [eInts]) ?_
  refine EW.seq fun Ψ0 n0 x0 => ?_
  refine EW.region gs_nil ?_
  simp
  refine n0 _ ?_; clear n0 x0
  refine EW.seq fun Ψ1 n1 x1 => ?_
  refine EW.seq fun Ψ2 n2 x2 => ?_
  refine EW.region gs_nil ?_
  simp
  refine n2 _ ?_; clear n2 x2
  refine EW.cond (t := _) (by rfl) (fun hc4 => ?_) (fun hc4 => ?_)
  · simp at hc4
  · simp at hc4
    refine EW.skip ?_
    refine n1 _ ?_; clear n1 x1
    refine EW.seq fun Ψ3 n3 x3 => ?_
    refine EW.region gs_nil ?_
    simp [show l.length * 8 ≤ 140737488355328 by omega]
    refine n3 _ ?_; clear n3 x3
    refine EW.ret ?_
    simp [TokPost]

theorem cloneZ_ok (l : List Int) (hl : (l.length : Int) < 1000000000) : ACalls Tryz.prog 68 [.sl false false .Z .no l.length (eInts l)] [] (.rtok .U l.length 1 (eInts l)) := by
  refine acalls_tok Tryz.func68 rfl rfl (by simp [Tryz.f68]) (x := 2) rfl (by simp) (by simp [eInts]) ?_
  refine EW.seq fun Ψ0 n0 x0 => ?_
  refine EW.region gs_nil ?_
  simp
  refine n0 _ ?_; clear n0 x0
  refine EW.seq fun Ψ1 n1 x1 => ?_
  refine EW.seq fun Ψ2 n2 x2 => ?_
  refine EW.region gs_nil ?_
  simp
  refine n2 _ ?_; clear n2 x2
  refine EW.cond (t := _) (by rfl) (fun hc4 => ?_) (fun hc4 => ?_)
  · simp at hc4
    refine EW.seq fun Ψ3 n3 x3 => ?_
    refine EW.region gs_nil ?_
    simp
    refine n3 _ ?_; clear n3 x3
    refine EW.ret ?_
    refine x1 _ _ rfl ?_; clear n1 x1
    simp [TokPost]
    try simp_all
  · simp at hc4
    refine EW.skip ?_
    refine n1 _ ?_; clear n1 x1
    refine EW.seq fun Ψ4 n4 x4 => ?_
    refine EW.region gs_nil ?_
    simp [show l.length * 8 ≤ 140737488355328 by omega]
    refine n4 _ ?_; clear n4 x4
    refine EW.ret ?_
    simp [TokPost]
    try simp_all

theorem clone_ok (l : List Int) (hl : (l.length : Int) < 1000000000) : ACalls Tryz.prog 68 [.sl false false .U .no l.length (eInts l)] [] (.rtok .U l.length 1 (eInts l)) := ACalls.knd (cloneE_ok l hl) (cloneZ_ok l hl)
end Go.Ev
end

section
set_option linter.all false
open Go Go.Ev Go.Proofs
namespace Go.Ev
set_option linter.unusedSimpArgs false
set_option linter.unusedVariables false


/-- Again and again, counted. -/
def rep {σ : Type} (f : Nat → σ → σ) : Nat → Nat → σ → σ
  | 0, _, s => s
  | n + 1, k, s => rep f n (k + 1) (f k s)
/-- Through all blends that begin with l. -/
def bFold {σ : Type} (next : σ → List Int → σ) : List MBin → List Int → σ → σ
  | [], l, s => next s l
  | b :: bs, l, s => rep (fun k s => bFold next bs (l ++ [(k : Int)]) s) (b.g + 1).toNat 0 s
/-- What the loop in Cheapest has found. -/
def cX (o : MOrd) (s : List Int × Int) : List (List AV) := [aOrdC o, [.sl false false .Z .no s.1.length (eInts s.1)], [.s (.int .i64 s.2)]]
attribute [simp] cX
def encB (x : List Int) : AV := .sl false false .U .no x.length (eInts x)
def wkS (o : MOrd) (L : Nat) (G : YG) (l : List Int) (b : MBin) (p : Nat × (List Int × Int)) : St :=
  St.lit 37 [(0, .sl false false .U .no l.length (eInts l)), (1, .ptr (.ext 0) 0), (2, .ptr (.ext 1) 0), (3, .ptr (.ext 2) 0), (24, .s (.int .i64 (b.g + 1))), (25, .s (.int .i64 p.1))] [] [aOrdC o, [.yl L G [.ext 3, .ext 4, .ext 5]], [.fn 67 [.ptr (.ext 0) 0, .ptr (.ext 1) 0, .ptr (.ext 2) 0]], aOrdC o, [.sl false false .Z .no p.2.1.length (eInts p.2.1)], [.s (.int .i64 p.2.2)]] []
attribute [simp] wkS List.findIdx?_cons

section
variable (o : MOrd) (L : Nat) (G : YG) (I : List Int × Int → Prop) (next : List Int × Int → List Int → List Int × Int)

theorem yCall (hR : Rounds Tryz.prog I (fun x => x.length = o.bins.length) encB (cX o) next 3 L G) (s : List Int × Int) (x : List Int) (hs : I s) (hx : x.length = o.bins.length) :
    ACalls Tryz.prog YID [.sl false false .U .no x.length (eInts x), .yl L G [.ext 0, .ext 1, .ext 2]] [aOrdC o, [.sl false false .Z .no s.1.length (eInts s.1)], [.s (.int .i64 s.2)]] (.ret (.s (.bool true)) [aOrdC o, [.sl false false .Z .no (next s x).1.length (eInts (next s x).1)], [.s (.int .i64 (next s x).2)]] []) := hR s x hs hx


theorem rep_I {σ : Type} {I : σ → Prop} {f : Nat → σ → σ} (hf : ∀ k s, I s → I (f k s)) : ∀ n k s, I s → I (rep f n k s)
  | 0, _, _, h => h
  | n + 1, k, s, h => rep_I hf n (k + 1) (f k s) (hf k s h)
theorem bFold_I {σ : Type} {I : σ → Prop} {next : σ → List Int → σ} {N : Nat} (hI : ∀ s x, I s → x.length = N → I (next s x)) : ∀ (bs : List MBin) (l : List Int) (s : σ), l.length + bs.length = N → I s → I (bFold next bs l s)
  | [], l, s, hl, h => hI s l h (by simpa using hl)
  | b :: bs, l, s, hl, h => by
    simp only [bFold]
    exact rep_I (fun k s hs => bFold_I hI bs _ s (by simp at hl ⊢; omega) hs) _ _ _ h

theorem walk81_step (hb : ∀ b ∈ o.bins, 0 ≤ b.g ∧ b.g < 1000000) (hbl : o.bins.length < 1000000) (hR : Rounds Tryz.prog I (fun x => x.length = o.bins.length) encB (cX o) next 3 L G) (hI : ∀ s x, I s → x.length = o.bins.length → I (next s x)) (l : List Int) (s : List Int × Int) (hl : l.length ≤ o.bins.length) (hs : I s) (ih : ∀ (k : Nat) s, l.length < o.bins.length → I s → ACalls Tryz.prog 67 [.sl false false .U .no (l ++ [(k : Int)]).length (eInts (l ++ [(k : Int)])), .ptr (.ext 0) 0, .ptr (.ext 1) 0, .ptr (.ext 2) 0] [aOrdC o, [.yl L G [.ext 3, .ext 4, .ext 5]], [.fn 67 [.ptr (.ext 0) 0, .ptr (.ext 1) 0, .ptr (.ext 2) 0]], aOrdC o, [.sl false false .Z .no s.1.length (eInts s.1)], [.s (.int .i64 s.2)]] (.ret (.s (.bool true)) [aOrdC o, [.yl L G [.ext 3, .ext 4, .ext 5]], [.fn 67 [.ptr (.ext 0) 0, .ptr (.ext 1) 0, .ptr (.ext 2) 0]], aOrdC o, [.sl false false .Z .no (bFold next (o.bins.drop (l.length + 1)) (l ++ [(k : Int)]) s).1.length (eInts (bFold next (o.bins.drop (l.length + 1)) (l ++ [(k : Int)]) s).1)], [.s (.int .i64 (bFold next (o.bins.drop (l.length + 1)) (l ++ [(k : Int)]) s).2)]] [])) : ACalls Tryz.prog 67 [.sl false false .U .no l.length (eInts l), .ptr (.ext 0) 0, .ptr (.ext 1) 0, .ptr (.ext 2) 0] [aOrdC o, [.yl L G [.ext 3, .ext 4, .ext 5]], [.fn 67 [.ptr (.ext 0) 0, .ptr (.ext 1) 0, .ptr (.ext 2) 0]], aOrdC o, [.sl false false .Z .no s.1.length (eInts s.1)], [.s (.int .i64 s.2)]] (.ret (.s (.bool true)) [aOrdC o, [.yl L G [.ext 3, .ext 4, .ext 5]], [.fn 67 [.ptr (.ext 0) 0, .ptr (.ext 1) 0, .ptr (.ext 2) 0]], aOrdC o, [.sl false false .Z .no (bFold next (o.bins.drop l.length) l s).1.length (eInts (bFold next (o.bins.drop l.length) l s).1)], [.s (.int .i64 (bFold next (o.bins.drop l.length) l s).2)]] []) := by
  refine acalls_of_ew Tryz.func67 rfl rfl (by simp [Tryz.f67]) (rs := [.tmp 5]) rfl ?_
  refine EW.seq fun Ψ0 n0 x0 => ?_
  refine EW.region gs_nil ?_
  simp
  refine n0 _ ?_; clear n0 x0
  refine EW.seq fun Ψ1 n1 x1 => ?_
  refine EW.seq fun Ψ2 n2 x2 => ?_
  refine EW.region gs_nil ?_
  simp
  refine n2 _ ?_; clear n2 x2
  refine EW.cond (t := _) (by rfl) (fun hc12 => ?_) (fun hc12 => ?_)
  · have g1 : l.length = o.bins.length := by simp at hc12; omega
    have hv : bFold next (o.bins.drop l.length) l s = next s l := by rw [List.drop_of_length_le (by omega)]; rfl
    refine EW.seq fun Ψ3 n3 x3 => ?_
    refine EW.drawn [(0, 2)] mixed (gs_cons (clone_ok l (by omega)) (gs_cons (yCall o L G I next hR s l hs g1) gs_nil)) (by kernel_rfl) ?_
    simp
    refine n3 _ ?_; clear n3 x3
    refine EW.ret ?_
    refine x1 _ _ rfl ?_; clear n1 x1
    refine ⟨_, _, _, rfl, ?_, ?_, ?_, ?_, ?_⟩ <;> simp [hv]
  · have g1 : ¬ l.length = o.bins.length := by simp at hc12; omega
    have hlt : l.length < o.bins.length := by omega
    have e1 : o.bins[l.length]? = some o.bins[l.length] := List.getElem?_eq_getElem hlt
    have hg := hb _ (List.getElem_mem hlt)
    have e3 : IntKind.i64.wrap (o.bins[l.length].g + 1) = o.bins[l.length].g + 1 := wr_small (by omega) (by omega)
    have hv : bFold next (o.bins.drop l.length) l s = rep (fun k s => bFold next (o.bins.drop (l.length + 1)) (l ++ [(k : Int)]) s) (o.bins[l.length].g + 1).toNat 0 s := by rw [List.drop_eq_getElem_cons hlt]; rfl
    refine EW.skip ?_
    refine n1 _ ?_; clear n1 x1
    refine EW.seq fun Ψ4 n4 x4 => ?_
    refine EW.seq fun Ψ5 n5 x5 => ?_
    refine EW.region gs_nil ?_
    simp [hlt, e1]
    refine n5 _ ?_; clear n5 x5
    refine EW.block ?_
    refine EW.loopA (wkS o L G l o.bins[l.length]) (fun p => (p.1 : Int) ≤ o.bins[l.length].g + 1 ∧ I p.2 ∧ rep (fun k s => bFold next (o.bins.drop (l.length + 1)) (l ++ [(k : Int)]) s) ((o.bins[l.length].g + 1).toNat - p.1) p.1 p.2 = rep (fun k s => bFold next (o.bins.drop (l.length + 1)) (l ++ [(k : Int)]) s) (o.bins[l.length].g + 1).toNat 0 s) (fun p => (o.bins[l.length].g + 1).toNat - p.1) (0, s) (St.le_lit rfl (by simp [e3]) (by simp) (by simp) (by simp) (by simp)) ?_ fun p hk => ?_
    · exact ⟨by omega, hs, by simp⟩
    obtain ⟨k, s1⟩ := p
    obtain ⟨hk, hs1, hw⟩ := hk
    simp only at hk hs1 hw
    refine EW.seq fun Ψ6 n6 x6 => ?_
    refine EW.region gs_nil ?_
    simp
    refine n6 _ ?_; clear n6 x6
    refine EW.seq fun Ψ7 n7 x7 => ?_
    refine EW.cond (t := _) (by rfl) (fun hc26 => ?_) (fun hc26 => ?_)
    · simp at hc26
      have ihk := ih k s1 hlt hs1
      refine EW.skip ?_
      refine n7 _ ?_; clear n7 x7
      refine EW.seq fun Ψ8 n8 x8 => ?_
      refine EW.block ?_
      refine EW.seq fun Ψ9 n9 x9 => ?_
      refine EW.region gs_nil ?_
      simp
      refine n9 _ ?_; clear n9 x9
      refine EW.seq fun Ψ10 n10 x10 => ?_
      refine EW.drawn [(0, 2), (0, 5)] mixed (gs_cons (clone_ok l (by omega)) (gs_cons ihk gs_nil)) (by kernel_rfl) ?_
      simp [show (l.length + 1) * 8 ≤ 140737488355328 by omega]
      refine n10 _ ?_; clear n10 x10
      refine EW.cond (t := _) (by rfl) (fun hc35 => ?_) (fun hc35 => ?_)
      · simp at hc35
      · simp at hc35
        refine EW.skip ?_
        refine n8 _ ?_; clear n8 x8
        refine EW.hide fun Ψ11 n11 => ?_
        refine EW.region gs_nil ?_
        simp
        refine n11 _ _ ?_; clear n11
        have e4 : IntKind.i64.wrap ((k : Int) + 1) = k + 1 := wr_small (by omega) (by omega)
        have hn : (o.bins[l.length].g + 1).toNat - k = ((o.bins[l.length].g + 1).toNat - (k + 1)) + 1 := by omega
        refine ⟨(k + 1, bFold next (o.bins.drop (l.length + 1)) (l ++ [(k : Int)]) s1), (St.le_lit rfl (by simp [e4]) (by simp) (by simp) (by simp) (by simp)), ?_, ?_⟩
        · refine ⟨by simp; omega, bFold_I hI _ _ _ (by simp; omega) hs1, ?_⟩
          rw [← hw, hn]; rfl
        · simp; omega
    · simp at hc26
      have hv : bFold next (o.bins.drop l.length) l s = s1 := by rw [hv, ← hw, show (o.bins[l.length].g + 1).toNat - k = 0 by omega]; rfl
      refine EW.exit ?_
      refine x7 _ _ rfl ?_; clear n7 x7
      refine n4 _ ?_; clear n4 x4
      refine EW.seq fun Ψ12 n12 x12 => ?_
      refine EW.region gs_nil ?_
      simp
      refine n12 _ ?_; clear n12 x12
      refine EW.ret ?_
      refine ⟨_, _, _, rfl, ?_, ?_, ?_, ?_, ?_⟩ <;> simp [hv]

end
end Go.Ev
end

section
set_option linter.all false
open Go Go.Ev Go.Proofs
namespace Go.Ev
set_option linter.unusedSimpArgs false
set_option linter.unusedVariables false

theorem cells114 : Tryz.prog.cellsOf 114 = 1 := by kernel_rfl
theorem info114 : (Tryz.prog.info? 114).isSome = true := by kernel_rfl
theorem zero114 : zeroCells Tryz.prog 114 = some [.s .nilFunc] := by kernel_rfl
theorem isCell_nilF : (AV.s .nilFunc).isCell = true := rfl
attribute [simp] cells114 info114 zero114 isCell_nilF
section
variable (o : MOrd) (L : Nat) (G : YG) (I : List Int × Int → Prop) (next : List Int × Int → List Int → List Int × Int)
theorem walk81_ok (hb : ∀ b ∈ o.bins, 0 ≤ b.g ∧ b.g < 1000000) (hbl : o.bins.length < 1000000) (hR : Rounds Tryz.prog I (fun x => x.length = o.bins.length) encB (cX o) next 3 L G) (hI : ∀ s x, I s → x.length = o.bins.length → I (next s x)) : ∀ (m : Nat) (l : List Int) (s : List Int × Int), m + l.length = o.bins.length → I s → ACalls Tryz.prog 67 [.sl false false .U .no l.length (eInts l), .ptr (.ext 0) 0, .ptr (.ext 1) 0, .ptr (.ext 2) 0] [aOrdC o, [.yl L G [.ext 3, .ext 4, .ext 5]], [.fn 67 [.ptr (.ext 0) 0, .ptr (.ext 1) 0, .ptr (.ext 2) 0]], aOrdC o, [.sl false false .Z .no s.1.length (eInts s.1)], [.s (.int .i64 s.2)]] (.ret (.s (.bool true)) [aOrdC o, [.yl L G [.ext 3, .ext 4, .ext 5]], [.fn 67 [.ptr (.ext 0) 0, .ptr (.ext 1) 0, .ptr (.ext 2) 0]], aOrdC o, [.sl false false .Z .no (bFold next (o.bins.drop l.length) l s).1.length (eInts (bFold next (o.bins.drop l.length) l s).1)], [.s (.int .i64 (bFold next (o.bins.drop l.length) l s).2)]] []) := by
  intro m
  induction m with
  | zero =>
    intro l s hm hs
    exact walk81_step o L G I next hb hbl hR hI l s (by omega) hs (fun k s h => by omega)
  | succ m ih =>
    intro l s hm hs
    refine walk81_step o L G I next hb hbl hR hI l s (by omega) hs (fun k s1 h hs1 => ?_)
    have := ih (l ++ [(k : Int)]) s1 (by simp; omega) hs1
    simpa using this

theorem seq80_ok (hb : ∀ b ∈ o.bins, 0 ≤ b.g ∧ b.g < 1000000) (hbl : o.bins.length < 1000000) (hR : Rounds Tryz.prog I (fun x => x.length = o.bins.length) encB (cX o) next 3 L G) (hI : ∀ s x, I s → x.length = o.bins.length → I (next s x)) (s : List Int × Int) (hs : I s) : ACalls Tryz.prog 66 [.yl L G [.ext 0, .ext 1, .ext 2], .ptr (.ext 3) 0] [aOrdC o, [.sl false false .Z .no s.1.length (eInts s.1)], [.s (.int .i64 s.2)], aOrdC o] (.ret (.tup []) [aOrdC o, [.sl false false .Z .no (bFold next o.bins [] s).1.length (eInts (bFold next o.bins [] s).1)], [.s (.int .i64 (bFold next o.bins [] s).2)], aOrdC o] []) := by
  have hw : ACalls Tryz.prog 67 [.sl false false .U .no [].length (eInts []), .ptr (.ext 0) 0, .ptr (.ext 1) 0, .ptr (.ext 2) 0] [aOrdC o, [.yl L G [.ext 3, .ext 4, .ext 5]], [.fn 67 [.ptr (.ext 0) 0, .ptr (.ext 1) 0, .ptr (.ext 2) 0]], aOrdC o, [.sl false false .Z .no s.1.length (eInts s.1)], [.s (.int .i64 s.2)]] (.ret (.s (.bool true)) [aOrdC o, [.yl L G [.ext 3, .ext 4, .ext 5]], [.fn 67 [.ptr (.ext 0) 0, .ptr (.ext 1) 0, .ptr (.ext 2) 0]], aOrdC o, [.sl false false .Z .no (bFold next o.bins [] s).1.length (eInts (bFold next o.bins [] s).1)], [.s (.int .i64 (bFold next o.bins [] s).2)]] []) := walk81_ok o L G I next hb hbl hR hI o.bins.length [] s (by simp) hs
  refine acalls_of_ew Tryz.func66 rfl rfl (by simp [Tryz.f66]) (rs := []) rfl ?_
  refine EW.seq fun Ψ0 n0 x0 => ?_
  refine EW.region gs_nil ?_
  simp
  refine n0 _ ?_; clear n0 x0
  refine EW.seq fun Ψ1 n1 x1 => ?_
  refine EW.region gs_nil ?_
  simp
  refine n1 _ ?_; clear n1 x1
  refine EW.seq fun Ψ2 n2 x2 => ?_
  refine EW.region gs_nil ?_
  simp
  refine n2 _ ?_; clear n2 x2
  refine EW.hide fun Ψ3 n3 => ?_
  refine EW.region (gs_cons hw gs_nil) ?_
  simp
  refine n3 _ _ ?_; clear n3
  refine ⟨_, _, _, rfl, ?_, ?_, ?_, ?_, ?_⟩ <;> simp

end
theorem blends54_ok (o : MOrd) : ACalls Tryz.prog 46 [.agg [.sl false false .U .no o.limits.length (eInts o.limits), .s (.int .i64 o.least), .s (.int .i64 o.most), .sl false false .U .no o.bins.length (eBins o.bins)]] [] (.ret (.fn 66 [.ptr (.own 1) 0]) [] [(1, aOrdC o)]) := by
  refine acalls_of_ew Tryz.func46 rfl rfl (by simp [Tryz.f46]) (rs := [.tmp 2]) rfl ?_
  refine EW.seq fun Ψ0 n0 x0 => ?_
  refine EW.region gs_nil ?_
  simp
  refine n0 _ ?_; clear n0 x0
  refine EW.seq fun Ψ1 n1 x1 => ?_
  refine EW.region gs_nil ?_
  simp
  refine n1 _ ?_; clear n1 x1
  refine EW.ret ?_
  refine ⟨_, _, _, rfl, ?_, ?_, ?_, ?_, ?_⟩ <;> simp

end Go.Ev
end

section
set_option linter.all false
open Go Go.Ev Go.Proofs
namespace Go.Ev
set_option linter.unusedSimpArgs false
set_option linter.unusedVariables false


@[simp] theorem noYL_nil : noYL [] = true := rfl
@[simp] theorem noYL_cons (x : AV) (xs : List AV) : noYL (x :: xs) = (x.noY && noYL xs) := rfl
attribute [simp] AV.noY
theorem roundSt_noY {nt p : Nat} {E : List (Nat × AV)} {O : List (Nat × List AV)} {X' X : List (List AV)} {T : List (Nat × (Nat × Nat))} {rs : List Ref} {x : AV} (hx : x.asArg.noY = true) (hE : (E.all fun q => ((q.2.asArg).mapRef (refIdx rs)).noY) = true) (hX : (X.all fun q => noYL (asObjL q)) = true) :
    (roundSt (St.lit nt E O X' T) rs p x X).noY := by
  refine ⟨fun d y hd => ?_, fun r cs h => ?_⟩
  · simp only [roundSt] at hd
    split at hd
    · split at hd
      · cases hd; exact hx
      · cases hd
    · obtain ⟨z, hz, rfl⟩ := Option.map_eq_some_iff.1 hd
      exact List.all_eq_true.1 hE _ (ofL_mem (L := E) hz)
  · cases r with
    | own k => cases h
    | ext i =>
      have h2 : (X.map asObjL)[i]? = some cs := h
      rw [List.getElem?_map, Option.map_eq_some_iff] at h2
      obtain ⟨q, hq, rfl⟩ := h2
      exact List.all_eq_true.1 hX _ (List.mem_of_getElem? hq)
/-- One blend is looked at. -/
def nextC (o : MOrd) (s : List Int × Int) (x : List Int) : List Int × Int :=
  if inB (weighL o.bins x 0 0 0).1 o.least o.most = true ∧ (s.1.length = 0 ∨ (weighL o.bins x 0 0 0).2 < s.2) ∧ keepV o x = 1 then (x, (weighL o.bins x 0 0 0).2) else s
def cheapR (o : MOrd) : List Int × Int := bFold (nextC o) o.bins [] ([], 0)
def cheapB (o : MOrd) : List Int := if ordErr o = 0 then (cheapR o).1 else []
def cheapC (o : MOrd) : Int := if ordErr o = 0 then (if (cheapR o).1.length = 0 then 0 else (cheapR o).2) else 0
def cheapE (o : MOrd) : Int := if ordErr o = 0 then (if (cheapR o).1.length = 0 then 13 else 0) else ordErr o
theorem tri4 (a : Bool) (p q : Prop) [Decidable p] [Decidable q] : a = false ∨ (a = true ∧ p) ∨ (a = true ∧ ¬ p ∧ q) ∨ (a = true ∧ ¬ p ∧ ¬ q) := by
  cases a <;> by_cases hp : p <;> by_cases hq : q <;> simp [hp, hq]

set_option maxHeartbeats 1000000 in
theorem Cheapest_ok (o : MOrd) (hz : szO o) (hbo : ordErr o = 0 → o.bins ≠ [] ∧ (∀ b ∈ o.bins, 0 ≤ b.g ∧ b.g < 1000000) ∧ o.bins.length < 1000000 ∧ o.limits.length < 1000000 ∧ ∀ b ∈ o.bins, b.grams.length = o.limits.length) : ACalls Tryz.prog 17 [.agg [.sl false false .U .no o.limits.length (eInts o.limits), .s (.int .i64 o.least), .s (.int .i64 o.most), .sl false false .U .no o.bins.length (eBins o.bins)]] [] (.ret (.tup [.sl false false .Z .no (cheapB o).length (eInts (cheapB o)), .s (.int .i64 (cheapC o)), .s (.int .i64 (cheapE o))]) [] []) := by
  refine acalls_of_ew Tryz.func17 rfl rfl (by simp [Tryz.f17]) (rs := [.cell 2 23, .cell 3 3, .tmp 4]) rfl ?_
  refine EW.seq fun Ψ0 n0 x0 => ?_
  refine EW.region gs_nil ?_
  simp
  refine n0 _ ?_; clear n0 x0
  refine EW.seq fun Ψ1 n1 x1 => ?_
  refine EW.seq fun Ψ2 n2 x2 => ?_
  refine EW.region (gs_cons (check_ok' o hz) gs_nil) ?_
  simp
  refine n2 _ ?_; clear n2 x2
  refine EW.seq fun Ψ3 n3 x3 => ?_
  refine EW.region gs_nil ?_
  simp
  refine n3 _ ?_; clear n3 x3
  refine EW.cond (t := _) (by rfl) (fun hc12 => ?_) (fun hc12 => ?_)
  · have g1 : ¬ ordErr o = 0 := by simpa using hc12
    have hv : cheapB o = [] ∧ cheapC o = 0 ∧ cheapE o = ordErr o := by simp [cheapB, cheapC, cheapE, g1]
    refine EW.seq fun Ψ4 n4 x4 => ?_
    refine EW.region gs_nil ?_
    simp
    refine n4 _ ?_; clear n4 x4
    refine EW.ret ?_
    refine x1 _ _ rfl ?_; clear n1 x1
    refine ⟨_, _, _, rfl, ?_, ?_, ?_, ?_, ?_⟩ <;> simp [hv]
  · have g1 : ordErr o = 0 := by simpa using hc12
    obtain ⟨hb0, hb, hbl, hll, hgr⟩ := hbo g1
    have hb1 : 0 < o.bins.length := List.length_pos_iff.2 hb0
    refine EW.skip ?_
    refine n1 _ ?_; clear n1 x1
    refine EW.seq fun Ψ5 n5 x5 => ?_
    refine EW.seq fun Ψ6 n6 x6 => ?_
    refine EW.region (gs_cons (blends54_ok o) gs_nil) ?_
    simp
    refine n6 _ ?_; clear n6 x6
    refine EW.block ?_
    refine EW.weak (show St.le (St.lit 50 [(1, .ptr (.own 1) 0), (2, .ptr (.own 2) 0), (3, .ptr (.own 3) 0), (15, .fn 66 [.ptr (.own 16001) 0])] [(1, aOrdC o), (2, [AV.nilsl]), (3, [.s (.int .i64 0)]), (16001, aOrdC o)] [] []) _ from (St.le_lit rfl (by simp) (by simp) (by simp) (by simp) (by simp))) ?_
    refine EW.rangeFunc (fun _ => True) (fun x => x.length = o.bins.length) encB (cX o) (nextC o) [.own 1, .own 2, .own 3] (os := [aOrdC o, [AV.nilsl], [.s (.int .i64 0)], aOrdC o]) (ext' := [aOrdC o, [.sl false false .Z .no (cheapR o).1.length (eInts (cheapR o).1)], [.s (.int .i64 (cheapR o).2)], aOrdC o]) (r := .tup []) rfl (by simp) (fun lR s x hs hx => ⟨?_, ?_⟩) (fun L G hR => ?_) (St.lit 50 [(1, .ptr (.own 1) 0), (2, .ptr (.own 2) 0), (3, .ptr (.own 3) 0)] [(1, aOrdC o), (2, [.sl false false .Z .no (cheapR o).1.length (eInts (cheapR o).1)]), (3, [.s (.int .i64 (cheapR o).2)])] [] []) ?_ ?_ ?_ (fun cs h => by simp only [List.mem_cons, List.not_mem_nil, or_false] at h; rcases h with rfl | rfl | rfl | rfl <;> simp [aOrdC]) (fun _ _ => rfl)
    · skip
      exact roundSt_noY (by simp [encB]) (by simp) (by simp)
    · refine EW.hide fun ΨA nA => ?_
      have hx0 : ¬ x.length = 0 := by omega
      refine EW.region gs_nil ?_
      simp [roundSt, encB]
      refine nA .normal _ ⟨rfl, ?_⟩; clear nA
      refine EW.weak (show St.le (St.lit 50 [(1, .ptr (.ext 0) 0), (2, .ptr (.ext 1) 0), (3, .ptr (.ext 2) 0), (6, .sl false false .Z .no x.length (eInts x))] [] (cX o s) []) _ from (St.le_lit rfl (by simp [encB, hx0, roundSt]) (by simp) (by simp [roundSt]) (by simp) (by simp))) ?_
      refine EW.hide fun ΨR nR => ?_
      refine EW.block ?_
      refine EW.seq fun Ψ7 n7 x7 => ?_
      refine EW.region (gs_cons (weigh_ok o x (by omega) (by omega)) gs_nil) ?_
      simp
      refine n7 _ ?_; clear n7 x7
      refine EW.seq fun Ψ8 n8 x8 => ?_
      rcases tri4 (inB (weighL o.bins x 0 0 0).1 o.least o.most) (s.1.length = 0) ((weighL o.bins x 0 0 0).2 < s.2) with q1 | ⟨q1, q2⟩ | ⟨q1, q2, q3⟩ | ⟨q1, q2, q3⟩
      · skip
        refine EW.region (gI_ok (gs_cons (keeps_ok o x (by omega) (by omega) (by omega) hgr) gs_nil)) ?_
        simp [q1]
        refine n8 _ ?_; clear n8 x8
        refine EW.cond (t := _) (by rfl) (fun hc43 => ?_) (fun hc43 => ?_)
        · simp at hc43
        · simp at hc43
          have hv : nextC o s x = s := by simp [nextC, q1]
          refine EW.skip ?_
          refine nR .normal _ ⟨rfl, .tup [], ?_, ?_, ?_, ?_, ?_⟩ <;> simp [hv] <;> exact List.length_eq_zero_iff.1 q2
      · skip
        refine EW.region (gI_ok (gs_cons (keeps_ok o x (by omega) (by omega) (by omega) hgr) gs_nil)) ?_
        simp [q1, q2]
        refine n8 _ ?_; clear n8 x8
        refine EW.cond (t := _) (by rfl) (fun hc43 => ?_) (fun hc43 => ?_)
        · simp at hc43
          have hv : nextC o s x = (x, (weighL o.bins x 0 0 0).2) := by simp [nextC, q1, q2, hc43]
          refine EW.hide fun Ψ9 n9 => ?_
          refine EW.region gs_nil ?_
          simp
          refine n9 _ _ ?_; clear n9
          refine nR .normal _ ⟨rfl, .tup [], ?_, ?_, ?_, ?_, ?_⟩ <;> simp [hv] <;> exact List.length_eq_zero_iff.1 q2
        · simp at hc43
          have hv : nextC o s x = s := by simp [nextC, q1, q2, hc43]
          refine EW.skip ?_
          refine nR .normal _ ⟨rfl, .tup [], ?_, ?_, ?_, ?_, ?_⟩ <;> simp [hv] <;> exact List.length_eq_zero_iff.1 q2
      · skip
        refine EW.region (gI_ok (gs_cons (keeps_ok o x (by omega) (by omega) (by omega) hgr) gs_nil)) ?_
        simp [q1, q2, q3]
        refine n8 _ ?_; clear n8 x8
        refine EW.cond (t := _) (by rfl) (fun hc43 => ?_) (fun hc43 => ?_)
        · simp at hc43
          have hv : nextC o s x = (x, (weighL o.bins x 0 0 0).2) := by simp [nextC, q1, q2, q3, hc43]
          refine EW.hide fun Ψ10 n10 => ?_
          refine EW.region gs_nil ?_
          simp
          refine n10 _ _ ?_; clear n10
          refine nR .normal _ ⟨rfl, .tup [], ?_, ?_, ?_, ?_, ?_⟩ <;> simp [hv] <;> exact List.length_eq_zero_iff.1 q2
        · simp at hc43
          have hv : nextC o s x = s := by simp [nextC, q1, q2, q3, hc43]
          refine EW.skip ?_
          refine nR .normal _ ⟨rfl, .tup [], ?_, ?_, ?_, ?_, ?_⟩ <;> simp [hv] <;> exact List.length_eq_zero_iff.1 q2
      · skip
        refine EW.region (gI_ok (gs_cons (keeps_ok o x (by omega) (by omega) (by omega) hgr) gs_nil)) ?_
        simp [q1, q2, q3]
        refine n8 _ ?_; clear n8 x8
        refine EW.cond (t := _) (by rfl) (fun hc43 => ?_) (fun hc43 => ?_)
        · simp at hc43
        · simp at hc43
          have hv : nextC o s x = s := by simp [nextC, q1, q2, q3]
          refine EW.skip ?_
          refine nR .normal _ ⟨rfl, .tup [], ?_, ?_, ?_, ?_, ?_⟩ <;> simp [hv] <;> exact List.length_eq_zero_iff.1 q2
    · skip
      have := seq80_ok o L G (fun _ => True) (nextC o) hb hbl hR (fun _ _ _ _ => trivial) ([], 0) trivial
      simpa [cheapR] using this
    · skip
      exact St.le_lit rfl (by simp) (by simp) (by simp) (by simp) (by simp)
    · skip
      exact St.noY_lit (by simp) (by simp) (by simp)
    refine n5 _ ?_; clear n5 x5
    refine EW.seq fun Ψ11 n11 x11 => ?_
    refine EW.seq fun Ψ12 n12 x12 => ?_
    refine EW.region gs_nil ?_
    simp
    refine n12 _ ?_; clear n12 x12
    refine EW.cond (t := _) (by rfl) (fun hc47 => ?_) (fun hc47 => ?_)
    · have g2 : (cheapR o).1.length = 0 := by simpa using hc47
      have g3 : (cheapR o).1 = [] := List.length_eq_zero_iff.1 g2
      have hv : cheapB o = [] ∧ cheapC o = 0 ∧ cheapE o = 13 := by simp [cheapB, cheapC, cheapE, g1, g3]
      refine EW.seq fun Ψ13 n13 x13 => ?_
      refine EW.region gs_nil ?_
      simp
      refine n13 _ ?_; clear n13 x13
      refine EW.ret ?_
      refine x11 _ _ rfl ?_; clear n11 x11
      refine ⟨_, _, _, rfl, ?_, ?_, ?_, ?_, ?_⟩ <;> simp [hv]
    · have g2 : ¬ (cheapR o).1.length = 0 := by simpa using hc47
      have hv : cheapB o = (cheapR o).1 ∧ cheapC o = (cheapR o).2 ∧ cheapE o = 0 := by simp only [cheapB, cheapC, cheapE, g1, g2, if_true, if_false, and_self]
      refine EW.skip ?_
      refine n11 _ ?_; clear n11 x11
      refine EW.seq fun Ψ14 n14 x14 => ?_
      refine EW.drawn [(1, 2)] mixed gs_nil (by kernel_rfl) ?_
      simp
      refine n14 _ ?_; clear n14 x14
      refine EW.ret ?_
      refine ⟨_, _, _, rfl, ?_, ?_, ?_, ?_, ?_⟩ <;> simp [hv]

end Go.Ev
end

section
set_option linter.all false
open Go Go.Ev Go.Proofs
namespace Go.Ev
set_option linter.unusedSimpArgs false
set_option linter.unusedVariables false


theorem binsErr_len (nl : Nat) : ∀ (l : List MBin), binsErr nl l = 0 → ∀ b ∈ l, b.grams.length = nl
  | [], _, b, hb => by cases hb
  | x :: l, h, b, hb => by
    unfold binsErr at h
    split at h
    · rename_i hx
      rcases List.mem_cons.1 hb with rfl | hb
      · unfold binErr at hx
        split at hx
        · assumption
        · cases hx
      · exact binsErr_len nl l h b hb
    · rename_i hx; exact absurd h hx
theorem ordErr_bins (o : MOrd) (h : ordErr o = 0) : binsErr o.limits.length o.bins = 0 := by
  unfold ordErr at h
  repeat (split at h; first | cases h | skip)
  exact h
theorem blendErr_ord (o : MOrd) (l : List Int) (h : blendErr o l = 0) : ordErr o = 0 ∧ l.length = o.bins.length := by
  unfold blendErr at h
  split at h
  · rename_i h1
    split at h
    · exact ⟨h1, by assumption⟩
    · cases h
  · rename_i h1; exact absurd h h1

theorem Keeps_ok (o : MOrd) (l : List Int) (hz : szO o) (hl : (l.length : Int) < 9223372036854775807) : ACalls Tryz.prog 15 [.agg [.sl false false .U .no o.limits.length (eInts o.limits), .s (.int .i64 o.least), .s (.int .i64 o.most), .sl false false .U .no o.bins.length (eBins o.bins)], .sl false false .U .no l.length (eInts l)] [] (.ret (.tup [.s (.int .i64 (if blendErr o l = 0 then keepV o l else 0)), .s (.int .i64 (blendErr o l))]) [] []) := by
  refine acalls_of_ew Tryz.func15 rfl rfl (by simp [Tryz.f15]) (rs := [.tmp 4, .tmp 5]) rfl ?_
  refine EW.seq fun Ψ0 n0 x0 => ?_
  refine EW.region gs_nil ?_
  simp
  refine n0 _ ?_; clear n0 x0
  refine EW.seq fun Ψ1 n1 x1 => ?_
  refine EW.seq fun Ψ2 n2 x2 => ?_
  refine EW.region (gs_cons (checkBlend_ok o l hz hl) gs_nil) ?_
  simp
  refine n2 _ ?_; clear n2 x2
  refine EW.seq fun Ψ3 n3 x3 => ?_
  refine EW.region gs_nil ?_
  simp
  refine n3 _ ?_; clear n3 x3
  refine EW.cond (t := _) (by rfl) (fun hc11 => ?_) (fun hc11 => ?_)
  · have g1 : ¬ blendErr o l = 0 := by simpa using hc11
    refine EW.seq fun Ψ4 n4 x4 => ?_
    refine EW.region gs_nil ?_
    simp
    refine n4 _ ?_; clear n4 x4
    refine EW.ret ?_
    refine x1 _ _ rfl ?_; clear n1 x1
    refine ⟨_, _, _, rfl, ?_, ?_, ?_, ?_, ?_⟩ <;> simp [g1]
  · have g1 : blendErr o l = 0 := by simpa using hc11
    obtain ⟨g2, g3⟩ := blendErr_ord o l g1
    have g4 := binsErr_len _ _ (ordErr_bins o g2)
    refine EW.skip ?_
    refine n1 _ ?_; clear n1 x1
    refine EW.seq fun Ψ5 n5 x5 => ?_
    refine EW.region (gs_cons (keeps_ok o l hl (by omega) (by have := hz.1; omega) g4) gs_nil) ?_
    simp
    refine n5 _ ?_; clear n5 x5
    refine EW.ret ?_
    refine ⟨_, _, _, rfl, ?_, ?_, ?_, ?_, ?_⟩ <;> simp [g1]

end Go.Ev
end

section
set_option linter.all false
open Go Go.Ev Go.Proofs
namespace Go.Ev
set_option linter.unusedSimpArgs false
set_option linter.unusedVariables false

/-! ### What a valid order is -/
structure OkB (nl : Nat) (b : MBin) : Prop where
  len : b.grams.length = nl
  rng : ∀ r ∈ b.grams, 0 ≤ r.1 ∧ r.1 ≤ r.2 ∧ r.2 ≤ 1000000
  w : 1 ≤ b.w ∧ b.w ≤ 10000
  c : 0 ≤ b.c ∧ b.c ≤ 10000000
  g : 0 ≤ b.g ∧ b.g ≤ 6
structure OkO (o : MOrd) : Prop where
  nl : o.limits.length ≤ 3
  lim : ∀ n ∈ o.limits, 0 ≤ n ∧ n ≤ 1000000
  lo : 0 ≤ o.least ∧ o.least ≤ o.most ∧ o.most ≤ 240000
  ne : o.bins ≠ []
  nb : o.bins.length ≤ 4
  bin : ∀ b ∈ o.bins, OkB o.limits.length b
theorem inB_iff {a b c : Int} : inB a b c = true ↔ b ≤ a ∧ a ≤ c := by simp [inB]
theorem rngsErr_ok : ∀ (l : List (Int × Int)), rngsErr l = 0 → ∀ r ∈ l, 0 ≤ r.1 ∧ r.1 ≤ r.2 ∧ r.2 ≤ 1000000
  | [], _, r, h => by cases h
  | x :: l, h, r, hr => by
    unfold rngsErr at h
    split at h
    · rename_i hx
      rcases List.mem_cons.1 hr with rfl | hr
      · unfold rngErr at hx
        split at hx
        · cases hx
        · rename_i h1
          split at hx
          · cases hx
          · rename_i h2
            simp only [Bool.not_eq_false, Bool.and_eq_true, inB_iff] at h1
            exact ⟨h1.1.1, by omega, h1.2.2⟩
      · exact rngsErr_ok l h r hr
    · rename_i hx; exact absurd h hx
theorem binErr_ok {nl : Nat} {b : MBin} (h : binErr nl b = 0) : OkB nl b := by
  unfold binErr at h
  split at h
  · rename_i h1
    split at h
    · rename_i h2
      split at h
      · rename_i h3
        simp only [Bool.and_eq_true, inB_iff] at h3
        exact ⟨h1, rngsErr_ok _ h2, h3.1.1, h3.1.2, h3.2⟩
      · cases h
    · rename_i h2; exact absurd h h2
  · cases h
theorem binsErr_ok (nl : Nat) : ∀ (l : List MBin), binsErr nl l = 0 → ∀ b ∈ l, OkB nl b
  | [], _, b, hb => by cases hb
  | x :: l, h, b, hb => by
    unfold binsErr at h
    split at h
    · rename_i hx
      rcases List.mem_cons.1 hb with rfl | hb
      · exact binErr_ok hx
      · exact binsErr_ok nl l h b hb
    · rename_i hx; exact absurd h hx
theorem anyBad_no : ∀ (l : List Int), ¬ anyBad l = true → ∀ n ∈ l, 0 ≤ n ∧ n ≤ 1000000
  | [], _, n, h => by cases h
  | x :: l, h, n, hn => by
    rw [anyBad_cons'] at h
    simp only [Bool.or_eq_true, Bool.not_eq_true', not_or, Bool.not_eq_false] at h
    rcases List.mem_cons.1 hn with rfl | hn
    · exact inB_iff.1 h.1
    · exact anyBad_no l h.2 n hn
where anyBad_cons' {n : Int} {l : List Int} : anyBad (n :: l) = (!inB n 0 1000000 || anyBad l) := rfl
theorem ordErr_ok {o : MOrd} (h : ordErr o = 0) : OkO o := by
  have hb := binsErr_ok _ _ (ordErr_bins o h)
  unfold ordErr at h
  split at h
  · cases h
  rename_i h1
  split at h
  · cases h
  rename_i h2
  split at h
  · cases h
  rename_i h3
  split at h
  · cases h
  rename_i h4
  split at h
  · cases h
  rename_i h5
  split at h
  · cases h
  rename_i h6
  simp only [Bool.not_eq_false, Bool.and_eq_true, inB_iff] at h3
  exact ⟨by omega, anyBad_no _ h2, ⟨h3.1.1, by omega, h3.2.2⟩, fun e => h5 (by rw [e]; rfl), by omega, hb⟩
theorem OkO.sz {o : MOrd} (h : OkO o) : szO o := ⟨by have := h.nl; omega, by have := h.nb; omega, fun b hb => by have := (h.bin b hb).len; have := h.nl; omega⟩

theorem setHi_in {x : List (Int × Int)} (h : ∀ p ∈ x, p.1 = 0 ∧ 0 ≤ p.2 ∧ p.2 ≤ 6) {g : Int} (hg : 0 ≤ g ∧ g ≤ 6) (k : Nat) : ∀ p ∈ setHi x k g, p.1 = 0 ∧ 0 ≤ p.2 ∧ p.2 ≤ 6 := by
  induction x generalizing k with
  | nil => intro p hp; simp [setHi] at hp
  | cons q r ih =>
    intro p hp
    cases k with
    | zero =>
      simp only [setHi] at hp
      rcases List.mem_cons.1 hp with rfl | hp
      · exact ⟨(h q (by simp)).1, hg⟩
      · exact h p (by simp [hp])
    | succ k =>
      simp only [setHi] at hp
      rcases List.mem_cons.1 hp with rfl | hp
      · exact h p (by simp)
      · exact ih (fun p hp => h p (by simp [hp])) k p hp
theorem wholeL_in : ∀ (bs : List MBin) (i : Nat) (x : List (Int × Int)), (∀ b ∈ bs, 0 ≤ b.g ∧ b.g ≤ 6) → (∀ p ∈ x, p.1 = 0 ∧ 0 ≤ p.2 ∧ p.2 ≤ 6) → (wholeL bs i x).length = x.length ∧ ∀ p ∈ wholeL bs i x, p.1 = 0 ∧ 0 ≤ p.2 ∧ p.2 ≤ 6
  | [], i, x, _, hx => ⟨rfl, hx⟩
  | b :: bs, i, x, hb, hx => by
    have := wholeL_in bs (i + 1) (setHi x i b.g) (fun c hc => hb c (by simp [hc])) (setHi_in hx (hb b (by simp)) i)
    exact ⟨this.1.trans (by simp), this.2⟩
theorem sizeBx_le : ∀ (x : List (Int × Int)), (∀ p ∈ x, p.1 = 0 ∧ 0 ≤ p.2 ∧ p.2 ≤ 6) → sizeBx x ≤ 6 * x.length
  | [], _ => by simp [sizeBx]
  | p :: r, h => by
    have h1 := h p (by simp)
    have := sizeBx_le r (fun q hq => h q (by simp [hq]))
    simp only [sizeBx, List.length_cons]
    omega
theorem whole_facts {o : MOrd} (h : OkO o) : (wholeB o).length = 4 ∧ okBx (wholeB o) ∧ sizeBx (wholeB o) < 41 := by
  obtain ⟨h1, h2⟩ := wholeL_in o.bins 0 bx0 (fun b hb => (h.bin b hb).g) (by simp [bx0])
  have h3 := sizeBx_le _ h2
  have h1' : (wholeB o).length = 4 := h1
  exact ⟨h1', fun p hp => by have := h2 p hp; omega, by simp only [wholeB]; rw [h1] at h3; simp at h3; omega⟩
theorem Cheapest_ok' (o : MOrd) (hz : szO o) : ACalls Tryz.prog 17 [.agg [.sl false false .U .no o.limits.length (eInts o.limits), .s (.int .i64 o.least), .s (.int .i64 o.most), .sl false false .U .no o.bins.length (eBins o.bins)]] [] (.ret (.tup [.sl false false .Z .no (cheapB o).length (eInts (cheapB o)), .s (.int .i64 (cheapC o)), .s (.int .i64 (cheapE o))]) [] []) :=
  Cheapest_ok o hz fun h => by
    have k := ordErr_ok h
    exact ⟨k.ne, fun b hb => ⟨(k.bin b hb).g.1, by have := (k.bin b hb).g.2; omega⟩, by have := k.nb; omega, by have := k.nl; omega, fun b hb => (k.bin b hb).len⟩
theorem prove74_ok' (o : MOrd) (pr : Int) (k : OkO o) : ACalls Tryz.prog 50 [.agg [.sl false false .U .no o.limits.length (eInts o.limits), .s (.int .i64 o.least), .s (.int .i64 o.most), .sl false false .U .no o.bins.length (eBins o.bins), .s (.int .i64 pr)]] [] (.ret (proveR o pr) [] []) :=
  prove74_ok o pr k.nb (by have := k.nl; omega) (fun b hb => (k.bin b hb).len) (whole_facts k).2.1 (whole_facts k).2.2 (whole_facts k).1
end Go.Ev
end

section
set_option linter.all false
open Go Go.Ev Go.Proofs
namespace Go.Ev
set_option linter.unusedSimpArgs false
set_option linter.unusedVariables false


def prvL (o : MOrd) (pr : Int) : List MBd := if priceErr o pr = 0 then (proveN o pr).getD [] else []
def prvE (o : MOrd) (pr : Int) : Int := if priceErr o pr = 0 then (if (proveN o pr).isSome = true then 0 else 13) else priceErr o pr
theorem priceErr_ord {o : MOrd} {p : Int} (h : priceErr o p = 0) : ordErr o = 0 := by
  unfold priceErr at h
  split at h
  · assumption
  · exact h

theorem Prove_ok (o : MOrd) (pr : Int) (hz : szO o) : ACalls Tryz.prog 18 [.agg [.sl false false .U .no o.limits.length (eInts o.limits), .s (.int .i64 o.least), .s (.int .i64 o.most), .sl false false .U .no o.bins.length (eBins o.bins)], .s (.int .i64 pr)] [] (.ret (.tup [.sl false false .U .no (prvL o pr).length (eBds (prvL o pr)), .s (.int .i64 (prvE o pr))]) [] []) := by
  refine acalls_of_ew Tryz.func18 rfl rfl (by simp [Tryz.f18]) (rs := [.tmp 4, .tmp 5]) rfl ?_
  refine EW.seq fun Ψ0 n0 x0 => ?_
  refine EW.region gs_nil ?_
  simp
  refine n0 _ ?_; clear n0 x0
  refine EW.seq fun Ψ1 n1 x1 => ?_
  refine EW.seq fun Ψ2 n2 x2 => ?_
  refine EW.region (gs_cons (checkPrice_ok o pr hz) gs_nil) ?_
  simp
  refine n2 _ ?_; clear n2 x2
  refine EW.seq fun Ψ3 n3 x3 => ?_
  refine EW.region gs_nil ?_
  simp
  refine n3 _ ?_; clear n3 x3
  refine EW.cond (t := _) (by rfl) (fun hc13 => ?_) (fun hc13 => ?_)
  · have g1 : ¬ priceErr o pr = 0 := by simpa using hc13
    have hv : prvL o pr = [] ∧ prvE o pr = priceErr o pr := by simp [prvL, prvE, g1]
    refine EW.seq fun Ψ4 n4 x4 => ?_
    refine EW.region gs_nil ?_
    simp
    refine n4 _ ?_; clear n4 x4
    refine EW.ret ?_
    refine x1 _ _ rfl ?_; clear n1 x1
    refine ⟨_, _, _, rfl, ?_, ?_, ?_, ?_, ?_⟩ <;> simp [hv]
  · have g1 : priceErr o pr = 0 := by simpa using hc13
    have hk := ordErr_ok (priceErr_ord g1)
    refine EW.skip ?_
    refine n1 _ ?_; clear n1 x1
    refine EW.seq fun Ψ5 n5 x5 => ?_
    rcases hN : proveN o pr with _ | lp
    · skip
      refine EW.region (gs_cons (prove74_ok' o pr hk) gs_nil) ?_
      simp [proveR, hN]
      refine n5 _ ?_; clear n5 x5
      refine EW.seq fun Ψ6 n6 x6 => ?_
      refine EW.seq fun Ψ7 n7 x7 => ?_
      refine EW.region gs_nil ?_
      simp
      refine n7 _ ?_; clear n7 x7
      refine EW.cond (t := _) (by rfl) (fun hc23 => ?_) (fun hc23 => ?_)
      · simp at hc23
        have hv : prvL o pr = [] ∧ prvE o pr = 13 := by simp [prvL, prvE, g1, hN]
        refine EW.seq fun Ψ8 n8 x8 => ?_
        refine EW.region gs_nil ?_
        simp
        refine n8 _ ?_; clear n8 x8
        refine EW.ret ?_
        refine x6 _ _ rfl ?_; clear n6 x6
        refine ⟨_, _, _, rfl, ?_, ?_, ?_, ?_, ?_⟩ <;> simp [hv]
      · simp at hc23
    · skip
      refine EW.region (gs_cons (prove74_ok' o pr hk) gs_nil) ?_
      simp [proveR, hN]
      refine n5 _ ?_; clear n5 x5
      refine EW.seq fun Ψ9 n9 x9 => ?_
      refine EW.seq fun Ψ10 n10 x10 => ?_
      refine EW.region gs_nil ?_
      simp
      refine n10 _ ?_; clear n10 x10
      refine EW.cond (t := _) (by rfl) (fun hc23 => ?_) (fun hc23 => ?_)
      · simp at hc23
      · simp at hc23
        have hv : prvL o pr = lp ∧ prvE o pr = 0 := by simp [prvL, prvE, g1, hN]
        refine EW.skip ?_
        refine n9 _ ?_; clear n9 x9
        refine EW.seq fun Ψ11 n11 x11 => ?_
        refine EW.region gs_nil ?_
        simp
        refine n11 _ ?_; clear n11 x11
        refine EW.ret ?_
        refine ⟨_, _, _, rfl, ?_, ?_, ?_, ?_, ?_⟩ <;> simp [hv]

end Go.Ev
end

section
set_option linter.all false
open Go Go.Ev Go.Proofs
namespace Go.Ev
set_option linter.unusedSimpArgs false
set_option linter.unusedVariables false


def eqIntsS (a b : List Int) (p : Nat × Bool) : St :=
  St.lit 31 [(0, .sl false false .U .no a.length (eInts a)), (1, .sl false false .U .no b.length (eInts b)), (5, .s (.bool p.2)), (6, .s (.int .i64 p.1))] [] [] []
attribute [simp] eqIntsS

theorem eqInts_ok (a b : List Int) (hl : (a.length : Int) < 9223372036854775807) : ACalls Tryz.prog 20 [.sl false false .U .no a.length (eInts a), .sl false false .U .no b.length (eInts b)] [] (.ret (.s (.bool (decide (a = b)))) [] []) := by
  refine acalls_of_ew Tryz.func20 rfl rfl (by simp [Tryz.f20]) (rs := [.tmp 4]) rfl ?_
  refine EW.seq fun Ψ0 n0 x0 => ?_
  refine EW.region gs_nil ?_
  simp
  refine n0 _ ?_; clear n0 x0
  refine EW.seq fun Ψ1 n1 x1 => ?_
  refine EW.region gs_nil ?_
  simp
  refine n1 _ ?_; clear n1 x1
  refine EW.seq fun Ψ2 n2 x2 => ?_
  refine EW.seq fun Ψ3 n3 x3 => ?_
  refine EW.region gs_nil ?_
  simp
  refine n3 _ ?_; clear n3 x3
  refine EW.block ?_
  refine EW.loopA (eqIntsS a b) (fun p => p.1 ≤ a.length ∧ (p.2 = true → a.length = b.length ∧ a.take p.1 = b.take p.1) ∧ (p.2 = false → a ≠ b)) (fun p => a.length - p.1) (0, decide (a.length = b.length)) (St.le_lit rfl (by simp; omega) (by simp) (by simp) (by simp) (by simp)) ?_ fun p hk => ?_
  · exact ⟨Nat.zero_le _, fun h => by simpa using h, fun h e => by subst e; simp at h⟩
  obtain ⟨k, y⟩ := p
  obtain ⟨hk, hw, hn⟩ := hk
  simp only at hk hw hn
  refine EW.seq fun Ψ4 n4 x4 => ?_
  refine EW.seq fun Ψ5 n5 x5 => ?_
  cases y
  · skip
    refine EW.region gs_nil ?_
    simp
    refine n5 _ ?_; clear n5 x5
    refine EW.cond (t := _) (by rfl) (fun hc18 => ?_) (fun hc18 => ?_)
    · simp at hc18
    · simp at hc18
      have hab : a ≠ b := hn rfl
      refine EW.exit ?_
      refine x4 _ _ rfl ?_; clear n4 x4
      refine n2 _ ?_; clear n2 x2
      refine EW.seq fun Ψ6 n6 x6 => ?_
      refine EW.region gs_nil ?_
      simp
      refine n6 _ ?_; clear n6 x6
      refine EW.ret ?_
      refine ⟨_, _, _, rfl, ?_, ?_, ?_, ?_, ?_⟩ <;> simp [hab]
  · skip
    refine EW.region gs_nil ?_
    simp
    refine n5 _ ?_; clear n5 x5
    refine EW.cond (t := _) (by rfl) (fun hc18 => ?_) (fun hc18 => ?_)
    · simp at hc18
      obtain ⟨h18, h19⟩ := hw rfl
      have hkb : k < b.length := by omega
      have e1 : a[k]? = some a[k] := List.getElem?_eq_getElem hc18
      have e2 : b[k]? = some b[k] := List.getElem?_eq_getElem hkb
      refine EW.skip ?_
      refine n4 _ ?_; clear n4 x4
      refine EW.seq fun Ψ7 n7 x7 => ?_
      refine EW.block ?_
      refine EW.hide fun Ψ8 n8 => ?_
      refine EW.drawn [] mixed gs_nil (by kernel_rfl) ?_
      simp [hc18, hkb, e1, e2]
      refine n8 _ _ ?_; clear n8
      refine n7 _ ?_; clear n7 x7
      refine EW.hide fun Ψ9 n9 => ?_
      refine EW.region gs_nil ?_
      simp
      refine n9 _ _ ?_; clear n9
      have e3 : IntKind.i64.wrap ((k : Int) + 1) = k + 1 := wr_small (by omega) (by omega)
      refine ⟨(k + 1, decide (a[k] = b[k])), (St.le_lit rfl (by simp [e3]) (by simp) (by simp) (by simp) (by simp)), ?_, ?_⟩
      · refine ⟨hc18, fun h => ⟨h18, ?_⟩, fun h e => ?_⟩
        · rw [List.take_add_one, List.take_add_one, e1, e2, h19, of_decide_eq_true h]
        · subst e; simp at h
      · simp; omega
    · simp at hc18
      obtain ⟨h18, h19⟩ := hw rfl
      have hab : a = b := by rw [List.take_of_length_le (by omega), List.take_of_length_le (by omega)] at h19; exact h19
      refine EW.exit ?_
      refine x4 _ _ rfl ?_; clear n4 x4
      refine n2 _ ?_; clear n2 x2
      refine EW.seq fun Ψ10 n10 x10 => ?_
      refine EW.region gs_nil ?_
      simp
      refine n10 _ ?_; clear n10 x10
      refine EW.ret ?_
      refine ⟨_, _, _, rfl, ?_, ?_, ?_, ?_, ?_⟩ <;> simp [hab]


def eqRngsS (a b : List (Int × Int)) (p : Nat × Bool) : St :=
  St.lit 31 [(0, .sl false false .U .no a.length (eRngs a)), (1, .sl false false .U .no b.length (eRngs b)), (5, .s (.bool p.2)), (6, .s (.int .i64 p.1))] [] [] []
attribute [simp] eqRngsS

def eqBdsS (a b : List MBd) (p : Nat × Bool) : St :=
  St.lit 31 [(0, .sl false false .U .no a.length (eBds a)), (1, .sl false false .U .no b.length (eBds b)), (5, .s (.bool p.2)), (6, .s (.int .i64 p.1))] [] [] []
attribute [simp] eqBdsS

theorem eqBds_ok (a b : List MBd) (hl : (a.length : Int) < 9223372036854775807) : ACalls Tryz.prog 11 [.sl false false .U .no a.length (eBds a), .sl false false .U .no b.length (eBds b)] [] (.ret (.s (.bool (decide (a = b)))) [] []) := by
  refine acalls_of_ew Tryz.func11 rfl rfl (by simp [Tryz.f11]) (rs := [.tmp 4]) rfl ?_
  refine EW.seq fun Ψ0 n0 x0 => ?_
  refine EW.region gs_nil ?_
  simp
  refine n0 _ ?_; clear n0 x0
  refine EW.seq fun Ψ1 n1 x1 => ?_
  refine EW.region gs_nil ?_
  simp
  refine n1 _ ?_; clear n1 x1
  refine EW.seq fun Ψ2 n2 x2 => ?_
  refine EW.seq fun Ψ3 n3 x3 => ?_
  refine EW.region gs_nil ?_
  simp
  refine n3 _ ?_; clear n3 x3
  refine EW.block ?_
  refine EW.loopA (eqBdsS a b) (fun p => p.1 ≤ a.length ∧ (p.2 = true → a.length = b.length ∧ a.take p.1 = b.take p.1) ∧ (p.2 = false → a ≠ b)) (fun p => a.length - p.1) (0, decide (a.length = b.length)) (St.le_lit rfl (by simp; omega) (by simp) (by simp) (by simp) (by simp)) ?_ fun p hk => ?_
  · exact ⟨Nat.zero_le _, fun h => by simpa using h, fun h e => by subst e; simp at h⟩
  obtain ⟨k, y⟩ := p
  obtain ⟨hk, hw, hn⟩ := hk
  simp only at hk hw hn
  refine EW.seq fun Ψ4 n4 x4 => ?_
  refine EW.seq fun Ψ5 n5 x5 => ?_
  cases y
  · skip
    refine EW.region gs_nil ?_
    simp
    refine n5 _ ?_; clear n5 x5
    refine EW.cond (t := _) (by rfl) (fun hc18 => ?_) (fun hc18 => ?_)
    · simp at hc18
    · simp at hc18
      have hab : a ≠ b := hn rfl
      refine EW.exit ?_
      refine x4 _ _ rfl ?_; clear n4 x4
      refine n2 _ ?_; clear n2 x2
      refine EW.seq fun Ψ6 n6 x6 => ?_
      refine EW.region gs_nil ?_
      simp
      refine n6 _ ?_; clear n6 x6
      refine EW.ret ?_
      refine ⟨_, _, _, rfl, ?_, ?_, ?_, ?_, ?_⟩ <;> simp [hab]
  · skip
    refine EW.region gs_nil ?_
    simp
    refine n5 _ ?_; clear n5 x5
    refine EW.cond (t := _) (by rfl) (fun hc18 => ?_) (fun hc18 => ?_)
    · simp at hc18
      obtain ⟨h18, h19⟩ := hw rfl
      have hkb : k < b.length := by omega
      have e1 : a[k]? = some a[k] := List.getElem?_eq_getElem hc18
      have e2 : b[k]? = some b[k] := List.getElem?_eq_getElem hkb
      refine EW.skip ?_
      refine n4 _ ?_; clear n4 x4
      refine EW.seq fun Ψ7 n7 x7 => ?_
      refine EW.block ?_
      refine EW.hide fun Ψ8 n8 => ?_
      refine EW.drawn [] mixed gs_nil (by kernel_rfl) ?_
      simp [hc18, hkb, e1, e2, eBd, eBds_atm _ _ _ _ _ e1, eBds_atm _ _ _ _ _ e2, show 3 ≤ a.length * 3 - k * 3 by omega, show 3 ≤ b.length * 3 - k * 3 by omega]
      refine n8 _ _ ?_; clear n8
      refine n7 _ ?_; clear n7 x7
      refine EW.hide fun Ψ9 n9 => ?_
      refine EW.region gs_nil ?_
      simp
      refine n9 _ _ ?_; clear n9
      have e3 : IntKind.i64.wrap ((k : Int) + 1) = k + 1 := wr_small (by omega) (by omega)
      refine ⟨(k + 1, decide (a[k] = b[k])), (St.le_lit rfl (by simp [e3, MBd.ext_iff]) (by simp) (by simp) (by simp) (by simp)), ?_, ?_⟩
      · refine ⟨hc18, fun h => ⟨h18, ?_⟩, fun h e => ?_⟩
        · rw [List.take_add_one, List.take_add_one, e1, e2, h19, of_decide_eq_true h]
        · subst e; simp at h
      · simp; omega
    · simp at hc18
      obtain ⟨h18, h19⟩ := hw rfl
      have hab : a = b := by rw [List.take_of_length_le (by omega), List.take_of_length_le (by omega)] at h19; exact h19
      refine EW.exit ?_
      refine x4 _ _ rfl ?_; clear n4 x4
      refine n2 _ ?_; clear n2 x2
      refine EW.seq fun Ψ10 n10 x10 => ?_
      refine EW.region gs_nil ?_
      simp
      refine n10 _ ?_; clear n10 x10
      refine EW.ret ?_
      refine ⟨_, _, _, rfl, ?_, ?_, ?_, ?_, ?_⟩ <;> simp [hab]

end Go.Ev
end

section
set_option linter.all false
open Go Go.Ev Go.Proofs
namespace Go.Ev
set_option linter.unusedSimpArgs false
set_option linter.unusedVariables false


def ordC : MOrd := ⟨[400, 100], 10000, 12000, [⟨[(300, 350), (50, 60)], 2000, 50, 4⟩, ⟨[(500, 600), (0, 20)], 2000, 30, 4⟩, ⟨[(100, 100), (200, 300)], 1000, 20, 3⟩]⟩
def plC (n : Int) : MOrd := ⟨[], n, n, [⟨[], 1, 5, 4⟩]⟩
theorem eBins_cons (b : MBin) (l : List MBin) : eBins (b :: l) = D.sl b.grams.length (eRngs b.grams) :: D.s (.int .i64 b.w) :: D.s (.int .i64 b.c) :: D.s (.int .i64 b.g) :: eBins l := rfl
theorem eRngs_cons (r : Int × Int) (l : List (Int × Int)) : eRngs (r :: l) = D.s (.int .i64 r.1) :: D.s (.int .i64 r.2) :: eRngs l := rfl
theorem szOrd : szO ordC := ⟨by simp [ordC], by simp [ordC], by intro b hb; simp [ordC] at hb; rcases hb with rfl | rfl | rfl <;> simp⟩
theorem szPl (n : Int) : szO (plC n) := ⟨by simp [plC], by simp [plC], by intro b hb; simp [plC] at hb; subst hb; simp⟩
set_option maxRecDepth 100000
theorem al1 : blendErr ordC [2, 3, 2] = 0 := by kernel_rfl
theorem al2 : keepV ordC [2, 3, 2] = 3 := by kernel_rfl
theorem al3 : cheapB ordC = [2, 2, 2] := by kernel_rfl
theorem al4 : cheapC ordC = 200 := by kernel_rfl
theorem al5 : cheapE ordC = 0 := by kernel_rfl
theorem al6 : prvL (plC 3) 15 = [⟨1, 0, 2⟩, ⟨2, 0, 0⟩, ⟨5, 0, 0⟩] := by kernel_rfl
theorem al7 : prvE (plC 3) 15 = 0 := by kernel_rfl

theorem to_ok (a b : Int) : ACalls Tryz.prog 44 [.s (.int .i64 a), .s (.int .i64 b)] [] (.ret (.agg [.s (.int .i64 a), .s (.int .i64 b)]) [] []) := by
  refine acalls_of_ew Tryz.func44 rfl rfl (by simp [Tryz.f44]) (rs := [.cell 4 71]) rfl ?_
  refine EW.seq fun Ψ0 n0 x0 => ?_
  refine EW.region gs_nil ?_
  simp
  refine n0 _ ?_; clear n0 x0
  refine EW.seq fun Ψ1 n1 x1 => ?_
  refine EW.region gs_nil ?_
  simp
  refine n1 _ ?_; clear n1 x1
  refine EW.ret ?_
  refine ⟨_, _, _, rfl, ?_, ?_, ?_, ?_, ?_⟩ <;> simp

theorem order_ok : ACalls Tryz.prog 16 [] [] (.ret (.agg [.sl true true .U .no ordC.limits.length (eInts ordC.limits), .s (.int .i64 ordC.least), .s (.int .i64 ordC.most), .sl true true .U .no ordC.bins.length (eBins ordC.bins)]) [] []) := by
  refine acalls_of_ew Tryz.func16 rfl rfl (by simp [Tryz.f16]) (rs := [.cell 0 32]) rfl ?_
  refine EW.seq fun Ψ0 n0 x0 => ?_
  refine EW.region gs_nil ?_
  simp
  refine n0 _ ?_; clear n0 x0
  refine EW.seq fun Ψ1 n1 x1 => ?_
  refine EW.region (gs_cons (to_ok 300 350) (gs_cons (to_ok 50 60) (gs_cons (to_ok 500 600) (gs_cons (to_ok 0 20) (gs_cons (to_ok 100 100) (gs_cons (to_ok 200 300) gs_nil)))))) ?_
  simp
  refine n1 _ ?_; clear n1 x1
  refine EW.ret ?_
  refine ⟨_, _, _, rfl, ?_, ?_, ?_, ?_, ?_⟩ <;> simp [ordC, eBins_cons, eRngs_cons]

theorem plainO_ok (n : Int) : ACalls Tryz.prog 19 [.s (.int .i64 n)] [] (.ret (.agg [.sl true true .U .no (plC n).limits.length (eInts (plC n).limits), .s (.int .i64 (plC n).least), .s (.int .i64 (plC n).most), .sl true true .U .no (plC n).bins.length (eBins (plC n).bins)]) [] []) := by
  refine acalls_of_ew Tryz.func19 rfl rfl (by simp [Tryz.f19]) (rs := [.cell 2 32]) rfl ?_
  refine EW.seq fun Ψ0 n0 x0 => ?_
  refine EW.region gs_nil ?_
  simp
  refine n0 _ ?_; clear n0 x0
  refine EW.seq fun Ψ1 n1 x1 => ?_
  refine EW.region gs_nil ?_
  simp
  refine n1 _ ?_; clear n1 x1
  refine EW.ret ?_
  refine ⟨_, _, _, rfl, ?_, ?_, ?_, ?_, ?_⟩ <;> simp [plC, eBins_cons, eRngs_cons]

theorem cutB_ok (a b : Int) : ACalls Tryz.prog 21 [.s (.int .i64 a), .s (.int .i64 b)] [] (.ret (.agg [.s (.int .i64 1), .s (.int .i64 a), .s (.int .i64 b)]) [] []) := by
  refine acalls_of_ew Tryz.func21 rfl rfl (by simp [Tryz.f21]) (rs := [.cell 4 52]) rfl ?_
  refine EW.seq fun Ψ0 n0 x0 => ?_
  refine EW.region gs_nil ?_
  simp
  refine n0 _ ?_; clear n0 x0
  refine EW.seq fun Ψ1 n1 x1 => ?_
  refine EW.region gs_nil ?_
  simp
  refine n1 _ ?_; clear n1 x1
  refine EW.ret ?_
  refine ⟨_, _, _, rfl, ?_, ?_, ?_, ?_, ?_⟩ <;> simp

theorem lightO_ok : ACalls Tryz.prog 22 [] [] (.ret (.agg [.s (.int .i64 2), .s (.int .i64 0), .s (.int .i64 0)]) [] []) := by
  refine acalls_of_ew Tryz.func22 rfl rfl (by simp [Tryz.f22]) (rs := [.cell 0 52]) rfl ?_
  refine EW.seq fun Ψ0 n0 x0 => ?_
  refine EW.region gs_nil ?_
  simp
  refine n0 _ ?_; clear n0 x0
  refine EW.seq fun Ψ1 n1 x1 => ?_
  refine EW.region gs_nil ?_
  simp
  refine n1 _ ?_; clear n1 x1
  refine EW.ret ?_
  refine ⟨_, _, _, rfl, ?_, ?_, ?_, ?_, ?_⟩ <;> simp

theorem dearO_ok : ACalls Tryz.prog 23 [] [] (.ret (.agg [.s (.int .i64 5), .s (.int .i64 0), .s (.int .i64 0)]) [] []) := by
  refine acalls_of_ew Tryz.func23 rfl rfl (by simp [Tryz.f23]) (rs := [.cell 0 52]) rfl ?_
  refine EW.seq fun Ψ0 n0 x0 => ?_
  refine EW.region gs_nil ?_
  simp
  refine n0 _ ?_; clear n0 x0
  refine EW.seq fun Ψ1 n1 x1 => ?_
  refine EW.region gs_nil ?_
  simp
  refine n1 _ ?_; clear n1 x1
  refine EW.ret ?_
  refine ⟨_, _, _, rfl, ?_, ?_, ?_, ?_, ?_⟩ <;> simp

theorem alive_ok : ACalls Tryz.prog 4 [] [] (.ret (.s (.bool true)) [] []) := by
  refine acalls_of_ew Tryz.func4 rfl rfl (by simp [Tryz.f4]) (rs := [.tmp 0]) rfl ?_
  refine EW.seq fun Ψ0 n0 x0 => ?_
  refine EW.region gs_nil ?_
  simp
  refine n0 _ ?_; clear n0 x0
  refine EW.seq fun Ψ1 n1 x1 => ?_
  refine EW.region (gs_cons order_ok (gs_cons (Keeps_ok ordC [2, 3, 2] szOrd (by simp)) gs_nil)) ?_
  simp [al1, al2]
  refine n1 _ ?_; clear n1 x1
  refine EW.seq fun Ψ2 n2 x2 => ?_
  refine EW.region (gs_cons order_ok (gs_cons (Cheapest_ok' ordC szOrd) gs_nil)) ?_
  simp [al3, al4, al5]
  refine n2 _ ?_; clear n2 x2
  refine EW.seq fun Ψ3 n3 x3 => ?_
  refine EW.region (gs_cons (plainO_ok 3) (gs_cons (Prove_ok (plC 3) 15 (szPl 3)) gs_nil)) ?_
  simp [al6, al7]
  refine n3 _ ?_; clear n3 x3
  refine EW.seq fun Ψ4 n4 x4 => ?_
  refine EW.region (gs_cons (eqInts_ok [2, 2, 2] [2, 2, 2] (by simp)) (gs_cons (cutB_ok 0 2) (gs_cons lightO_ok (gs_cons dearO_ok (gs_cons (eqBds_ok [⟨1, 0, 2⟩, ⟨2, 0, 0⟩, ⟨5, 0, 0⟩] [⟨1, 0, 2⟩, ⟨2, 0, 0⟩, ⟨5, 0, 0⟩] (by simp)) gs_nil))))) ?_
  simp
  refine n4 _ ?_; clear n4 x4
  refine EW.ret ?_
  refine ⟨_, _, _, rfl, ?_, ?_, ?_, ?_, ?_⟩ <;> simp

end Go.Ev
end

section
set_option linter.all false
open Go Go.Ev Go.Proofs
namespace Go.Ev
set_option linter.unusedSimpArgs false
set_option linter.unusedVariables false


/-- A range that the feed makes. -/
def rngA (lo hi x : Int) : Int := betV lo hi x
def rngX1 (lo hi x : Int) : Int := betS lo hi x
def rngX2 (lo hi x : Int) : Int := belS 4 (rngX1 lo hi x)
def rngM (lo hi x : Int) : Int := minI hi (wr (rngA lo hi x + belV 4 (rngX1 lo hi x)))
def rngL (lo hi x : Int) : List Int := [rngA lo hi x, rngM lo hi x, betV (rngA lo hi x) hi (rngX2 lo hi x)]
def rngX3 (lo hi x : Int) : Int := betS (rngA lo hi x) hi (rngX2 lo hi x)
def rngB (lo hi x : Int) : Int := eitV (rngL lo hi x) (rngX3 lo hi x)
def rngS (lo hi x : Int) : Int := eitS (rngL lo hi x) (rngX3 lo hi x)

theorem range_ok (a b x : Int) : ACalls Tryz.prog 30 [.ptr (.ext 0) 0, .s (.int .i64 a), .s (.int .i64 b)] [[.s (.int .u64 x)]] (.ret (.agg [.s (.int .i64 (rngA a b x)), .s (.int .i64 (rngB a b x))]) [[.s (.int .u64 (rngS a b x))]] []) := by
  refine acalls_of_ew Tryz.func30 rfl rfl (by simp [Tryz.f30]) (rs := [.cell 6 71]) rfl ?_
  refine EW.seq fun Ψ0 n0 x0 => ?_
  refine EW.region gs_nil ?_
  simp
  refine n0 _ ?_; clear n0 x0
  refine EW.seq fun Ψ1 n1 x1 => ?_
  refine EW.region (gs_cons (between_ok a b x) gs_nil) ?_
  simp
  refine n1 _ ?_; clear n1 x1
  refine EW.seq fun Ψ2 n2 x2 => ?_
  refine EW.region (gF_ok (gs_cons (either_ok (rngL a b x) (rngX3 a b x) (by show ((3 : Nat) : Int) < _; omega)) gs_nil)) ?_
  simp [rngL, rngA, rngX1, rngX2, rngX3, rngM]
  refine n2 _ ?_; clear n2 x2
  refine EW.seq fun Ψ3 n3 x3 => ?_
  refine EW.region gs_nil ?_
  simp
  refine n3 _ ?_; clear n3 x3
  refine EW.ret ?_
  refine ⟨_, _, _, rfl, ?_, ?_, ?_, ?_, ?_⟩ <;> simp [rngA, rngB, rngS, rngL, rngX1, rngX2, rngX3, rngM]


def inL (a b x : Int) : List Int := [a, b, betV a b x, betV a b (betS a b x)]
def inX (a b x : Int) : Int := betS a b (betS a b x)
def inV (a b x : Int) : Int := eitV (inL a b x) (inX a b x)
def inS (a b x : Int) : Int := eitS (inL a b x) (inX a b x)

def gNx : List AV → List (List AV) → Option Out
  | [.ptr (.ext 0) 0], [[.s (.int .u64 x)]] => some (.ret (.s (.int .u64 (nxV x))) [[.s (.int .u64 (nxS x))]] [])
  | _, _ => none
def gRng : List AV → List (List AV) → Option Out
  | [.ptr (.ext 0) 0, .s (.int .i64 a), .s (.int .i64 b)], [[.s (.int .u64 x)]] => some (.ret (.agg [.s (.int .i64 (rngA a b x)), .s (.int .i64 (rngB a b x))]) [[.s (.int .u64 (rngS a b x))]] [])
  | _, _ => none
def gIn : List AV → List (List AV) → Option Out
  | [.ptr (.ext 0) 0, .agg [.s (.int .i64 a), .s (.int .i64 b)]], [[.s (.int .u64 x)]] => some (.ret (.s (.int .i64 (inV a b x))) [[.s (.int .u64 (inS a b x))]] [])
  | _, _ => none
def gOft : List AV → List (List AV) → Option Out
  | [.ptr (.ext 0) 0, .s (.int .i64 a), .s (.int .i64 b)], [[.s (.int .u64 x)]] => if b < 9223372036854775808 then some (.ret (.s (.bool (decide (belV b x < a)))) [[.s (.int .u64 (belS b x))]] []) else none
  | _, _ => none
theorem gNx_ok : ∀ a e o, gNx a e = some o → ACalls Tryz.prog 24 a e o := by
  intro a e o h
  unfold gNx at h
  split at h
  · cases h; exact next_ok _
  · cases h
theorem gRng_ok : ∀ a e o, gRng a e = some o → ACalls Tryz.prog 30 a e o := by
  intro a e o h
  unfold gRng at h
  split at h
  · cases h; exact range_ok _ _ _
  · cases h
/-- The numbers of a feed. -/
def gG (Γ : Gam) : Gam := gF (gAlt 24 gNx (gAlt 30 gRng Γ))
theorem gG_ok {Γ : Gam} (h : Sound Tryz.prog Γ) : Sound Tryz.prog (gG Γ) := gF_ok (gAlt_sound gNx_ok (gAlt_sound gRng_ok h))
attribute [simp] gNx gRng gIn gOft gG

end Go.Ev
end

section
set_option linter.all false
open Go Go.Ev Go.Proofs
namespace Go.Ev
set_option linter.unusedSimpArgs false
set_option linter.unusedVariables false


theorem pe_bool {P : Program} (d : Nat) (t : TypeId) (a b : Bool) (hu : P.underlying t = some .bool) : pureP P (Op.equalIn (d + 1) t (.bool a) (.bool b)) = some (a == b) := by
  unfold Op.equalIn
  rw [pureP_bind P _ _ _ (underlying_pure t _ hu)]
  simp
@[simp] theorem q_eqb (x y : Operand) (a b : Bool) : qBinP Tryz.prog .eql 4 x y (some (.bool a)) (some (.bool b)) = some (.s (.bool (decide (a = b)))) := by
  have h2 : pureP Tryz.prog (binOp .eql 4 (.bool a) (.bool b)) = some (.bool (a == b)) := by
    have he : pureP Tryz.prog (Op.equalIn Op.maxDepth 4 (.bool a) (.bool b)) = some (a == b) := pe_bool _ 4 a b Tryz.underlying4
    unfold binOp
    simp only [Op.equal]
    rw [pureP_bind _ _ _ _ he]
    rfl
  simp only [qBinP, h2]
  cases a <;> cases b <;> simp [eqGuard, AV.ofVal, AV.ofCell, AV.ofFn]
@[simp] theorem q_neb (x y : Operand) (a b : Bool) : qBinP Tryz.prog .neq 4 x y (some (.bool a)) (some (.bool b)) = some (.s (.bool (decide (a ≠ b)))) := by
  have h2 : pureP Tryz.prog (binOp .neq 4 (.bool a) (.bool b)) = some (.bool (!(a == b))) := by
    have he : pureP Tryz.prog (Op.equalIn Op.maxDepth 4 (.bool a) (.bool b)) = some (a == b) := pe_bool _ 4 a b Tryz.underlying4
    unfold binOp
    simp only [Op.equal]
    rw [pureP_bind _ _ _ _ he]
    rfl
  simp only [qBinP, h2]
  cases a <;> cases b <;> simp [eqGuard, AV.ofVal, AV.ofCell, AV.ofFn]
/-- Lists of lists of numbers. -/
def eLL (l : List (List Int)) : List D := l.map fun x => .sl x.length (eInts x)
@[simp] theorem eLL_nil : eLL [] = [] := rfl
@[simp] theorem eLL_len (l : List (List Int)) : (eLL l).length = l.length := by simp [eLL]
@[simp] theorem eLL_get (l : List (List Int)) (i : Nat) : (eLL l)[i]? = (l[i]?).map fun x => D.sl x.length (eInts x) := by simp [eLL]
@[simp] theorem eLL_gE (l : List (List Int)) (i : Nat) (h : i < (eLL l).length) : (eLL l)[i] = D.sl (l[i]'(by simpa using h)).length (eInts (l[i]'(by simpa using h))) := by simp [eLL]
theorem eLL_app1 (l : List (List Int)) (x : List Int) (n : Nat) (hn : n = x.length) : eLL l ++ [D.sl n (eInts x)] = eLL (l ++ [x]) := by subst hn; simp [eLL]
/-- The weights of the grabs of a blend, one after the other. -/
def gwL : List MBin → List Int → List Int
  | b :: bs, n :: l => List.replicate n.toNat b.w ++ gwL bs l
  | _, _ => []
def sumG (j : Nat) (m : Int) : List Int → List (List Int) → Int → Int
  | w :: ws, g :: gs, s => sumG j m ws gs (wr (s + wr (w * wr (g.getD j 0 - m))))
  | _, _, s => s
def keptL (ws : List Int) (gs : List (List Int)) : List Int → Nat → Bool
  | [], _ => true
  | m :: r, j => if 0 < sumG j m ws gs 0 then false else keptL ws gs r (j + 1)
def keptV (o : MOrd) (l : List Int) (gs : List (List Int)) : Bool := keptL (gwL o.bins l) gs o.limits 0
@[simp] theorem gwL_nil (bs : List MBin) : gwL bs [] = [] := by cases bs <;> rfl
def kpE (l : List Int) (gs : List (List Int)) (r : List (Nat × AV)) : List (Nat × AV) := (1, .sl false false .U .no l.length (eInts l)) :: (2, .sl false false .U .no gs.length (eLL gs)) :: (3, .ptr (.own 3) 0) :: r
def kpS0 (o : MOrd) (l : List Int) (gs : List (List Int)) (j : Nat) : St :=
  St.lit 59 (kpE l gs [(7, .s (.int .i64 j))]) [(3, aOrdC o)] [] []
def kpS1 (o : MOrd) (l : List Int) (gs : List (List Int)) (j : Nat) (p : Nat × Nat × Int) : St :=
  St.lit 59 (kpE l gs [(7, .s (.int .i64 j)), (8, .s (.int .i64 p.2.2)), (9, .s (.int .i64 p.2.1)), (10, .s (.int .i64 p.1))]) [(3, aOrdC o)] [] []
def kpS2 (o : MOrd) (l : List Int) (gs : List (List Int)) (j i : Nat) (p : Nat × Nat × Int) : St :=
  St.lit 59 (kpE l gs [(7, .s (.int .i64 j)), (8, .s (.int .i64 p.2.2)), (9, .s (.int .i64 p.2.1)), (10, .s (.int .i64 i)), (11, .s (.int .i64 p.1))]) [(3, aOrdC o)] [] []
attribute [simp] kpE kpS0 kpS1 kpS2

/-! a table for many calls of 'kept' -/
def dInts (cs : List D) : List Int := cs.map fun | .s (.int _ n) => n | _ => 0
def dLL (cs : List D) : List (List Int) := cs.map fun | .sl _ c => dInts c | _ => []
@[simp] theorem dInts_e (l : List Int) : dInts (eInts l) = l := by
  simp only [dInts, eInts, List.map_map]
  exact List.map_id _
@[simp] theorem dLL_e (l : List (List Int)) : dLL (eLL l) = l := by
  simp only [dLL, eLL, List.map_map]
  have : ((fun d : D => match d with | .sl _ c => dInts c | _ => []) ∘ fun x : List Int => D.sl x.length (eInts x)) = id := by funext x; simp
  rw [this, List.map_id]
def okGs (o : MOrd) (l : List Int) (gs : List (List Int)) : Prop := gs.length = (gwL o.bins l).length ∧ ∀ g ∈ gs, g.length = o.limits.length
def oArg (o : MOrd) : AV := .agg [.sl false false .U .no o.limits.length (eInts o.limits), .s (.int .i64 o.least), .s (.int .i64 o.most), .sl false false .U .no o.bins.length (eBins o.bins)]
def lArg (l : List Int) : AV := .sl false false .U .no l.length (eInts l)
open Classical in
noncomputable def gKp (o : MOrd) (l : List Int) : List AV → List (List AV) → Option Out
  | [a, b, .sl false false .U .no n cs], [] => if a = oArg o ∧ b = lArg l ∧ n = (dLL cs).length ∧ cs = eLL (dLL cs) ∧ okGs o l (dLL cs) then some (.ret (.s (.bool (keptV o l (dLL cs)))) [] []) else none
  | _, _ => none
attribute [simp] oArg lArg gKp
end Go.Ev
end
