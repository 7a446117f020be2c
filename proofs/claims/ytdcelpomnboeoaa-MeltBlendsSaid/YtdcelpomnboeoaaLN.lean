/- Lemmas for the claims of this seat: an evaluator over abstract values, its soundness, and the contracts of the functions of melt that it walks; no premise beyond what each theorem states. -/
import Derived.Test.YtdcelpomnboeoaaLG
import Derived.Test.YtdcelpomnboeoaaLH
import Derived.Test.YtdcelpomnboeoaaLI
import Derived.Test.YtdcelpomnboeoaaLA
import Derived.Test.YtdcelpomnboeoaaLL
import Derived.Test.YtdcelpomnboeoaaLM
import Derived.Test.YtdcelpomnboeoaaLB
import Derived.Test.YtdcelpomnboeoaaLC

section
set_option linter.all false
open Go Go.Ev Go.Proofs
namespace Go.Ev
set_option linter.unusedSimpArgs false
set_option linter.unusedVariables false

set_option maxRecDepth 100000

theorem keep_eq (o : MOrd) (l : List Int) : (if blendErr o l = 0 then keepR o l else 0) = (if blendErr o l = 0 then keepV o l else 0) := by
  split
  · rename_i h
    obtain ⟨k, kb⟩ := blendErr_ok h
    exact keepV_R k kb
  · rfl
def mbS (os : List MOrd) (ls : List (List Int)) (k : Nat) : St :=
  St.lit 152 [(9, .sl false false .U .no os.length (eOrds os)), (10, .sl false false .U .no ls.length (eLL ls)), (11, .s (.int .i64 k))] [] [] []
attribute [simp] mbS

set_option maxHeartbeats 8000000 in
theorem MeltBlends_ok (o : MOrd) (blend nums : List Int) (hl : (nums.length : Int) < 9223372036854775807) : ACalls Try.prog 8 [.agg [.sl false false .U .no o.limits.length (eInts o.limits), .s (.int .i64 o.least), .s (.int .i64 o.most), .sl false false .U .no o.bins.length (eBins o.bins)], .sl false false .U .no blend.length (eInts blend), .sl false false .U .no nums.length (eInts nums)] [] (.ret (.s (.bool true)) [] []) := by
  have c1 := orderOf_ok 4 3 6 (feedS nums) (by decide) (by decide)
  have k1 := (made 4 3 6 (feedS nums) (by decide) (by decide) (by decide)).ok (by decide) (by decide) (by decide)
  have m1 := k1.sz
  have n1 := k1.nb
  generalize ordOf 4 3 6 (feedS nums) = o1 at c1 m1 n1 k1
  have c2 := blendOf_ok_ o1 (ordS 4 3 6 (feedS nums)) (by omega)
  generalize hb2 : blendL o1.bins (ordS 4 3 6 (feedS nums)) = b1 at c2
  have l1 : b1.length ≤ 4 := by rw [← hb2, blendL_len]; exact n1
  refine acalls_of_ew Try.func8 rfl rfl (by simp [Try.f8]) (rs := [.tmp 6]) rfl ?_
  refine EW.seq fun Ψ0 n0 x0 => ?_
  refine EW.region gs_nil ?_
  simp
  refine n0 _ ?_; clear n0 x0
  refine EW.seq fun Ψ1 n1 x1 => ?_
  refine EW.seq fun Ψ2 n2 x2 => ?_
  rcases (show (hugeB o = false ∧ ¬ 20 < (blend.length : Int)) ∨ (hugeB o = false ∧ 20 < (blend.length : Int)) ∨ hugeB o = true from by cases hugeB o <;> by_cases h : 20 < (blend.length : Int) <;> simp [h]) with ⟨hh, hq⟩ | ⟨hh, hq⟩ | hh
  · skip
    refine EW.region (gs_cons (huge_ok o) gs_nil) ?_
    simp [hh, hq]
    refine n2 _ ?_; clear n2 x2
    refine EW.cond (t := _) (by rfl) (fun hc30 => ?_) (fun hc30 => ?_)
    · first | (simp at hc30; done) | (simp at hc30; omega)
    · clear hc30
      have hz := (huge_sz hh).sz
      have hbl : blend.length ≤ 20 := by omega
      refine EW.skip ?_
      refine n1 _ ?_; clear n1 x1
      refine EW.seq fun Ψ3 n3 x3 => ?_
      refine EW.region (gs_cons (feedOf_ok nums hl) gs_nil) ?_
      simp
      refine n3 _ ?_; clear n3 x3
      refine EW.seq fun Ψ4 n4 x4 => ?_
      refine EW.region (gs_cons c1 gs_nil) ?_
      simp
      refine n4 _ ?_; clear n4 x4
      refine EW.seq fun Ψ5 n5 x5 => ?_
      refine EW.drawn [(0, 7), (1, 7), (2, 7)] mixed (gs_cons c2 gs_nil) (by kernel_rfl) ?_
      simp
      refine n5 _ ?_; clear n5 x5
      refine EW.seq fun Ψ6 n6 x6 => ?_
      refine EW.seq fun Ψ7 n7 x7 => ?_
      refine EW.region gs_nil ?_
      simp
      refine n7 _ ?_; clear n7 x7
      refine EW.block ?_
      obtain ⟨os, hos⟩ : ∃ os, os = [o, o1, o1] := ⟨_, rfl⟩
      obtain ⟨ls, hls⟩ : ∃ ls, ls = [blend, b1, blend] := ⟨_, rfl⟩
      have hzs : ∀ x ∈ os, szO x := by rw [hos]; simp only [List.mem_cons, List.not_mem_nil, or_false]; rintro x (rfl | rfl | rfl) <;> assumption
      have hzl : ∀ x ∈ ls, x.length ≤ 20 := by rw [hls]; simp only [List.mem_cons, List.not_mem_nil, or_false]; rintro x (rfl | rfl | rfl) <;> omega
      have hol : os.length = 3 := by rw [hos]; rfl
      have hll : ls.length = 3 := by rw [hls]; rfl
      refine EW.loopA (mbS os ls) (fun k => k ≤ os.length) (fun k => os.length - k) 0 (St.le_lit rfl (by simp [hos, hls, eLL]) (by simp) (by simp) (by simp) (by simp)) ?_ fun p hk => ?_
      · simp
      rename Nat => k
      refine EW.seq fun Ψ8 n8 x8 => ?_
      refine EW.seq fun Ψ9 n9 x9 => ?_
      refine EW.region gs_nil ?_
      simp
      refine n9 _ ?_; clear n9 x9
      refine EW.cond (t := _) (by rfl) (fun hc49 => ?_) (fun hc49 => ?_)
      · simp at hc49
        have e1 : os[k]? = some os[k] := List.getElem?_eq_getElem hc49
        have hkl : k < ls.length := by omega
        have e2 : ls[k]? = some ls[k] := List.getElem?_eq_getElem hkl
        have hx := hzs _ (List.getElem_mem hc49)
        obtain ⟨hx1, hx2, hx3⟩ := id hx
        have hy := hzl _ (List.getElem_mem hkl)
        refine EW.skip ?_
        refine n8 _ ?_; clear n8 x8
        refine EW.seq fun Ψ10 n10 x10 => ?_
        refine EW.block ?_
        refine EW.seq fun Ψ11 n11 x11 => ?_
        refine EW.drawn [(4, 8), (3, 10), (4, 10), (8, 10), (9, 10)] mixed (gs_cons (copyOrder_ok os[k] hx1 (by omega) hx3) (gs_cons (ints_ok ls[k] (by omega)) gs_nil)) (by kernel_rfl) ?_
        simp [hc49, eOrds_atm _ _ _ _ _ e1, show 4 ≤ os.length * 4 - k * 4 by omega, hkl, e2]
        refine n11 _ ?_; clear n11 x11
        refine EW.seq fun Ψ12 n12 x12 => ?_
        refine EW.region (gs_cons (Weigh_ok os[k] ls[k] hx (by omega)) gs_nil) ?_
        simp
        refine n12 _ ?_; clear n12 x12
        refine EW.seq fun Ψ13 n13 x13 => ?_
        refine EW.drawn [] mixed (gs_cons (rWeigh_ok os[k] ls[k] hx (by omega)) gs_nil) (by kernel_rfl) ?_
        simp [hc49, eOrds_atm _ _ _ _ _ e1, show 4 ≤ os.length * 4 - k * 4 by omega, hkl, e2]
        refine n13 _ ?_; clear n13 x13
        refine EW.seq fun Ψ14 n14 x14 => ?_
        refine EW.region (gs_cons (Keeps_ok os[k] ls[k] hx (by omega)) gs_nil) ?_
        simp
        refine n14 _ ?_; clear n14 x14
        refine EW.seq fun Ψ15 n15 x15 => ?_
        refine EW.drawn [] mixed (gs_cons (rKeeps_ok os[k] ls[k] hx (by omega)) gs_nil) (by kernel_rfl) ?_
        simp [hc49, eOrds_atm _ _ _ _ _ e1, show 4 ≤ os.length * 4 - k * 4 by omega, hkl, e2, keep_eq]
        refine n15 _ ?_; clear n15 x15
        refine EW.seq fun Ψ16 n16 x16 => ?_
        refine EW.drawn [(1, 5)] mixed (gs_cons (eqInts_ok ls[k] ls[k] (by omega)) (gs_cons (eqOrds_ok os[k] os[k] (by omega) (by omega) (fun b hb => by have := hx3 b hb; omega)) (gs_cons (check_ok' os[k] hx) (gs_cons (rcheck_ok' os[k] hx) gs_nil)))) (by kernel_rfl) ?_
        simp [hc49, eOrds_atm _ _ _ _ _ e1, show 4 ≤ os.length * 4 - k * 4 by omega, hkl, e2]
        refine n16 _ ?_; clear n16 x16
        refine EW.cond (t := _) (by rfl) (fun hc150 => ?_) (fun hc150 => ?_)
        · simp at hc150
        · clear hc150
          refine EW.skip ?_
          refine n10 _ ?_; clear n10 x10
          refine EW.hide fun Ψ17 n17 => ?_
          refine EW.region gs_nil ?_
          simp
          refine n17 _ _ ?_; clear n17
          have e3 : IntKind.i64.wrap ((k : Int) + 1) = k + 1 := wr_small (by omega) (by omega)
          refine ⟨k + 1, (St.le_lit rfl (by simp [e3]) (by simp) (by simp) (by simp) (by simp)), ?_, ?_⟩
          · omega
          · omega
      · simp at hc49
        refine EW.exit ?_
        refine x8 _ _ rfl ?_; clear n8 x8
        refine n6 _ ?_; clear n6 x6
        refine EW.seq fun Ψ18 n18 x18 => ?_
        refine EW.region (gs_cons alive_ok gs_nil) ?_
        simp
        refine n18 _ ?_; clear n18 x18
        refine EW.ret ?_
        refine ⟨_, _, _, rfl, ?_, ?_, ?_, ?_, ?_⟩ <;> simp
  · skip
    refine EW.region (gs_cons (huge_ok o) gs_nil) ?_
    simp [hh, hq]
    refine n2 _ ?_; clear n2 x2
    refine EW.cond (t := _) (by rfl) (fun hc30 => ?_) (fun hc30 => ?_)
    · clear hc30
      refine EW.seq fun Ψ19 n19 x19 => ?_
      refine EW.region (gs_cons alive_ok gs_nil) ?_
      simp
      refine n19 _ ?_; clear n19 x19
      refine EW.ret ?_
      refine x1 _ _ rfl ?_; clear n1 x1
      refine ⟨_, _, _, rfl, ?_, ?_, ?_, ?_, ?_⟩ <;> simp
    · first | (simp at hc30; done) | (simp at hc30; omega)
  · skip
    refine EW.region (gs_cons (huge_ok o) gs_nil) ?_
    simp [hh]
    refine n2 _ ?_; clear n2 x2
    refine EW.cond (t := _) (by rfl) (fun hc30 => ?_) (fun hc30 => ?_)
    · clear hc30
      refine EW.seq fun Ψ20 n20 x20 => ?_
      refine EW.region (gs_cons alive_ok gs_nil) ?_
      simp
      refine n20 _ ?_; clear n20 x20
      refine EW.ret ?_
      refine x1 _ _ rfl ?_; clear n1 x1
      refine ⟨_, _, _, rfl, ?_, ?_, ?_, ?_, ?_⟩ <;> simp
    · first | (simp at hc30; done) | (simp at hc30; omega)

end Go.Ev
end
