/- Lemmas for the claims of this seat: an evaluator over abstract values, its soundness, and the contracts of the functions of melt that it walks; no premise beyond what each theorem states. -/
import Derived.Test.YtdcelpomnboeoaaLG
import Derived.Test.YtdcelpomnboeoaaLI
import Derived.Test.YtdcelpomnboeoaaLK
import Derived.Test.YtdcelpomnboeoaaLL
import Derived.Test.YtdcelpomnboeoaaLA
import Derived.Test.YtdcelpomnboeoaaLB
import Derived.Test.YtdcelpomnboeoaaLC
import Derived.Test.YtdcelpomnboeoaaLD
import Derived.Test.YtdcelpomnboeoaaLH
import Derived.Test.YtdcelpomnboeoaaKE

section
set_option linter.all false
open Go Go.Ev Go.Proofs
namespace Go.Ev
set_option linter.unusedSimpArgs false
set_option linter.unusedVariables false


theorem keepL_hold (o : MOrd) (l : List Int) : ∀ (n j : Nat) (v : Int), keepL o l n j v = if holdL false o l n j = false then 2 else if holdL true o l n j = false then 3 else v
  | 0, j, v => by simp [keepL, holdL]
  | n + 1, j, v => by
    rw [keepL, holdL, holdL, keepL_hold o l n (j + 1)]
    by_cases h1 : 0 < beyL false o.limits o.bins j l 0 0 <;> by_cases h2 : 0 < beyL true o.limits o.bins j l 0 0 <;> simp [h1, h2]
theorem holdL_mono {o : MOrd} {l : List Int} (k : OkO o) (kb : okBl o l) : ∀ (n j : Nat), j + n ≤ o.limits.length → holdL true o l n j = true → holdL false o l n j = true
  | 0, j, _, _ => rfl
  | n + 1, j, h, ht => by
    have e := sum_in k kb (endG_in k l true) j (by omega)
    rw [holdL] at ht ⊢
    split at ht
    · cases ht
    · rw [if_neg (by omega)]
      exact holdL_mono k kb n (j + 1) (by omega) ht
theorem keepV_R {o : MOrd} {l : List Int} (k : OkO o) (kb : okBl o l) : keepR o l = keepV o l := by
  have m := holdL_mono k kb o.limits.length 0 (by omega)
  rw [keepV, keepL_hold, keepR, holdV, holdV]
  cases h1 : holdL true o l o.limits.length 0 <;> cases h2 : holdL false o l o.limits.length 0 <;> simp_all
theorem keepV_1 {o : MOrd} {l : List Int} (k : OkO o) (kb : okBl o l) : (keepV o l = 1) ↔ holdV true o l = true := by
  rw [← keepV_R k kb, keepR]
  by_cases h1 : holdV true o l = true <;> by_cases h2 : holdV false o l = true <;> simp [h1, h2]
theorem grabErr_ok (bins : List MBin) : ∀ (l : List Int) (i : Nat), l.length + i ≤ bins.length → grabErr bins l i = 0 → ∀ (k : Nat) (h : i + k < bins.length) (h' : k < l.length), 0 ≤ l[k] ∧ l[k] ≤ bins[i + k].g
  | [], i, _, _, k, _, h' => by simp at h'
  | n :: l, i, h, he, k, h1, h2 => by
    simp only [List.length_cons] at h
    have hi : i < bins.length := by omega
    simp only [grabErr, List.getElem?_eq_getElem hi] at he
    split at he
    · rename_i hin
      cases k with
      | zero => simpa using inB_iff.1 hin
      | succ k =>
        have := grabErr_ok bins l (i + 1) (by omega) he k (by omega) (by simpa using h2)
        simpa [Nat.add_assoc, Nat.add_comm 1 k] using this
    · cases he
theorem blendErr_ok {o : MOrd} {l : List Int} (h : blendErr o l = 0) : OkO o ∧ okBl o l := by
  obtain ⟨h1, h2⟩ := blendErr_ord o l h
  refine ⟨ordErr_ok h1, h2, fun i q1 q2 => ?_⟩
  rw [blendErr, if_pos h1, if_pos h2] at h
  have := grabErr_ok _ _ 0 (by omega) h i (by omega) q2
  simpa using this
theorem goodR_B {o : MOrd} {x : List Int} (k : OkO o) (kb : okBl o x) : goodR o x = goodB o x := by
  unfold goodR goodB
  have := keepV_1 k kb
  by_cases h1 : o.least ≤ nW o x <;> by_cases h2 : nW o x ≤ o.most <;> by_cases h3 : holdV true o x = true <;> simp_all [inB]
def simR (o : MOrd) (s : List Int × Int) (t : List Int × Bool) : Prop := t.1 = s.1 ∧ (t.2 = false ↔ s.1.length = 0) ∧ (t.2 = true → s.2 = cW o s.1)
theorem simR_step {o : MOrd} (k : OkO o) {s : List Int × Int} {t : List Int × Bool} (h : simR o s t) {x : List Int} (kb : okBl o x) : simR o (nextC o s x) (nextR o t x) := by
  obtain ⟨s1, s2⟩ := s
  obtain ⟨t1, t2⟩ := t
  obtain ⟨h1, h2, h3⟩ := h
  simp only at h1 h2 h3
  subst h1
  have hx : x.length ≠ 0 := by
    rw [kb.1]; intro h0; exact k.ne (List.length_eq_zero_iff.1 h0)
  rw [nextC_good, nextR, goodR_B k kb]
  have hcond : (goodB o x = true ∧ (t2 = false ∨ cW o x < cW o t1)) ↔ (goodB o x = true ∧ (t1.length = 0 ∨ cW o x < s2)) := by
    refine and_congr_right fun _ => ?_
    cases t2 with
    | false => simp [h2.1 rfl]
    | true =>
      have : ¬ t1.length = 0 := fun e => by cases h2.2 e
      simp only [this, false_or, Bool.true_eq_false, h3 rfl]
  show simR o (if goodB o x = true ∧ (t1.length = 0 ∨ cW o x < s2) then (x, cW o x) else (t1, s2)) (if goodB o x = true ∧ (t2 = false ∨ cW o x < cW o t1) then (x, true) else (t1, t2))
  by_cases hc : goodB o x = true ∧ (t1.length = 0 ∨ cW o x < s2)
  · rw [if_pos hc, if_pos (hcond.2 hc)]
    exact ⟨rfl, ⟨fun e => (by cases e), fun e => absurd e hx⟩, fun _ => rfl⟩
  · rw [if_neg hc, if_neg (fun q => hc (hcond.1 q))]
    exact ⟨rfl, h2, h3⟩
theorem simR_all {o : MOrd} (k : OkO o) : ∀ (L : List (List Int)) (s : List Int × Int) (t : List Int × Bool), (∀ x ∈ L, okBl o x) → simR o s t → simR o (L.foldl (nextC o) s) (L.foldl (nextR o) t)
  | [], s, t, _, h => h
  | x :: L, s, t, hL, h => simR_all k L _ _ (fun y hy => hL y (by simp [hy])) (simR_step k h (hL x (by simp)))
theorem rch_sim {o : MOrd} (k : OkO o) : simR o (cheapR o) (rchR o) := by
  rw [cheapR, bFold_all, rchR]
  exact simR_all k _ _ _ (fun x hx => all_ok hx) ⟨rfl, by simp, by simp⟩
theorem all_len4 {o : MOrd} (k : OkO o) : (allB o.bins []).length < 1000000 := by
  have q := allB_len (N := 0) o.bins [] (fun b hb => (k.bin b hb).g)
  have q2 : 7 ^ o.bins.length ≤ 7 ^ 4 := Nat.pow_le_pow_right (by decide) k.nb
  omega
theorem rcheapest_ok' (o : MOrd) (k : OkO o) : ACalls Try.prog 58 [.agg [.sl false false .U .no o.limits.length (eInts o.limits), .s (.int .i64 o.least), .s (.int .i64 o.most), .sl false false .U .no o.bins.length (eBins o.bins)]] [] (.ret (.tup [.sl false false .U .no (cheapR o).1.length (eInts (cheapR o).1), .s (.bool (!decide ((cheapR o).1.length = 0)))]) [] []) := by
  have h := rcheapest_ok o _ rfl k.nb (fun b hb => (k.bin b hb).g) (fun x hx => (all_ok hx).1) (all_len4 k) (by have := k.nl; omega) (fun b hb => (k.bin b hb).len)
  obtain ⟨h1, h2, _⟩ := rch_sim k
  rw [h1] at h
  have : (rchR o).2 = !decide ((cheapR o).1.length = 0) := by
    cases hb : (rchR o).2 with
    | false => simp [h2.1 hb]
    | true => rw [decide_eq_false (fun e => by rw [h2.2 e] at hb; cases hb)]; rfl
  rwa [this] at h
theorem cheapR_len {o : MOrd} (k : OkO o) : (cheapR o).1.length ≤ o.bins.length := by
  rcases cheap_FS k with ⟨h, _⟩ | ⟨h, _⟩
  · rw [h]; simp
  · rw [(all_ok h).1]; exact Nat.le_refl _
theorem cheapR_cost {o : MOrd} (k : OkO o) (h : ¬ (cheapR o).1.length = 0) : (cheapR o).2 = cW o (cheapR o).1 := by
  rcases cheap_FS k with ⟨e, _⟩ | ⟨_, _, e, _⟩
  · rw [e] at h; exact absurd rfl h
  · exact e

theorem rCheapest_ok (o : MOrd) (hz : szO o) : ACalls Try.prog 20 [.agg [.sl false false .U .no o.limits.length (eInts o.limits), .s (.int .i64 o.least), .s (.int .i64 o.most), .sl false false .U .no o.bins.length (eBins o.bins)]] [] (.ret (.tup [.sl false false .U .no (cheapB o).length (eInts (cheapB o)), .s (.int .i64 (cheapC o)), .s (.int .i64 (cheapE o))]) [] []) := by
  refine acalls_of_ew Try.func20 rfl rfl (by simp [Try.f20]) (rs := [.tmp 2, .tmp 3, .tmp 4]) rfl ?_
  refine EW.seq fun Ψ0 n0 x0 => ?_
  refine EW.region gs_nil ?_
  simp
  refine n0 _ ?_; clear n0 x0
  refine EW.seq fun Ψ1 n1 x1 => ?_
  refine EW.seq fun Ψ2 n2 x2 => ?_
  refine EW.region (gs_cons (rcheck_ok' o hz) gs_nil) ?_
  simp
  refine n2 _ ?_; clear n2 x2
  refine EW.seq fun Ψ3 n3 x3 => ?_
  refine EW.region gs_nil ?_
  simp
  refine n3 _ ?_; clear n3 x3
  refine EW.cond (t := _) (by rfl) (fun hc11 => ?_) (fun hc11 => ?_)
  · have g1 : ¬ ordErr o = 0 := by simpa using hc11
    have v1 : cheapB o = [] := by simp [cheapB, g1]
    have v2 : cheapC o = 0 := by simp [cheapC, g1]
    have v3 : cheapE o = ordErr o := by simp [cheapE, g1]
    refine EW.seq fun Ψ4 n4 x4 => ?_
    refine EW.region gs_nil ?_
    simp
    refine n4 _ ?_; clear n4 x4
    refine EW.ret ?_
    refine x1 _ _ rfl ?_; clear n1 x1
    refine ⟨_, _, _, rfl, ?_, ?_, ?_, ?_, ?_⟩ <;> simp [v1, v2, v3]
  · have g1 : ordErr o = 0 := by simpa using hc11
    have k := ordErr_ok g1
    have kl := cheapR_len k
    have kn := k.nb
    refine EW.skip ?_
    refine n1 _ ?_; clear n1 x1
    refine EW.seq fun Ψ5 n5 x5 => ?_
    refine EW.region (gs_cons (rcheapest_ok' o k) gs_nil) ?_
    simp
    refine n5 _ ?_; clear n5 x5
    refine EW.seq fun Ψ6 n6 x6 => ?_
    refine EW.seq fun Ψ7 n7 x7 => ?_
    refine EW.region gs_nil ?_
    simp
    refine n7 _ ?_; clear n7 x7
    refine EW.cond (t := _) (by rfl) (fun hc19 => ?_) (fun hc19 => ?_)
    · have g2 : (cheapR o).1.length = 0 := by simpa using hc19
      have v1 : cheapB o = [] := by rw [cheapB, if_pos g1]; exact List.length_eq_zero_iff.1 g2
      have v2 : cheapC o = 0 := by simp [cheapC, g1, g2]
      have v3 : cheapE o = 13 := by simp [cheapE, g1, g2]
      refine EW.seq fun Ψ8 n8 x8 => ?_
      refine EW.region gs_nil ?_
      simp
      refine n8 _ ?_; clear n8 x8
      refine EW.ret ?_
      refine x6 _ _ rfl ?_; clear n6 x6
      refine ⟨_, _, _, rfl, ?_, ?_, ?_, ?_, ?_⟩ <;> simp [v1, v2, v3]
    · have g2 : ¬ (cheapR o).1.length = 0 := by simpa using hc19
      have v1 : cheapB o = (cheapR o).1 := by rw [cheapB, if_pos g1]
      have v2 : cheapC o = (weighL o.bins (cheapR o).1 0 0 0).2 := by rw [cheapC, if_pos g1, if_neg g2]; exact cheapR_cost k g2
      have v3 : cheapE o = 0 := by simp only [cheapE, if_pos g1, if_neg g2]
      refine EW.skip ?_
      refine n6 _ ?_; clear n6 x6
      refine EW.seq fun Ψ9 n9 x9 => ?_
      refine EW.region (gs_cons (rcost_ok o (cheapR o).1 kl (by omega)) gs_nil) ?_
      simp
      refine n9 _ ?_; clear n9 x9
      refine EW.ret ?_
      refine ⟨_, _, _, rfl, ?_, ?_, ?_, ?_, ?_⟩ <;> simp [v1, v2, v3]


def hugeL : List MBin → Nat → Bool
  | [], _ => false
  | b :: l, i => if i < 20 then if 20 < b.grams.length then true else hugeL l (i + 1) else false
def hugeB (o : MOrd) : Bool := hugeL o.bins 0 || (decide (20 < o.limits.length) || decide (20 < o.bins.length))
def huS (o : MOrd) (k : Nat) : St := St.lit 33 [(1, .ptr (.own 1) 0), (3, .s (.int .i64 k))] [(1, aOrdC o)] [] []
attribute [simp] huS

theorem huge_ok (o : MOrd) : ACalls Try.prog 13 [.agg [.sl false false .U .no o.limits.length (eInts o.limits), .s (.int .i64 o.least), .s (.int .i64 o.most), .sl false false .U .no o.bins.length (eBins o.bins)]] [] (.ret (.s (.bool (hugeB o))) [] []) := by
  refine acalls_of_ew Try.func13 rfl rfl (by simp [Try.f13]) (rs := [.tmp 2]) rfl ?_
  refine EW.seq fun Ψ0 n0 x0 => ?_
  refine EW.region gs_nil ?_
  simp
  refine n0 _ ?_; clear n0 x0
  refine EW.seq fun Ψ1 n1 x1 => ?_
  refine EW.seq fun Ψ2 n2 x2 => ?_
  refine EW.region gs_nil ?_
  simp
  refine n2 _ ?_; clear n2 x2
  refine EW.block ?_
  refine EW.loopA (huS o) (fun k => k ≤ o.bins.length ∧ k ≤ 20 ∧ hugeL (o.bins.drop k) k = hugeL o.bins 0) (fun k => o.bins.length - k) 0 (St.le_lit rfl (by simp) (by simp) (by simp) (by simp) (by simp)) ?_ fun p hk => ?_
  · simp
  rename Nat => k
  obtain ⟨hk, hk2, hw⟩ := hk
  refine EW.seq fun Ψ3 n3 x3 => ?_
  refine EW.seq fun Ψ4 n4 x4 => ?_
  rcases three (k < o.bins.length) (k < 20) with hkl | ⟨hkl, hk20⟩ | ⟨hkl, hk20⟩
  · skip
    refine EW.region gs_nil ?_
    simp [hkl]
    refine n4 _ ?_; clear n4 x4
    refine EW.cond (t := _) (by rfl) (fun hc12 => ?_) (fun hc12 => ?_)
    · first | (simp at hc12; done) | (simp at hc12; omega)
    · clear hc12
      have hv : hugeL o.bins 0 = false := by
        rw [← hw, List.drop_of_length_le (by omega)]; rfl
      refine EW.exit ?_
      refine x3 _ _ rfl ?_; clear n3 x3
      refine n1 _ ?_; clear n1 x1
      refine EW.seq fun Ψ5 n5 x5 => ?_
      by_cases hq : (20 : Int) < (o.limits.length : Int)
      · skip
        refine EW.region gs_nil ?_
        simp [hq]
        have hv : hugeB o = true := by simp [hugeB, show 20 < o.limits.length by omega]
        refine n5 _ ?_; clear n5 x5
        refine EW.ret ?_
        refine ⟨_, _, _, rfl, ?_, ?_, ?_, ?_, ?_⟩ <;> simp [hv]
      · skip
        refine EW.region gs_nil ?_
        simp [hq]
        have hv : hugeB o = decide ((20 : Int) < (o.bins.length : Int)) := by rw [hugeB, hv, decide_eq_false (show ¬ 20 < o.limits.length by omega)]; by_cases h : 20 < o.bins.length <;> simp [h] <;> omega
        refine n5 _ ?_; clear n5 x5
        refine EW.ret ?_
        refine ⟨_, _, _, rfl, ?_, ?_, ?_, ?_, ?_⟩ <;> simp [hv]
  · skip
    refine EW.region gs_nil ?_
    simp [hkl, hk20]
    refine n4 _ ?_; clear n4 x4
    refine EW.cond (t := _) (by rfl) (fun hc12 => ?_) (fun hc12 => ?_)
    · first | (simp at hc12; done) | (simp at hc12; omega)
    · clear hc12
      have hv : hugeL o.bins 0 = false := by
        rw [← hw]
        rcases Nat.lt_or_ge k o.bins.length with hkl | hkl
        · rw [List.drop_eq_getElem_cons hkl, hugeL, if_neg hk20]
        · rw [List.drop_of_length_le hkl]; rfl
      refine EW.exit ?_
      refine x3 _ _ rfl ?_; clear n3 x3
      refine n1 _ ?_; clear n1 x1
      refine EW.seq fun Ψ6 n6 x6 => ?_
      by_cases hq : (20 : Int) < (o.limits.length : Int)
      · skip
        refine EW.region gs_nil ?_
        simp [hq]
        have hv : hugeB o = true := by simp [hugeB, show 20 < o.limits.length by omega]
        refine n6 _ ?_; clear n6 x6
        refine EW.ret ?_
        refine ⟨_, _, _, rfl, ?_, ?_, ?_, ?_, ?_⟩ <;> simp [hv]
      · skip
        refine EW.region gs_nil ?_
        simp [hq]
        have hv : hugeB o = decide ((20 : Int) < (o.bins.length : Int)) := by rw [hugeB, hv, decide_eq_false (show ¬ 20 < o.limits.length by omega)]; by_cases h : 20 < o.bins.length <;> simp [h] <;> omega
        refine n6 _ ?_; clear n6 x6
        refine EW.ret ?_
        refine ⟨_, _, _, rfl, ?_, ?_, ?_, ?_, ?_⟩ <;> simp [hv]
  · skip
    refine EW.region gs_nil ?_
    simp [hkl, hk20]
    refine n4 _ ?_; clear n4 x4
    refine EW.cond (t := _) (by rfl) (fun hc12 => ?_) (fun hc12 => ?_)
    · clear hc12
      refine EW.skip ?_
      refine n3 _ ?_; clear n3 x3
      refine EW.seq fun Ψ7 n7 x7 => ?_
      refine EW.block ?_
      refine EW.seq fun Ψ8 n8 x8 => ?_
      have e2 : o.bins[k]? = some o.bins[k] := List.getElem?_eq_getElem hkl
      refine EW.region gs_nil ?_
      simp [hkl, e2]
      refine n8 _ ?_; clear n8 x8
      refine EW.cond (t := _) (by rfl) (fun hc22 => ?_) (fun hc22 => ?_)
      · replace hc22 : 20 < o.bins[k].grams.length := by (simp at hc22; omega)
        have hv : hugeB o = true := by
          have : hugeL o.bins 0 = true := by rw [← hw, List.drop_eq_getElem_cons hkl]; simp [hugeL, hk20, hc22]
          simp [hugeB, this]
        refine EW.seq fun Ψ9 n9 x9 => ?_
        refine EW.region gs_nil ?_
        simp
        refine n9 _ ?_; clear n9 x9
        refine EW.ret ?_
        refine x7 _ _ rfl ?_; clear n7 x7
        refine x1 _ _ rfl ?_; clear n1 x1
        refine ⟨_, _, _, rfl, ?_, ?_, ?_, ?_, ?_⟩ <;> simp [hv]
      · replace hc22 : ¬ 20 < o.bins[k].grams.length := by (simp at hc22; omega)
        refine EW.skip ?_
        refine n7 _ ?_; clear n7 x7
        refine EW.hide fun Ψ10 n10 => ?_
        refine EW.region gs_nil ?_
        simp
        refine n10 _ _ ?_; clear n10
        have e3 : IntKind.i64.wrap ((k : Int) + 1) = k + 1 := wr_small (by omega) (by omega)
        refine ⟨k + 1, (St.le_lit rfl (by simp [e3]) (by simp) (by simp) (by simp) (by simp)), ?_, ?_⟩
        · refine ⟨by omega, by omega, ?_⟩
          rw [← hw, List.drop_eq_getElem_cons hkl]; simp [hugeL, hk20, hc22]
        · omega
    · first | (simp at hc12; done) | (simp at hc12; omega)

end Go.Ev
end

section
set_option linter.all false
open Go Go.Ev Go.Proofs
namespace Go.Ev
set_option linter.unusedSimpArgs false
set_option linter.unusedVariables false


def prodL : List MBin → Int → Int
  | [], n => n
  | b :: l, n => if n < 1000 then prodL l (wr (n * wr (b.g + 1))) else n
def wideB (o : MOrd) : Bool := decide (350 < prodL o.bins 1) && decide (ordErr o = 0)
def wiS (o : MOrd) (p : Nat × Int) : St := St.lit 32 [(1, .ptr (.own 1) 0), (3, .s (.int .i64 p.2)), (4, .s (.int .i64 p.1))] [(1, aOrdC o)] [] []
attribute [simp] wiS

theorem wide_ok (o : MOrd) (hz : szO o) : ACalls Try.prog 14 [.agg [.sl false false .U .no o.limits.length (eInts o.limits), .s (.int .i64 o.least), .s (.int .i64 o.most), .sl false false .U .no o.bins.length (eBins o.bins)]] [] (.ret (.s (.bool (wideB o))) [] []) := by
  have hz2 := hz.2.1
  refine acalls_of_ew Try.func14 rfl rfl (by simp [Try.f14]) (rs := [.tmp 2]) rfl ?_
  refine EW.seq fun Ψ0 n0 x0 => ?_
  refine EW.region gs_nil ?_
  simp
  refine n0 _ ?_; clear n0 x0
  refine EW.seq fun Ψ1 n1 x1 => ?_
  refine EW.region gs_nil ?_
  simp
  refine n1 _ ?_; clear n1 x1
  refine EW.seq fun Ψ2 n2 x2 => ?_
  refine EW.seq fun Ψ3 n3 x3 => ?_
  refine EW.region gs_nil ?_
  simp
  refine n3 _ ?_; clear n3 x3
  refine EW.block ?_
  refine EW.loopA (wiS o) (fun p => p.1 ≤ o.bins.length ∧ prodL (o.bins.drop p.1) p.2 = prodL o.bins 1) (fun p => o.bins.length - p.1) (0, 1) (St.le_lit rfl (by simp) (by simp) (by simp) (by simp) (by simp)) ?_ fun p hk => ?_
  · simp
  obtain ⟨k, n⟩ := p
  obtain ⟨hk, hw⟩ := hk
  simp only at hk hw
  refine EW.seq fun Ψ4 n4 x4 => ?_
  refine EW.seq fun Ψ5 n5 x5 => ?_
  rcases three (k < o.bins.length) (n < 1000) with hkl | ⟨hkl, hn⟩ | ⟨hkl, hn⟩
  · skip
    refine EW.region gs_nil ?_
    simp [hkl]
    refine n5 _ ?_; clear n5 x5
    refine EW.cond (t := _) (by rfl) (fun hc13 => ?_) (fun hc13 => ?_)
    · first | (simp at hc13; done) | (simp at hc13; omega)
    · clear hc13
      have hv : prodL o.bins 1 = n := by
        rw [← hw, List.drop_of_length_le (by omega)]; rfl
      refine EW.exit ?_
      refine x4 _ _ rfl ?_; clear n4 x4
      refine n2 _ ?_; clear n2 x2
      refine EW.seq fun Ψ6 n6 x6 => ?_
      by_cases hq : 350 < n
      · skip
        refine EW.region (gs_cons (rcheck_ok' o hz) gs_nil) ?_
        simp [hq]
        have hV : wideB o = decide (ordErr o = 0) := by simp [wideB, hv, hq]
        refine n6 _ ?_; clear n6 x6
        refine EW.ret ?_
        refine ⟨_, _, _, rfl, ?_, ?_, ?_, ?_, ?_⟩ <;> simp [hV]
      · skip
        refine EW.region gs_nil ?_
        simp [hq]
        have hV : wideB o = false := by simp [wideB, hv, hq]
        refine n6 _ ?_; clear n6 x6
        refine EW.ret ?_
        refine ⟨_, _, _, rfl, ?_, ?_, ?_, ?_, ?_⟩ <;> simp [hV]
  · skip
    refine EW.region gs_nil ?_
    simp [hkl, hn]
    refine n5 _ ?_; clear n5 x5
    refine EW.cond (t := _) (by rfl) (fun hc13 => ?_) (fun hc13 => ?_)
    · first | (simp at hc13; done) | (simp at hc13; omega)
    · clear hc13
      have hv : prodL o.bins 1 = n := by
        rw [← hw]
        rw [List.drop_eq_getElem_cons hkl, prodL, if_neg hn]
      refine EW.exit ?_
      refine x4 _ _ rfl ?_; clear n4 x4
      refine n2 _ ?_; clear n2 x2
      refine EW.seq fun Ψ7 n7 x7 => ?_
      by_cases hq : 350 < n
      · skip
        refine EW.region (gs_cons (rcheck_ok' o hz) gs_nil) ?_
        simp [hq]
        have hV : wideB o = decide (ordErr o = 0) := by simp [wideB, hv, hq]
        refine n7 _ ?_; clear n7 x7
        refine EW.ret ?_
        refine ⟨_, _, _, rfl, ?_, ?_, ?_, ?_, ?_⟩ <;> simp [hV]
      · skip
        refine EW.region gs_nil ?_
        simp [hq]
        have hV : wideB o = false := by simp [wideB, hv, hq]
        refine n7 _ ?_; clear n7 x7
        refine EW.ret ?_
        refine ⟨_, _, _, rfl, ?_, ?_, ?_, ?_, ?_⟩ <;> simp [hV]
  · skip
    refine EW.region gs_nil ?_
    simp [hkl, hn]
    refine n5 _ ?_; clear n5 x5
    refine EW.cond (t := _) (by rfl) (fun hc13 => ?_) (fun hc13 => ?_)
    · clear hc13
      refine EW.skip ?_
      refine n4 _ ?_; clear n4 x4
      refine EW.seq fun Ψ8 n8 x8 => ?_
      refine EW.block ?_
      refine EW.hide fun Ψ9 n9 => ?_
      have e2 : o.bins[k]? = some o.bins[k] := List.getElem?_eq_getElem hkl
      refine EW.region gs_nil ?_
      simp [hkl, e2]
      refine n9 _ _ ?_; clear n9
      refine n8 _ ?_; clear n8 x8
      refine EW.hide fun Ψ10 n10 => ?_
      refine EW.region gs_nil ?_
      simp
      refine n10 _ _ ?_; clear n10
      have e3 : IntKind.i64.wrap ((k : Int) + 1) = k + 1 := wr_small (by omega) (by omega)
      refine ⟨(k + 1, wr (n * wr (o.bins[k].g + 1))), (St.le_lit rfl (by simp [e3]) (by simp) (by simp) (by simp) (by simp)), ?_, ?_⟩
      · refine ⟨hkl, ?_⟩
        rw [← hw, List.drop_eq_getElem_cons hkl]; simp [prodL, hn]
      · simp; omega
    · first | (simp at hc13; done) | (simp at hc13; omega)


theorem hugeL_sz : ∀ (l : List MBin) (i : Nat), hugeL l i = false → l.length + i ≤ 20 → ∀ b ∈ l, b.grams.length ≤ 20
  | [], _, _, _, b, hb => by cases hb
  | x :: l, i, h, hi, b, hb => by
    simp only [List.length_cons] at hi
    rw [hugeL, if_pos (by omega)] at h
    split at h
    · cases h
    · rcases List.mem_cons.1 hb with rfl | hb
      · omega
      · exact hugeL_sz l (i + 1) h (by omega) b hb
structure Sz20 (o : MOrd) : Prop where
  l : o.limits.length ≤ 20
  b : o.bins.length ≤ 20
  g : ∀ b ∈ o.bins, b.grams.length ≤ 20
theorem huge_sz {o : MOrd} (h : hugeB o = false) : Sz20 o := by
  simp only [hugeB, Bool.or_eq_false_iff, decide_eq_false_iff_not] at h
  exact ⟨by omega, by omega, hugeL_sz o.bins 0 h.1 (by omega)⟩
theorem Sz20.sz {o : MOrd} (h : Sz20 o) : szO o := ⟨by have := h.l; omega, by have := h.b; omega, fun b hb => by have := h.g b hb; omega⟩

def eOrd (o : MOrd) : List D := [.sl o.limits.length (eInts o.limits), .s (.int .i64 o.least), .s (.int .i64 o.most), .sl o.bins.length (eBins o.bins)]
def eOrds (l : List MOrd) : List D := l.flatMap eOrd
@[simp] theorem eOrds_nil : eOrds [] = [] := rfl
@[simp] theorem eOrds_cons (o : MOrd) (l : List MOrd) : eOrds (o :: l) = .sl o.limits.length (eInts o.limits) :: .s (.int .i64 o.least) :: .s (.int .i64 o.most) :: .sl o.bins.length (eBins o.bins) :: eOrds l := rfl
@[simp] theorem eOrds_len (l : List MOrd) : (eOrds l).length = l.length * 4 := by
  induction l with
  | nil => rfl
  | cons a l ih => rw [eOrds_cons]; simp only [List.length_cons, ih]; omega
theorem eOrds_at (l : List MOrd) (i : Nat) (x : MOrd) (h : l[i]? = some x) : ((eOrds l).drop (i * 4)).take 4 = eOrd x := flat_take eOrd 4 (fun _ => rfl) l i x h
theorem eOrds_atm (f g : Bool) (l : List MOrd) (i : Nat) (x : MOrd) (h : l[i]? = some x) : ((List.map (D.av f g) (eOrds l)).drop (i * 4)).take 4 = [.sl g g .U .no x.limits.length (eInts x.limits), .s (.int .i64 x.least), .s (.int .i64 x.most), .sl g g .U .no x.bins.length (eBins x.bins)] := by
  rw [← List.map_drop, ← List.map_take, eOrds_at l i x h]; rfl
theorem cheapB_len (o : MOrd) : ((cheapB o).length : Int) < 9223372036854775807 := by
  unfold cheapB
  split
  · rename_i h
    have k := ordErr_ok h
    have := cheapR_len k
    have := k.nb
    omega
  · simp
def mcS (o : MOrd) (os : List MOrd) (k : Nat) : St :=
  St.lit 80 [(6, .sl false false .U .no os.length (eOrds os)), (7, .s (.int .i64 k))] [] [] []
attribute [simp] mcS

set_option maxHeartbeats 4000000 in
theorem MeltCheapest_ok (o : MOrd) (nums : List Int) (hl : (nums.length : Int) < 9223372036854775807) : ACalls Try.prog 3 [.agg [.sl false false .U .no o.limits.length (eInts o.limits), .s (.int .i64 o.least), .s (.int .i64 o.most), .sl false false .U .no o.bins.length (eBins o.bins)], .sl false false .U .no nums.length (eInts nums)] [] (.ret (.s (.bool true)) [] []) := by
  have c1 := orderOf_ok 4 3 3 (feedS nums) (by decide) (by decide)
  have c2 := orderOf_ok 3 2 6 (ordS 4 3 3 (feedS nums)) (by decide) (by decide)
  have m1 := ((made 4 3 3 (feedS nums) (by decide) (by decide) (by decide)).ok (by decide) (by decide) (by decide)).sz
  have m2 := ((made 3 2 6 (ordS 4 3 3 (feedS nums)) (by decide) (by decide) (by decide)).ok (by decide) (by decide) (by decide)).sz
  generalize ordOf 4 3 3 (feedS nums) = o1 at c1 m1
  generalize ordOf 3 2 6 (ordS 4 3 3 (feedS nums)) = o2 at c2 m2
  refine acalls_of_ew Try.func3 rfl rfl (by simp [Try.f3]) (rs := [.tmp 4]) rfl ?_
  refine EW.seq fun Ψ0 n0 x0 => ?_
  refine EW.region gs_nil ?_
  simp
  refine n0 _ ?_; clear n0 x0
  refine EW.seq fun Ψ1 n1 x1 => ?_
  refine EW.seq fun Ψ2 n2 x2 => ?_
  cases hh : hugeB o <;> cases hw : wideB o
  · skip
    refine EW.region (gs_cons (huge_ok o) (gs_cons (wide_ok o (huge_sz hh).sz) gs_nil)) ?_
    simp [hh, hw]
    refine n2 _ ?_; clear n2 x2
    refine EW.cond (t := _) (by rfl) (fun hc20 => ?_) (fun hc20 => ?_)
    · simp at hc20
    · clear hc20
      have hz := (huge_sz hh).sz
      refine EW.skip ?_
      refine n1 _ ?_; clear n1 x1
      refine EW.seq fun Ψ3 n3 x3 => ?_
      refine EW.region (gs_cons (feedOf_ok nums hl) gs_nil) ?_
      simp
      refine n3 _ ?_; clear n3 x3
      refine EW.seq fun Ψ4 n4 x4 => ?_
      refine EW.drawn [(0, 2), (0, 4)] mixed (gs_cons c1 (gs_cons c2 gs_nil)) (by kernel_rfl) ?_
      simp
      refine n4 _ ?_; clear n4 x4
      refine EW.seq fun Ψ5 n5 x5 => ?_
      refine EW.seq fun Ψ6 n6 x6 => ?_
      refine EW.region gs_nil ?_
      simp
      refine n6 _ ?_; clear n6 x6
      refine EW.block ?_
      obtain ⟨os, hos⟩ : ∃ os, os = [o, o1, o2] := ⟨_, rfl⟩
      have hzs : ∀ x ∈ os, szO x := by rw [hos]; simp only [List.mem_cons, List.not_mem_nil, or_false]; rintro x (rfl | rfl | rfl) <;> assumption
      have hol : os.length = 3 := by rw [hos]; rfl
      refine EW.loopA (mcS o os) (fun k => k ≤ os.length) (fun k => os.length - k) 0 (St.le_lit rfl (by simp [hos]) (by simp) (by simp) (by simp) (by simp)) ?_ fun p hk => ?_
      · simp
      rename Nat => k
      refine EW.seq fun Ψ7 n7 x7 => ?_
      refine EW.seq fun Ψ8 n8 x8 => ?_
      refine EW.region gs_nil ?_
      simp
      refine n8 _ ?_; clear n8 x8
      refine EW.cond (t := _) (by rfl) (fun hc33 => ?_) (fun hc33 => ?_)
      · simp at hc33
        have e1 : os[k]? = some os[k] := List.getElem?_eq_getElem hc33
        have hx := hzs _ (List.getElem_mem hc33)
        obtain ⟨hx1, hx2, hx3⟩ := id hx
        refine EW.skip ?_
        refine n7 _ ?_; clear n7 x7
        refine EW.seq fun Ψ9 n9 x9 => ?_
        refine EW.block ?_
        refine EW.seq fun Ψ10 n10 x10 => ?_
        refine EW.region (gs_cons (copyOrder_ok os[k] hx1 (by omega) hx3) gs_nil) ?_
        simp [hc33, eOrds_atm _ _ _ _ _ e1, show 4 ≤ os.length * 4 - k * 4 by omega]
        refine n10 _ ?_; clear n10 x10
        refine EW.seq fun Ψ11 n11 x11 => ?_
        refine EW.region (gs_cons (Cheapest_ok' os[k] hx) gs_nil) ?_
        simp
        refine n11 _ ?_; clear n11 x11
        refine EW.seq fun Ψ12 n12 x12 => ?_
        refine EW.region (gs_cons (rCheapest_ok os[k] hx) gs_nil) ?_
        simp [hc33, eOrds_atm _ _ _ _ _ e1, show 4 ≤ os.length * 4 - k * 4 by omega]
        refine n12 _ ?_; clear n12 x12
        refine EW.seq fun Ψ13 n13 x13 => ?_
        refine EW.drawn [] mixed (gs_cons (eqInts_ok (cheapB os[k]) (cheapB os[k]) (cheapB_len _)) (gs_cons (eqOrds_ok os[k] os[k] (by omega) (by omega) (fun b hb => by have := hx3 b hb; omega)) gs_nil)) (by kernel_rfl) ?_
        simp [hc33, eOrds_atm _ _ _ _ _ e1, show 4 ≤ os.length * 4 - k * 4 by omega]
        refine n13 _ ?_; clear n13 x13
        refine EW.cond (t := _) (by rfl) (fun hc78 => ?_) (fun hc78 => ?_)
        · simp at hc78
        · clear hc78
          refine EW.skip ?_
          refine n9 _ ?_; clear n9 x9
          refine EW.hide fun Ψ14 n14 => ?_
          refine EW.region gs_nil ?_
          simp
          refine n14 _ _ ?_; clear n14
          have e3 : IntKind.i64.wrap ((k : Int) + 1) = k + 1 := wr_small (by omega) (by omega)
          refine ⟨k + 1, (St.le_lit rfl (by simp [e3]) (by simp) (by simp) (by simp) (by simp)), ?_, ?_⟩
          · omega
          · omega
      · simp at hc33
        refine EW.exit ?_
        refine x7 _ _ rfl ?_; clear n7 x7
        refine n5 _ ?_; clear n5 x5
        refine EW.seq fun Ψ15 n15 x15 => ?_
        refine EW.region (gs_cons alive_ok gs_nil) ?_
        simp
        refine n15 _ ?_; clear n15 x15
        refine EW.ret ?_
        refine ⟨_, _, _, rfl, ?_, ?_, ?_, ?_, ?_⟩ <;> simp
  · skip
    refine EW.region (gs_cons (huge_ok o) (gs_cons (wide_ok o (huge_sz hh).sz) gs_nil)) ?_
    simp [hh, hw]
    refine n2 _ ?_; clear n2 x2
    refine EW.cond (t := _) (by rfl) (fun hc20 => ?_) (fun hc20 => ?_)
    · clear hc20
      refine EW.seq fun Ψ16 n16 x16 => ?_
      refine EW.region (gs_cons alive_ok gs_nil) ?_
      simp
      refine n16 _ ?_; clear n16 x16
      refine EW.ret ?_
      refine x1 _ _ rfl ?_; clear n1 x1
      refine ⟨_, _, _, rfl, ?_, ?_, ?_, ?_, ?_⟩ <;> simp
    · simp at hc20
  · skip
    refine EW.region (gs_cons (huge_ok o) gs_nil) ?_
    simp [hh]
    refine n2 _ ?_; clear n2 x2
    refine EW.cond (t := _) (by rfl) (fun hc20 => ?_) (fun hc20 => ?_)
    · clear hc20
      refine EW.seq fun Ψ17 n17 x17 => ?_
      refine EW.region (gs_cons alive_ok gs_nil) ?_
      simp
      refine n17 _ ?_; clear n17 x17
      refine EW.ret ?_
      refine x1 _ _ rfl ?_; clear n1 x1
      refine ⟨_, _, _, rfl, ?_, ?_, ?_, ?_, ?_⟩ <;> simp
    · simp at hc20
  · skip
    refine EW.region (gs_cons (huge_ok o) gs_nil) ?_
    simp [hh]
    refine n2 _ ?_; clear n2 x2
    refine EW.cond (t := _) (by rfl) (fun hc20 => ?_) (fun hc20 => ?_)
    · clear hc20
      refine EW.seq fun Ψ18 n18 x18 => ?_
      refine EW.region (gs_cons alive_ok gs_nil) ?_
      simp
      refine n18 _ ?_; clear n18 x18
      refine EW.ret ?_
      refine x1 _ _ rfl ?_; clear n1 x1
      refine ⟨_, _, _, rfl, ?_, ?_, ?_, ?_, ?_⟩ <;> simp
    · simp at hc20

end Go.Ev
end

section
set_option linter.all false
open Go Go.Ev Go.Proofs Go.RowKit Go.ChangeShapes Go.WideShapes
namespace Go.Ev
set_option linter.unusedSimpArgs false
set_option linter.all false

theorem eInts_flat : ∀ l : List Int, l.flatMap (fun n => [D.s (.int .i64 n)]) = eInts l
  | [] => rfl
  | a :: l => by rw [List.flatMap_cons, eInts_flat l]; rfl
theorem in_rng {H : Type} : In H Try.prog 47 (fun r : Int × Int => [D.s (.int .i64 r.1), D.s (.int .i64 r.2)]) (fun _ => True) :=
  (In.struct Try.underlying47 (by kernel_rfl) (InFs.cons rfl (In.int Try.underlying3) (InFs.cons (by simp) (In.int Try.underlying3) InFs.nil))).map (fun a => (a.1, a.2.1)) (fun a => rfl) (fun _ _ => trivial)
theorem in_rngs {H : Type} : In H Try.prog 48 (fun l : List (Int × Int) => [D.sl l.length (eRngs l)]) (fun _ => True) :=
  (In.slice Try.underlying48 (by simp) in_rng).map (fun a => a) (fun a => rfl) (fun _ _ => trivial)
theorem in_bin {H : Type} : In H Try.prog 50 eBin (fun _ => True) :=
  (In.struct Try.underlying50 (by kernel_rfl) (InFs.cons rfl in_rngs (InFs.cons (by simp) (In.int Try.underlying3) (InFs.cons (by simp) (In.int Try.underlying3) (InFs.cons (by simp) (In.int Try.underlying3) InFs.nil))))).map
    (fun a => ⟨a.1, a.2.1, a.2.2.1, a.2.2.2.1⟩) (fun a => rfl) (fun _ _ => trivial)
theorem in_bins {H : Type} : In H Try.prog 23 (fun l : List MBin => [D.sl l.length (eBins l)]) (fun _ => True) :=
  (In.slice Try.underlying23 (by simp) in_bin).map (fun a => a) (fun a => rfl) (fun _ _ => trivial)
theorem in_ints {H : Type} : In H Try.prog 22 (fun l : List Int => [D.sl l.length (eInts l)]) (fun _ => True) :=
  (In.slice Try.underlying22 (by simp) (In.int Try.underlying3)).map (fun a => a) (fun a => by rw [eInts_flat]) (fun _ _ => trivial)
theorem in_ord {H : Type} : In H Try.prog 25 eOrd (fun _ => True) :=
  (In.struct Try.underlying25 (by kernel_rfl) (InFs.cons rfl in_ints (InFs.cons (by simp) (In.int Try.underlying3) (InFs.cons (by simp) (In.int Try.underlying3) (InFs.cons (by simp) in_bins InFs.nil))))).map
    (fun a => ⟨a.1, a.2.1, a.2.2.1, a.2.2.2.1⟩) (fun a => rfl) (fun _ _ => trivial)
theorem int_arg {W : World} {r : Reach} {base : Nat} {v : Value} {n : Int} (hval : Value.okWide Try.prog W r base 3 v) (h : RC W (imO W) [D.s (.int .i64 n)] v.cells.toList) : RV W (c0 (rdO W) []) (.s (.int .i64 n)) v := by
  simp only [Value.okWide, Try.underlying3, Cell.okWide, Cell.ok] at hval
  split at hval
  all_goals first | (exact hval.elim; done) | skip
  all_goals first | (rename_i e; cases e; done) | skip
  rename_i k k' m e
  obtain ⟨u, q, e2, _, h2, _⟩ := h
  cases e2
  simp only [RD] at h2
  simpa [RV] using h2
end Go.Ev
end
