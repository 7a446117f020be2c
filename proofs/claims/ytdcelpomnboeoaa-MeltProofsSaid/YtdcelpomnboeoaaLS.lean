/- Lemmas for the claims of this seat: an evaluator over abstract values, its soundness, and the contracts of the functions of melt that it walks; no premise beyond what each theorem states. -/
import Derived.Test.YtdcelpomnboeoaaLD
import Derived.Test.YtdcelpomnboeoaaLE
import Derived.Test.YtdcelpomnboeoaaLG
import Derived.Test.YtdcelpomnboeoaaLI
import Derived.Test.YtdcelpomnboeoaaLK
import Derived.Test.YtdcelpomnboeoaaLO
import Derived.Test.YtdcelpomnboeoaaLQ
import Derived.Test.YtdcelpomnboeoaaLR
import Derived.Test.YtdcelpomnboeoaaLA
import Derived.Test.YtdcelpomnboeoaaLB
import Derived.Test.YtdcelpomnboeoaaLC

section
set_option linter.all false
open Go Go.Ev Go.Proofs
namespace Go.Ev
set_option linter.unusedSimpArgs false
set_option linter.unusedVariables false

/-! ### The reference's reasons are the program's -/
theorem rsL_Z {o : MOrd} {x : List (Int × Int)} (j : Nat) (lim : Int) (hj : o.limits[j]?.getD 0 = lim) (hlim : 0 ≤ lim ∧ lim ≤ 1000000) (nl : Nat) (h4 : o.bins.length ≤ 4) : ∀ (bs : List MBin) (i : Nat) (s : Int), (∀ b ∈ bs, OkB nl b) → okX bs (x.drop i) → i + bs.length = o.bins.length →
    -(1000000000000 * i) ≤ s ∧ s ≤ 1000000000000 * i → rsL o (lowX o.bins x) (highX o.bins x) j bs i s = s + brkZ lim j bs (x.drop i)
  | [], i, s, _, _, _, _ => by simp [rsL, brkZ]
  | b :: bs, i, s, hb, hx, hi, hs => by
    simp only [List.length_cons] at hi
    cases hd : x.drop i with
    | nil => rw [hd] at hx; exact hx.elim
    | cons p y =>
      have e1 : x[i]? = some p := by
        have := List.getElem?_drop (xs := x) (i := i) (j := 0)
        rw [hd] at this
        simpa using this.symm
      have e2 : x.drop (i + 1) = y := by rw [← List.drop_drop, hd]; rfl
      rw [hd] at hx
      have kb := hb b (by simp)
      have gm := getD_in kb j
      have w := kb.w
      have hp := hx.1
      have hg := kb.g
      have wz : ∀ n : Int, -1000000000000000 ≤ n → n ≤ 1000000000000000 → IntKind.i64.wrap n = n := fun n a b => wr_small (by omega) (by omega)
      have hV : ovr o j b = (b.grams.getD j (0, 0)).2 - lim := by
        unfold ovr
        rw [← List.getD_eq_getElem?_getD, hj, wz _ (by omega) (by omega)]
      have el := lowX_get (bs := o.bins) (by omega) e1
      have eh := highX_get (bs := o.bins) (by omega) e1
      simp only [rsL, brkZ, hV, el, eh, Option.getD_some]
      have hVb : -1000000 ≤ (b.grams.getD j (0, 0)).2 - lim ∧ (b.grams.getD j (0, 0)).2 - lim ≤ 1000000 := by omega
      generalize (b.grams.getD j (0, 0)).2 - lim = V at hVb
      have key : ∀ n : Int, 0 ≤ n ∧ n ≤ 6 → IntKind.i64.wrap (s + IntKind.i64.wrap (IntKind.i64.wrap (n * b.w) * V)) = s + n * (b.w * V) ∧ -(60000000000) ≤ n * (b.w * V) ∧ n * (b.w * V) ≤ 60000000000 := by
        intro n hn
        have t1 := prod_in (a := n) (b := b.w) (A := 6) (B := 10000) (by omega) (by omega)
        have t0 : 0 ≤ n * b.w := Int.mul_nonneg hn.1 (by omega)
        have t2 := prod_in (a := n * b.w) (b := V) (A := 60000) (B := 1000000) (by omega) (by omega)
        rw [← Int.mul_assoc, wz (n * b.w) (by omega) (by omega), wz (n * b.w * V) (by omega) (by omega), wz _ (by omega) (by omega)]
        omega
      by_cases hv : V < 0
      · have hneg : ¬ 0 ≤ b.w * V := by
          have := Int.mul_neg_of_pos_of_neg (show 0 < b.w by omega) hv
          omega
        obtain ⟨q1, q2, q3⟩ := key p.2 (by omega)
        rw [if_pos hv, if_neg hneg, q1, rsL_Z j lim hj hlim nl h4 bs (i + 1) _ (fun c hc => hb c (by simp [hc])) (by rw [e2]; exact hx.2) (by omega) (by omega), e2]
        omega
      · have hpos : 0 ≤ b.w * V := Int.mul_nonneg (by omega) (by omega)
        obtain ⟨q1, q2, q3⟩ := key p.1 (by omega)
        rw [if_neg hv, if_pos hpos, q1, rsL_Z j lim hj hlim nl h4 bs (i + 1) _ (fun c hc => hb c (by simp [hc])) (by rw [e2]; exact hx.2) (by omega) (by omega), e2]
        omega
set_option linter.unusedSectionVars false
section
variable {o : MOrd} (k : OkO o) {x : List (Int × Int)} (bx : BX o x)
include k bx
theorem rgt2 (pr a : Int) : rgtB o (lowX o.bins x) (highX o.bins x) pr 2 a = lightB o x := by
  rw [rgtB, if_pos rfl, lightB, highsB, highX_eq]
theorem rgt3 (pr a : Int) : rgtB o (lowX o.bins x) (highX o.bins x) pr 3 a = heavyB o x := by
  rw [rgtB, if_neg (by decide), if_pos rfl, heavyB, lowsB, lowX_eq]
theorem rgt5 (pr a : Int) : rgtB o (lowX o.bins x) (highX o.bins x) pr 5 a = dearB o pr x := by
  rw [rgtB, if_neg (by decide), if_neg (by decide), if_pos rfl, dearB, lowsB, lowX_eq]
theorem rgt4 (pr : Int) (j : Nat) (hj : j < o.limits.length) : rgtB o (lowX o.bins x) (highX o.bins x) pr 4 j = brkV o x j := by
  have e5 : o.limits[j]? = some o.limits[j] := List.getElem?_eq_getElem hj
  have hz := rsL_Z (x := x) j o.limits[j] (by rw [e5]; rfl) (k.lim _ (List.getElem_mem hj)) o.limits.length k.nb o.bins 0 0 k.bin (by simpa using bx.ok) (by simp) (by omega)
  rw [rgtB, if_neg (by decide), if_neg (by decide), if_neg (by decide), Int.toNat_natCast, hz]
  have := brkV_iff k bx j hj
  rw [Bool.eq_iff_iff, this]
  simp
end

theorem lowX_len {o : MOrd} {x : List (Int × Int)} (bx : BX o x) : (lowX o.bins x).length = o.bins.length := by
  have key : ∀ (bs : List MBin) (x : List (Int × Int)), okX bs x → (lowX bs x).length = bs.length := by
    intro bs
    induction bs with
    | nil => intro x _; cases x <;> rfl
    | cons b bs ih =>
      intro x h
      cases x with
      | nil => exact h.elim
      | cons p x => simp only [lowX, List.length_cons]; rw [ih x h.2]
  exact key _ _ bx.ok
theorem highX_len {o : MOrd} {x : List (Int × Int)} (bx : BX o x) : (highX o.bins x).length = o.bins.length := by
  have key : ∀ (bs : List MBin) (x : List (Int × Int)), okX bs x → (highX bs x).length = bs.length := by
    intro bs
    induction bs with
    | nil => intro x _; cases x <;> rfl
    | cons b bs ih =>
      intro x h
      cases x with
      | nil => exact h.elim
      | cons p x => simp only [highX, List.length_cons]; rw [ih x h.2]
  exact key _ _ bx.ok
theorem rver_ok {o : MOrd} (k : OkO o) (pr : Int) : ∀ (n : Nat) (x : List (Int × Int)) (r : List MBd), BX o x → r.length < n → n < 100000 →
    ACalls Try.prog 77 [.agg [.sl false false .U .no o.limits.length (eInts o.limits), .s (.int .i64 o.least), .s (.int .i64 o.most), .sl false false .U .no o.bins.length (eBins o.bins)], .agg [.sl false false .U .no (lowX o.bins x).length (eInts (lowX o.bins x)), .sl false false .U .no (highX o.bins x).length (eInts (highX o.bins x))], .s (.int .i64 pr), .sl false false .U .no r.length (eBds r)] []
      (.ret (.tup [.sl false false .U .no (vlP (verR o pr n x r)).length (eBds (vlP (verR o pr n x r))), .s (.int .i64 (verR o pr n x r).1)]) [] [])
  | 0, x, r, _, h, _ => by omega
  | n + 1, x, [], bx, _, _ => rver_nil o pr (lowX o.bins x) (highX o.bins x) _ rfl
  | n + 1, x, ⟨q, a, c⟩ :: r, bx, hr, hn => by
    simp only [List.length_cons] at hr
    have hl := lowX_len bx
    have hh := highX_len bx
    have h4 := k.nb
    have h3 := k.nl
    by_cases h1 : q = 1
    · subst h1
      have get : ∀ (i : Nat), i < o.bins.length → ∃ p, x[i]? = some p ∧ (lowX o.bins x)[i]? = some p.1 ∧ (highX o.bins x)[i]? = some p.2 ∧ 0 ≤ p.1 ∧ p.1 ≤ p.2 ∧ p.2 ≤ 6 := fun i hi => by
        have hx4 := bx.len
        have e : x[i]? = some (x[i]'(by omega)) := List.getElem?_eq_getElem (by omega)
        obtain ⟨b, hb, q1, q2, q3⟩ := (okX_get bx.ok e).1 hi
        have := (k.bin b hb).g
        exact ⟨_, e, lowX_get hi e, highX_get hi e, q1, q2, by omega⟩
      refine rver_cut o pr (lowX o.bins x) (highX o.bins x) a c r (verR o pr n (setHi x a.toNat c) r) (verR o pr n (setLo x a.toNat (wr (c + 1))) (verR o pr n (setHi x a.toNat c) r).2) _ (by omega) (nb_pos k) hl hh (by omega) (fun i i1 i2 => ?_) (fun i hi i1 i2 c1 c2 => ?_) ?_
      · obtain ⟨p, _, el, eh, q1, q2, q3⟩ := get i (by omega)
        rw [List.getElem?_eq_getElem i1] at el
        rw [List.getElem?_eq_getElem i2] at eh
        have el := Option.some.inj el
        have eh := Option.some.inj eh
        omega
      · obtain ⟨p, e, el, eh, q1, q2, q3⟩ := get i (by omega)
        rw [List.getElem?_eq_getElem i1] at el
        rw [List.getElem?_eq_getElem i2] at eh
        have el := Option.some.inj el
        have eh := Option.some.inj eh
        rw [el] at c1
        rw [eh] at c2
        subst hi
        rw [Int.toNat_natCast, show wr (c + 1) = c + 1 from wr_small (by omega) (by omega)]
        have b1 := BX.hi k bx e (by omega) c1 (by omega)
        have b2 := BX.lo k bx e (v := c + 1) (by omega) (by omega) (by omega)
        have r1 := rver_ok k pr n _ r b1 (by omega) (by omega)
        have r2 := rver_ok k pr n _ (verR o pr n (setHi x i c) r).2 b2 (by have := verR_len o pr n (setHi x i c) r; omega) (by omega)
        rw [lowX_hi, highX_hi] at r1
        rw [lowX_lo, highX_lo] at r2
        exact ⟨r1, fun _ => r2⟩
      · rw [verR, if_pos rfl]
        by_cases hA : inB a 0 (wr ((o.bins.length : Int) - 1)) = false
        · rw [if_pos hA, if_pos hA]
        · rw [if_neg hA, if_neg hA]
          have hb := inB_iff.1 (by simpa only [Bool.not_eq_false] using hA)
          rw [show wr ((o.bins.length : Int) - 1) = o.bins.length - 1 from wr_small (by omega) (by omega)] at hb
          obtain ⟨p, e, el, eh, _⟩ := get a.toNat (by omega)
          rw [e, el, eh]
          rfl
    by_cases h5 : inB q 1 5 = false
    · refine rver_bad o pr (lowX o.bins x) (highX o.bins x) q a c r _ (by omega) h5 ?_
      have : ¬ (1 ≤ q ∧ q ≤ 5) := fun h => by rw [inB_iff.2 h] at h5; cases h5
      rw [verR, if_neg h1, if_neg (by show ¬ q = 2; omega), if_neg (by show ¬ q = 3; omega), if_neg (by show ¬ q = 4; omega), if_neg (by show ¬ q = 5; omega)]
    · have h5 := inB_iff.1 (by simpa only [Bool.not_eq_false] using h5)
      refine rver_leaf o pr (lowX o.bins x) (highX o.bins x) q a c r _ (by omega) (by omega) hl hh (by omega) (fun b hb => (k.bin b hb).len) (by omega) ?_
      have hq : q = 2 ∨ q = 3 ∨ q = 4 ∨ q = 5 := by omega
      rw [verR, if_neg h1]
      rcases hq with rfl | rfl | rfl | rfl
      · rw [rgt2 k bx]
        simp only [Int.reduceEq, if_true, if_false, false_and]
        split <;> rfl
      · rw [rgt3 k bx]
        simp only [Int.reduceEq, if_true, if_false, false_and]
        split <;> rfl
      · simp only [Int.reduceEq, if_true, if_false, true_and]
        by_cases hA : inB a 0 (wr ((o.limits.length : Int) - 1)) = false
        · rw [if_pos hA, if_pos hA]
        · rw [if_neg hA, if_neg hA]
          have hb := inB_iff.1 (by simpa only [Bool.not_eq_false] using hA)
          rw [show wr ((o.limits.length : Int) - 1) = o.limits.length - 1 from wr_small (by omega) (by omega)] at hb
          obtain ⟨i, rfl⟩ : ∃ i : Nat, a = i := ⟨a.toNat, by omega⟩
          rw [rgt4 k bx pr i (by omega), Int.toNat_natCast]
          split <;> rfl
      · rw [rgt5 k bx]
        simp only [Int.reduceEq, if_true, if_false, false_and]
        split <;> rfl
end Go.Ev
end

section
set_option linter.all false
open Go Go.Ev Go.Proofs
namespace Go.Ev
set_option linter.unusedSimpArgs false
set_option linter.unusedVariables false

set_option maxRecDepth 100000
theorem rVerify_ok (o : MOrd) (pr : Int) (p : List MBd) (hz : szO o) : ACalls Try.prog 42 [.agg [.sl false false .U .no o.limits.length (eInts o.limits), .s (.int .i64 o.least), .s (.int .i64 o.most), .sl false false .U .no o.bins.length (eBins o.bins)], .s (.int .i64 pr), .sl false false .U .no p.length (eBds p)] [] (.ret (.s (.int .i64 (verE o pr p))) [] []) := by
  refine acalls_of_ew Try.func42 rfl rfl (by simp [Try.f42]) (rs := [.tmp 6]) rfl ?_
  refine EW.seq fun Ψ0 n0 x0 => ?_
  refine EW.region gs_nil ?_
  simp
  refine n0 _ ?_; clear n0 x0
  refine EW.seq fun Ψ1 n1 x1 => ?_
  refine EW.seq fun Ψ2 n2 x2 => ?_
  refine EW.region (gs_cons (rcheckPrice_ok o pr hz) gs_nil) ?_
  simp
  refine n2 _ ?_; clear n2 x2
  refine EW.seq fun Ψ3 n3 x3 => ?_
  refine EW.region gs_nil ?_
  simp
  refine n3 _ ?_; clear n3 x3
  refine EW.cond (t := _) (by rfl) (fun hc14 => ?_) (fun hc14 => ?_)
  · have g1 : ¬ priceErr o pr = 0 := by simpa using hc14
    have hv : verE o pr p = priceErr o pr := by rw [verE, if_neg g1]
    refine EW.seq fun Ψ4 n4 x4 => ?_
    refine EW.region gs_nil ?_
    simp
    refine n4 _ ?_; clear n4 x4
    refine EW.ret ?_
    refine x1 _ _ rfl ?_; clear n1 x1
    refine ⟨_, _, _, rfl, ?_, ?_, ?_, ?_, ?_⟩ <;> simp [hv]
  · have g1 : priceErr o pr = 0 := by simpa using hc14
    have k := ordErr_ok (priceErr_ord g1)
    have kn := k.nl
    have kb := k.nb
    refine EW.skip ?_
    refine n1 _ ?_; clear n1 x1
    refine EW.seq fun Ψ5 n5 x5 => ?_
    refine EW.seq fun Ψ6 n6 x6 => ?_
    refine EW.region gs_nil ?_
    simp
    refine n6 _ ?_; clear n6 x6
    refine EW.cond (t := _) (by rfl) (fun hc18 => ?_) (fun hc18 => ?_)
    · have g2 : 6000 < p.length := by simp at hc18; omega
      have hv : verE o pr p = 6 := by rw [verE, if_pos g1, if_pos g2]
      refine EW.seq fun Ψ7 n7 x7 => ?_
      refine EW.region gs_nil ?_
      simp
      refine n7 _ ?_; clear n7 x7
      refine EW.ret ?_
      refine x5 _ _ rfl ?_; clear n5 x5
      refine ⟨_, _, _, rfl, ?_, ?_, ?_, ?_, ?_⟩ <;> simp [hv]
    · have g2 : ¬ 6000 < p.length := by simp at hc18; omega
      have c1 := rver_ok k pr (p.length + 1) (wholeB o) p (whole_X k) (by omega) (by omega)
      rw [low_whole k, high_whole k] at c1
      obtain ⟨A, hA⟩ : ∃ A, A = verR o pr (p.length + 1) (wholeB o) p := ⟨_, rfl⟩
      rw [← hA] at c1
      refine EW.skip ?_
      refine n5 _ ?_; clear n5 x5
      refine EW.seq fun Ψ8 n8 x8 => ?_
      refine EW.drawn [(0, 2)] mixed (gs_cons (rwhole_ok o (by omega)) (gs_cons c1 gs_nil)) (by kernel_rfl) ?_
      simp
      refine n8 _ ?_; clear n8 x8
      refine EW.seq fun Ψ9 n9 x9 => ?_
      refine EW.seq fun Ψ10 n10 x10 => ?_
      by_cases h4 : A.1 = 0
      · skip
        refine EW.region gs_nil ?_
        simp [vlP_0 h4, h4]
        refine n10 _ ?_; clear n10 x10
        refine EW.cond (t := _) (by rfl) (fun hc34 => ?_) (fun hc34 => ?_)
        · have h5 : 0 < A.2.length := by first | (simpa using hc34) | (simp at hc34; omega)
          have hv : verE o pr p = 2 := by rw [verE, if_pos g1, if_neg g2, ← hA, if_pos h4, if_pos h5]
          refine EW.seq fun Ψ11 n11 x11 => ?_
          refine EW.region gs_nil ?_
          simp
          refine n11 _ ?_; clear n11 x11
          refine EW.ret ?_
          refine x9 _ _ rfl ?_; clear n9 x9
          refine ⟨_, _, _, rfl, ?_, ?_, ?_, ?_, ?_⟩ <;> simp [hv]
        · have h5 : ¬ 0 < A.2.length := by first | (simpa using hc34) | (simp at hc34; omega)
          have hv : verE o pr p = 0 := by rw [verE, if_pos g1, if_neg g2, ← hA, if_pos h4, if_neg h5]
          refine EW.skip ?_
          refine n9 _ ?_; clear n9 x9
          refine EW.seq fun Ψ12 n12 x12 => ?_
          refine EW.region gs_nil ?_
          simp
          refine n12 _ ?_; clear n12 x12
          refine EW.ret ?_
          refine ⟨_, _, _, rfl, ?_, ?_, ?_, ?_, ?_⟩ <;> simp [hv]
      · skip
        refine EW.region gs_nil ?_
        simp [h4]
        refine n10 _ ?_; clear n10 x10
        refine EW.cond (t := _) (by rfl) (fun hc34 => ?_) (fun hc34 => ?_)
        · simp at hc34
        · clear hc34
          have hv : verE o pr p = A.1 := by rw [verE, if_pos g1, if_neg g2, ← hA, if_neg h4]
          refine EW.skip ?_
          refine n9 _ ?_; clear n9 x9
          refine EW.seq fun Ψ13 n13 x13 => ?_
          refine EW.region gs_nil ?_
          simp
          refine n13 _ ?_; clear n13 x13
          refine EW.ret ?_
          refine ⟨_, _, _, rfl, ?_, ?_, ?_, ?_, ?_⟩ <;> simp [hv]


def rndV (a n : Int) : Int := if n < 2 then 0 else (IntKind.i64.wrap (a.tmod n + n)).tmod n

theorem round_ok (a n : Int) (hn : n < 1000000000) : ACalls Try.prog 38 [.s (.int .i64 a), .s (.int .i64 n)] [] (.ret (.s (.int .i64 (rndV a n))) [] []) := by
  refine acalls_of_ew Try.func38 rfl rfl (by simp [Try.f38]) (rs := [.tmp 4]) rfl ?_
  refine EW.seq fun Ψ0 n0 x0 => ?_
  refine EW.region gs_nil ?_
  simp
  refine n0 _ ?_; clear n0 x0
  refine EW.seq fun Ψ1 n1 x1 => ?_
  refine EW.seq fun Ψ2 n2 x2 => ?_
  refine EW.region gs_nil ?_
  simp
  refine n2 _ ?_; clear n2 x2
  refine EW.cond (t := _) (by rfl) (fun hc6 => ?_) (fun hc6 => ?_)
  · have g1 : n < 2 := by simpa using hc6
    refine EW.seq fun Ψ3 n3 x3 => ?_
    refine EW.region gs_nil ?_
    simp
    refine n3 _ ?_; clear n3 x3
    refine EW.ret ?_
    refine x1 _ _ rfl ?_; clear n1 x1
    refine ⟨_, _, _, rfl, ?_, ?_, ?_, ?_, ?_⟩ <;> simp [rndV, g1]
  · have g1 : ¬ n < 2 := by simp at hc6; omega
    have g0 : ¬ n = 0 := by omega
    refine EW.skip ?_
    refine n1 _ ?_; clear n1 x1
    refine EW.seq fun Ψ4 n4 x4 => ?_
    refine EW.region gs_nil ?_
    simp [q_rem _ _ _ _ _ _ g0]
    refine n4 _ ?_; clear n4 x4
    refine EW.ret ?_
    refine ⟨_, _, _, rfl, ?_, ?_, ?_, ?_, ?_⟩ <;> simp [rndV, g1]

end Go.Ev
end
