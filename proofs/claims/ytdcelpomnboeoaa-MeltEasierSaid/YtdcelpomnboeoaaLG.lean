/- Lemmas for the claims of this seat: an evaluator over abstract values, its soundness, and the contracts of the functions of melt that it walks; no premise beyond what each theorem states. -/
import Derived.Test.YtdcelpomnboeoaaLF
import Derived.Test.YtdcelpomnboeoaaLD
import Derived.Test.YtdcelpomnboeoaaLC
import Derived.Test.YtdcelpomnboeoaaLE
import Derived.Test.YtdcelpomnboeoaaLB

section
set_option linter.all false
open Go Go.Ev Go.Proofs
namespace Go.Ev
set_option linter.unusedSimpArgs false
set_option linter.unusedVariables false

/-! ### What a valid order is -/
structure OkB (nl : Nat) (b : MBin) : Prop where
  len : b.grams.length = nl
  rng : ∀ r ∈ b.grams, 0 ≤ r.1 ∧ r.1 ≤ r.2 ∧ r.2 ≤ 1000000
  w : 1 ≤ b.w ∧ b.w ≤ 10000
  c : 0 ≤ b.c ∧ b.c ≤ 10000000
  g : 0 ≤ b.g ∧ b.g ≤ 6
structure OkO (o : MOrd) : Prop where
  nl : o.limits.length ≤ 3
  lim : ∀ n ∈ o.limits, 0 ≤ n ∧ n ≤ 1000000
  lo : 0 ≤ o.least ∧ o.least ≤ o.most ∧ o.most ≤ 240000
  ne : o.bins ≠ []
  nb : o.bins.length ≤ 4
  bin : ∀ b ∈ o.bins, OkB o.limits.length b
theorem inB_iff {a b c : Int} : inB a b c = true ↔ b ≤ a ∧ a ≤ c := by simp [inB]
theorem rngsErr_ok : ∀ (l : List (Int × Int)), rngsErr l = 0 → ∀ r ∈ l, 0 ≤ r.1 ∧ r.1 ≤ r.2 ∧ r.2 ≤ 1000000
  | [], _, r, h => by cases h
  | x :: l, h, r, hr => by
    unfold rngsErr at h
    split at h
    · rename_i hx
      rcases List.mem_cons.1 hr with rfl | hr
      · unfold rngErr at hx
        split at hx
        · cases hx
        · rename_i h1
          split at hx
          · cases hx
          · rename_i h2
            simp only [Bool.not_eq_false, Bool.and_eq_true, inB_iff] at h1
            exact ⟨h1.1.1, by omega, h1.2.2⟩
      · exact rngsErr_ok l h r hr
    · rename_i hx; exact absurd h hx
theorem binErr_ok {nl : Nat} {b : MBin} (h : binErr nl b = 0) : OkB nl b := by
  unfold binErr at h
  split at h
  · rename_i h1
    split at h
    · rename_i h2
      split at h
      · rename_i h3
        simp only [Bool.and_eq_true, inB_iff] at h3
        exact ⟨h1, rngsErr_ok _ h2, h3.1.1, h3.1.2, h3.2⟩
      · cases h
    · rename_i h2; exact absurd h h2
  · cases h
theorem binsErr_ok (nl : Nat) : ∀ (l : List MBin), binsErr nl l = 0 → ∀ b ∈ l, OkB nl b
  | [], _, b, hb => by cases hb
  | x :: l, h, b, hb => by
    unfold binsErr at h
    split at h
    · rename_i hx
      rcases List.mem_cons.1 hb with rfl | hb
      · exact binErr_ok hx
      · exact binsErr_ok nl l h b hb
    · rename_i hx; exact absurd h hx
theorem anyBad_no : ∀ (l : List Int), ¬ anyBad l = true → ∀ n ∈ l, 0 ≤ n ∧ n ≤ 1000000
  | [], _, n, h => by cases h
  | x :: l, h, n, hn => by
    rw [anyBad_cons'] at h
    simp only [Bool.or_eq_true, Bool.not_eq_true', not_or, Bool.not_eq_false] at h
    rcases List.mem_cons.1 hn with rfl | hn
    · exact inB_iff.1 h.1
    · exact anyBad_no l h.2 n hn
where anyBad_cons' {n : Int} {l : List Int} : anyBad (n :: l) = (!inB n 0 1000000 || anyBad l) := rfl
theorem ordErr_ok {o : MOrd} (h : ordErr o = 0) : OkO o := by
  have hb := binsErr_ok _ _ (ordErr_bins o h)
  unfold ordErr at h
  split at h
  · cases h
  rename_i h1
  split at h
  · cases h
  rename_i h2
  split at h
  · cases h
  rename_i h3
  split at h
  · cases h
  rename_i h4
  split at h
  · cases h
  rename_i h5
  split at h
  · cases h
  rename_i h6
  simp only [Bool.not_eq_false, Bool.and_eq_true, inB_iff] at h3
  exact ⟨by omega, anyBad_no _ h2, ⟨h3.1.1, by omega, h3.2.2⟩, fun e => h5 (by rw [e]; rfl), by omega, hb⟩
theorem OkO.sz {o : MOrd} (h : OkO o) : szO o := ⟨by have := h.nl; omega, by have := h.nb; omega, fun b hb => by have := (h.bin b hb).len; have := h.nl; omega⟩

theorem setHi_in {x : List (Int × Int)} (h : ∀ p ∈ x, p.1 = 0 ∧ 0 ≤ p.2 ∧ p.2 ≤ 6) {g : Int} (hg : 0 ≤ g ∧ g ≤ 6) (k : Nat) : ∀ p ∈ setHi x k g, p.1 = 0 ∧ 0 ≤ p.2 ∧ p.2 ≤ 6 := by
  induction x generalizing k with
  | nil => intro p hp; simp [setHi] at hp
  | cons q r ih =>
    intro p hp
    cases k with
    | zero =>
      simp only [setHi] at hp
      rcases List.mem_cons.1 hp with rfl | hp
      · exact ⟨(h q (by simp)).1, hg⟩
      · exact h p (by simp [hp])
    | succ k =>
      simp only [setHi] at hp
      rcases List.mem_cons.1 hp with rfl | hp
      · exact h p (by simp)
      · exact ih (fun p hp => h p (by simp [hp])) k p hp
theorem wholeL_in : ∀ (bs : List MBin) (i : Nat) (x : List (Int × Int)), (∀ b ∈ bs, 0 ≤ b.g ∧ b.g ≤ 6) → (∀ p ∈ x, p.1 = 0 ∧ 0 ≤ p.2 ∧ p.2 ≤ 6) → (wholeL bs i x).length = x.length ∧ ∀ p ∈ wholeL bs i x, p.1 = 0 ∧ 0 ≤ p.2 ∧ p.2 ≤ 6
  | [], i, x, _, hx => ⟨rfl, hx⟩
  | b :: bs, i, x, hb, hx => by
    have := wholeL_in bs (i + 1) (setHi x i b.g) (fun c hc => hb c (by simp [hc])) (setHi_in hx (hb b (by simp)) i)
    exact ⟨this.1.trans (by simp), this.2⟩
theorem sizeBx_le : ∀ (x : List (Int × Int)), (∀ p ∈ x, p.1 = 0 ∧ 0 ≤ p.2 ∧ p.2 ≤ 6) → sizeBx x ≤ 6 * x.length
  | [], _ => by simp [sizeBx]
  | p :: r, h => by
    have h1 := h p (by simp)
    have := sizeBx_le r (fun q hq => h q (by simp [hq]))
    simp only [sizeBx, List.length_cons]
    omega
theorem whole_facts {o : MOrd} (h : OkO o) : (wholeB o).length = 4 ∧ okBx (wholeB o) ∧ sizeBx (wholeB o) < 41 := by
  obtain ⟨h1, h2⟩ := wholeL_in o.bins 0 bx0 (fun b hb => (h.bin b hb).g) (by simp [bx0])
  have h3 := sizeBx_le _ h2
  have h1' : (wholeB o).length = 4 := h1
  exact ⟨h1', fun p hp => by have := h2 p hp; omega, by simp only [wholeB]; rw [h1] at h3; simp at h3; omega⟩
theorem Cheapest_ok' (o : MOrd) (hz : szO o) : ACalls Try.prog 19 [.agg [.sl false false .U .no o.limits.length (eInts o.limits), .s (.int .i64 o.least), .s (.int .i64 o.most), .sl false false .U .no o.bins.length (eBins o.bins)]] [] (.ret (.tup [.sl false false .Z .no (cheapB o).length (eInts (cheapB o)), .s (.int .i64 (cheapC o)), .s (.int .i64 (cheapE o))]) [] []) :=
  Cheapest_ok o hz fun h => by
    have k := ordErr_ok h
    exact ⟨k.ne, fun b hb => ⟨(k.bin b hb).g.1, by have := (k.bin b hb).g.2; omega⟩, by have := k.nb; omega, by have := k.nl; omega, fun b hb => (k.bin b hb).len⟩
theorem prove74_ok' (o : MOrd) (pr : Int) (k : OkO o) : ACalls Try.prog 74 [.agg [.sl false false .U .no o.limits.length (eInts o.limits), .s (.int .i64 o.least), .s (.int .i64 o.most), .sl false false .U .no o.bins.length (eBins o.bins), .s (.int .i64 pr)]] [] (.ret (proveR o pr) [] []) :=
  prove74_ok o pr k.nb (by have := k.nl; omega) (fun b hb => (k.bin b hb).len) (whole_facts k).2.1 (whole_facts k).2.2 (whole_facts k).1
end Go.Ev
end

section
set_option linter.all false
open Go Go.Ev Go.Proofs
namespace Go.Ev
set_option linter.unusedSimpArgs false
set_option linter.unusedVariables false


def prvL (o : MOrd) (pr : Int) : List MBd := if priceErr o pr = 0 then (proveN o pr).getD [] else []
def prvE (o : MOrd) (pr : Int) : Int := if priceErr o pr = 0 then (if (proveN o pr).isSome = true then 0 else 13) else priceErr o pr
theorem priceErr_ord {o : MOrd} {p : Int} (h : priceErr o p = 0) : ordErr o = 0 := by
  unfold priceErr at h
  split at h
  · assumption
  · exact h

theorem Prove_ok (o : MOrd) (pr : Int) (hz : szO o) : ACalls Try.prog 39 [.agg [.sl false false .U .no o.limits.length (eInts o.limits), .s (.int .i64 o.least), .s (.int .i64 o.most), .sl false false .U .no o.bins.length (eBins o.bins)], .s (.int .i64 pr)] [] (.ret (.tup [.sl false false .U .no (prvL o pr).length (eBds (prvL o pr)), .s (.int .i64 (prvE o pr))]) [] []) := by
  refine acalls_of_ew Try.func39 rfl rfl (by simp [Try.f39]) (rs := [.tmp 4, .tmp 5]) rfl ?_
  refine EW.seq fun Ψ0 n0 x0 => ?_
  refine EW.region gs_nil ?_
  simp
  refine n0 _ ?_; clear n0 x0
  refine EW.seq fun Ψ1 n1 x1 => ?_
  refine EW.seq fun Ψ2 n2 x2 => ?_
  refine EW.region (gs_cons (checkPrice_ok o pr hz) gs_nil) ?_
  simp
  refine n2 _ ?_; clear n2 x2
  refine EW.seq fun Ψ3 n3 x3 => ?_
  refine EW.region gs_nil ?_
  simp
  refine n3 _ ?_; clear n3 x3
  refine EW.cond (t := _) (by rfl) (fun hc13 => ?_) (fun hc13 => ?_)
  · have g1 : ¬ priceErr o pr = 0 := by simpa using hc13
    have hv : prvL o pr = [] ∧ prvE o pr = priceErr o pr := by simp [prvL, prvE, g1]
    refine EW.seq fun Ψ4 n4 x4 => ?_
    refine EW.region gs_nil ?_
    simp
    refine n4 _ ?_; clear n4 x4
    refine EW.ret ?_
    refine x1 _ _ rfl ?_; clear n1 x1
    refine ⟨_, _, _, rfl, ?_, ?_, ?_, ?_, ?_⟩ <;> simp [hv]
  · have g1 : priceErr o pr = 0 := by simpa using hc13
    have hk := ordErr_ok (priceErr_ord g1)
    refine EW.skip ?_
    refine n1 _ ?_; clear n1 x1
    refine EW.seq fun Ψ5 n5 x5 => ?_
    rcases hN : proveN o pr with _ | lp
    · skip
      refine EW.region (gs_cons (prove74_ok' o pr hk) gs_nil) ?_
      simp [proveR, hN]
      refine n5 _ ?_; clear n5 x5
      refine EW.seq fun Ψ6 n6 x6 => ?_
      refine EW.seq fun Ψ7 n7 x7 => ?_
      refine EW.region gs_nil ?_
      simp
      refine n7 _ ?_; clear n7 x7
      refine EW.cond (t := _) (by rfl) (fun hc23 => ?_) (fun hc23 => ?_)
      · simp at hc23
        have hv : prvL o pr = [] ∧ prvE o pr = 13 := by simp [prvL, prvE, g1, hN]
        refine EW.seq fun Ψ8 n8 x8 => ?_
        refine EW.region gs_nil ?_
        simp
        refine n8 _ ?_; clear n8 x8
        refine EW.ret ?_
        refine x6 _ _ rfl ?_; clear n6 x6
        refine ⟨_, _, _, rfl, ?_, ?_, ?_, ?_, ?_⟩ <;> simp [hv]
      · simp at hc23
    · skip
      refine EW.region (gs_cons (prove74_ok' o pr hk) gs_nil) ?_
      simp [proveR, hN]
      refine n5 _ ?_; clear n5 x5
      refine EW.seq fun Ψ9 n9 x9 => ?_
      refine EW.seq fun Ψ10 n10 x10 => ?_
      refine EW.region gs_nil ?_
      simp
      refine n10 _ ?_; clear n10 x10
      refine EW.cond (t := _) (by rfl) (fun hc23 => ?_) (fun hc23 => ?_)
      · simp at hc23
      · simp at hc23
        have hv : prvL o pr = lp ∧ prvE o pr = 0 := by simp [prvL, prvE, g1, hN]
        refine EW.skip ?_
        refine n9 _ ?_; clear n9 x9
        refine EW.seq fun Ψ11 n11 x11 => ?_
        refine EW.region gs_nil ?_
        simp
        refine n11 _ ?_; clear n11 x11
        refine EW.ret ?_
        refine ⟨_, _, _, rfl, ?_, ?_, ?_, ?_, ?_⟩ <;> simp [hv]

end Go.Ev
end

section
set_option linter.all false
open Go Go.Ev Go.Proofs
namespace Go.Ev
set_option linter.unusedSimpArgs false
set_option linter.unusedVariables false


def ordC : MOrd := ⟨[400, 100], 10000, 12000, [⟨[(300, 350), (50, 60)], 2000, 50, 4⟩, ⟨[(500, 600), (0, 20)], 2000, 30, 4⟩, ⟨[(100, 100), (200, 300)], 1000, 20, 3⟩]⟩
def plC (n : Int) : MOrd := ⟨[], n, n, [⟨[], 1, 5, 4⟩]⟩
theorem eBins_cons (b : MBin) (l : List MBin) : eBins (b :: l) = D.sl b.grams.length (eRngs b.grams) :: D.s (.int .i64 b.w) :: D.s (.int .i64 b.c) :: D.s (.int .i64 b.g) :: eBins l := rfl
theorem eRngs_cons (r : Int × Int) (l : List (Int × Int)) : eRngs (r :: l) = D.s (.int .i64 r.1) :: D.s (.int .i64 r.2) :: eRngs l := rfl
theorem szOrd : szO ordC := ⟨by simp [ordC], by simp [ordC], by intro b hb; simp [ordC] at hb; rcases hb with rfl | rfl | rfl <;> simp⟩
theorem szPl (n : Int) : szO (plC n) := ⟨by simp [plC], by simp [plC], by intro b hb; simp [plC] at hb; subst hb; simp⟩
set_option maxRecDepth 100000
theorem al1 : blendErr ordC [2, 3, 2] = 0 := by kernel_rfl
theorem al2 : keepV ordC [2, 3, 2] = 3 := by kernel_rfl
theorem al3 : cheapB ordC = [2, 2, 2] := by kernel_rfl
theorem al4 : cheapC ordC = 200 := by kernel_rfl
theorem al5 : cheapE ordC = 0 := by kernel_rfl
theorem al6 : prvL (plC 3) 15 = [⟨1, 0, 2⟩, ⟨2, 0, 0⟩, ⟨5, 0, 0⟩] := by kernel_rfl
theorem al7 : prvE (plC 3) 15 = 0 := by kernel_rfl

theorem to_ok (a b : Int) : ACalls Try.prog 79 [.s (.int .i64 a), .s (.int .i64 b)] [] (.ret (.agg [.s (.int .i64 a), .s (.int .i64 b)]) [] []) := by
  refine acalls_of_ew Try.func79 rfl rfl (by simp [Try.f79]) (rs := [.cell 4 47]) rfl ?_
  refine EW.seq fun Ψ0 n0 x0 => ?_
  refine EW.region gs_nil ?_
  simp
  refine n0 _ ?_; clear n0 x0
  refine EW.seq fun Ψ1 n1 x1 => ?_
  refine EW.region gs_nil ?_
  simp
  refine n1 _ ?_; clear n1 x1
  refine EW.ret ?_
  refine ⟨_, _, _, rfl, ?_, ?_, ?_, ?_, ?_⟩ <;> simp

theorem order_ok : ACalls Try.prog 46 [] [] (.ret (.agg [.sl true true .U .no ordC.limits.length (eInts ordC.limits), .s (.int .i64 ordC.least), .s (.int .i64 ordC.most), .sl true true .U .no ordC.bins.length (eBins ordC.bins)]) [] []) := by
  refine acalls_of_ew Try.func46 rfl rfl (by simp [Try.f46]) (rs := [.cell 0 25]) rfl ?_
  refine EW.seq fun Ψ0 n0 x0 => ?_
  refine EW.region gs_nil ?_
  simp
  refine n0 _ ?_; clear n0 x0
  refine EW.seq fun Ψ1 n1 x1 => ?_
  refine EW.region (gs_cons (to_ok 300 350) (gs_cons (to_ok 50 60) (gs_cons (to_ok 500 600) (gs_cons (to_ok 0 20) (gs_cons (to_ok 100 100) (gs_cons (to_ok 200 300) gs_nil)))))) ?_
  simp
  refine n1 _ ?_; clear n1 x1
  refine EW.ret ?_
  refine ⟨_, _, _, rfl, ?_, ?_, ?_, ?_, ?_⟩ <;> simp [ordC, eBins_cons, eRngs_cons]

theorem plainO_ok (n : Int) : ACalls Try.prog 47 [.s (.int .i64 n)] [] (.ret (.agg [.sl true true .U .no (plC n).limits.length (eInts (plC n).limits), .s (.int .i64 (plC n).least), .s (.int .i64 (plC n).most), .sl true true .U .no (plC n).bins.length (eBins (plC n).bins)]) [] []) := by
  refine acalls_of_ew Try.func47 rfl rfl (by simp [Try.f47]) (rs := [.cell 2 25]) rfl ?_
  refine EW.seq fun Ψ0 n0 x0 => ?_
  refine EW.region gs_nil ?_
  simp
  refine n0 _ ?_; clear n0 x0
  refine EW.seq fun Ψ1 n1 x1 => ?_
  refine EW.region gs_nil ?_
  simp
  refine n1 _ ?_; clear n1 x1
  refine EW.ret ?_
  refine ⟨_, _, _, rfl, ?_, ?_, ?_, ?_, ?_⟩ <;> simp [plC, eBins_cons, eRngs_cons]

theorem cutB_ok (a b : Int) : ACalls Try.prog 48 [.s (.int .i64 a), .s (.int .i64 b)] [] (.ret (.agg [.s (.int .i64 1), .s (.int .i64 a), .s (.int .i64 b)]) [] []) := by
  refine acalls_of_ew Try.func48 rfl rfl (by simp [Try.f48]) (rs := [.cell 4 64]) rfl ?_
  refine EW.seq fun Ψ0 n0 x0 => ?_
  refine EW.region gs_nil ?_
  simp
  refine n0 _ ?_; clear n0 x0
  refine EW.seq fun Ψ1 n1 x1 => ?_
  refine EW.region gs_nil ?_
  simp
  refine n1 _ ?_; clear n1 x1
  refine EW.ret ?_
  refine ⟨_, _, _, rfl, ?_, ?_, ?_, ?_, ?_⟩ <;> simp

theorem lightO_ok : ACalls Try.prog 49 [] [] (.ret (.agg [.s (.int .i64 2), .s (.int .i64 0), .s (.int .i64 0)]) [] []) := by
  refine acalls_of_ew Try.func49 rfl rfl (by simp [Try.f49]) (rs := [.cell 0 64]) rfl ?_
  refine EW.seq fun Ψ0 n0 x0 => ?_
  refine EW.region gs_nil ?_
  simp
  refine n0 _ ?_; clear n0 x0
  refine EW.seq fun Ψ1 n1 x1 => ?_
  refine EW.region gs_nil ?_
  simp
  refine n1 _ ?_; clear n1 x1
  refine EW.ret ?_
  refine ⟨_, _, _, rfl, ?_, ?_, ?_, ?_, ?_⟩ <;> simp

theorem dearO_ok : ACalls Try.prog 50 [] [] (.ret (.agg [.s (.int .i64 5), .s (.int .i64 0), .s (.int .i64 0)]) [] []) := by
  refine acalls_of_ew Try.func50 rfl rfl (by simp [Try.f50]) (rs := [.cell 0 64]) rfl ?_
  refine EW.seq fun Ψ0 n0 x0 => ?_
  refine EW.region gs_nil ?_
  simp
  refine n0 _ ?_; clear n0 x0
  refine EW.seq fun Ψ1 n1 x1 => ?_
  refine EW.region gs_nil ?_
  simp
  refine n1 _ ?_; clear n1 x1
  refine EW.ret ?_
  refine ⟨_, _, _, rfl, ?_, ?_, ?_, ?_, ?_⟩ <;> simp

theorem alive_ok : ACalls Try.prog 15 [] [] (.ret (.s (.bool true)) [] []) := by
  refine acalls_of_ew Try.func15 rfl rfl (by simp [Try.f15]) (rs := [.tmp 0]) rfl ?_
  refine EW.seq fun Ψ0 n0 x0 => ?_
  refine EW.region gs_nil ?_
  simp
  refine n0 _ ?_; clear n0 x0
  refine EW.seq fun Ψ1 n1 x1 => ?_
  refine EW.region (gs_cons order_ok (gs_cons (Keeps_ok ordC [2, 3, 2] szOrd (by simp)) gs_nil)) ?_
  simp [al1, al2]
  refine n1 _ ?_; clear n1 x1
  refine EW.seq fun Ψ2 n2 x2 => ?_
  refine EW.region (gs_cons order_ok (gs_cons (Cheapest_ok' ordC szOrd) gs_nil)) ?_
  simp [al3, al4, al5]
  refine n2 _ ?_; clear n2 x2
  refine EW.seq fun Ψ3 n3 x3 => ?_
  refine EW.region (gs_cons (plainO_ok 3) (gs_cons (Prove_ok (plC 3) 15 (szPl 3)) gs_nil)) ?_
  simp [al6, al7]
  refine n3 _ ?_; clear n3 x3
  refine EW.seq fun Ψ4 n4 x4 => ?_
  refine EW.region (gs_cons (eqInts_ok [2, 2, 2] [2, 2, 2] (by simp)) (gs_cons (cutB_ok 0 2) (gs_cons lightO_ok (gs_cons dearO_ok (gs_cons (eqBds_ok [⟨1, 0, 2⟩, ⟨2, 0, 0⟩, ⟨5, 0, 0⟩] [⟨1, 0, 2⟩, ⟨2, 0, 0⟩, ⟨5, 0, 0⟩] (by simp)) gs_nil))))) ?_
  simp
  refine n4 _ ?_; clear n4 x4
  refine EW.ret ?_
  refine ⟨_, _, _, rfl, ?_, ?_, ?_, ?_, ?_⟩ <;> simp

end Go.Ev
end
