/- Lemmas for the claims of this seat: an evaluator over abstract values, its soundness, and the contracts of the functions of melt that it walks; no premise beyond what each theorem states. -/
import Derived.Test.YtdcelpomnboeoaaLJ

section
set_option linter.all false
open Go Go.Ev Go.Proofs
namespace Go.Ev
set_option linter.unusedSimpArgs false
set_option linter.unusedVariables false


@[simp] theorem eLL_app (l m : List (List Int)) : eLL l ++ eLL m = eLL (l ++ m) := by simp [eLL]
def catN {α : Type} (f : Nat → List α) : Nat → Nat → List α
  | 0, _ => []
  | n + 1, k => f k ++ catN f n (k + 1)
/-- All blends that begin with some numbers. -/
def allB : List MBin → List Int → List (List Int)
  | [], l => [l]
  | b :: bs, l => catN (fun k => allB bs (l ++ [(k : Int)])) (b.g + 1).toNat 0
theorem catN_len {α : Type} (f : Nat → List α) (M : Nat) (h : ∀ k, (f k).length ≤ M) : ∀ n k, (catN f n k).length ≤ n * M
  | 0, _ => by simp [catN]
  | n + 1, k => by
    have a := h k
    have b := catN_len f M h n (k + 1)
    rw [catN, List.length_append, Nat.succ_mul]
    omega
theorem allB_len {N : Nat} : ∀ (bs : List MBin) (l : List Int), (∀ b ∈ bs, 0 ≤ b.g ∧ b.g ≤ 6) → (allB bs l).length ≤ 7 ^ bs.length
  | [], l, _ => by simp [allB]
  | b :: bs, l, h => by
    have hb := h b (by simp)
    have q := catN_len (fun k => allB bs (l ++ [(k : Int)])) (7 ^ bs.length) (fun k => allB_len (N := N) bs _ fun c hc => h c (by simp [hc])) (b.g + 1).toNat 0
    have q2 : (b.g + 1).toNat * 7 ^ bs.length ≤ 7 * 7 ^ bs.length := Nat.mul_le_mul_right _ (by omega)
    rw [allB, List.length_cons, Nat.pow_succ]
    omega
def abS (o : MOrd) (l : List Int) (p : Nat × List (List Int)) : St :=
  St.lit 37 [(1, .sl false false .U .no l.length (eInts l)), (2, .ptr (.own 2) 0), (5, .sl false false .Z (.tok 35) p.2.length (eLL p.2)), (6, .s (.int .i64 p.1))] [(2, aOrdC o)] [] [(35, (p.2.length, 1))]
attribute [simp] abS


theorem blends36_step (o : MOrd) (l : List Int) (b : MBin) (bs : List MBin) (hd : o.bins.drop l.length = b :: bs) (hbl : o.bins.length < 1000000) (hg : 0 ≤ b.g ∧ b.g ≤ 6) (hz : (allB (b :: bs) l).length < 1000000)
  (hr : ∀ k : Nat, ACalls Try.prog 36 [.agg [.sl false false .U .no o.limits.length (eInts o.limits), .s (.int .i64 o.least), .s (.int .i64 o.most), .sl false false .U .no o.bins.length (eBins o.bins)], .sl false false .U .no (l ++ [(k : Int)]).length (eInts (l ++ [(k : Int)]))] [] (.ret (.sl false false .Z .no (allB bs (l ++ [(k : Int)])).length (eLL (allB bs (l ++ [(k : Int)])))) [] [])) : ACalls Try.prog 36 [.agg [.sl false false .U .no o.limits.length (eInts o.limits), .s (.int .i64 o.least), .s (.int .i64 o.most), .sl false false .U .no o.bins.length (eBins o.bins)], .sl false false .U .no l.length (eInts l)] [] (.ret (.sl false false .Z .no (allB (b :: bs) l).length (eLL (allB (b :: bs) l))) [] []) := by
  have hlt : l.length < o.bins.length := by
    rcases Nat.lt_or_ge l.length o.bins.length with h | h
    · exact h
    · rw [List.drop_eq_nil_of_le h] at hd; cases hd
  have hb : o.bins[l.length] = b := by rw [List.drop_eq_getElem_cons hlt] at hd; exact (List.cons.inj hd).1
  have e1 : o.bins[l.length]? = some b := by rw [List.getElem?_eq_getElem hlt, hb]
  refine acalls_of_ew Try.func36 rfl rfl (by simp [Try.f36]) (rs := [.tmp 4]) rfl ?_
  refine EW.seq fun Ψ0 n0 x0 => ?_
  refine EW.region gs_nil ?_
  simp
  refine n0 _ ?_; clear n0 x0
  refine EW.seq fun Ψ1 n1 x1 => ?_
  refine EW.seq fun Ψ2 n2 x2 => ?_
  refine EW.region gs_nil ?_
  simp
  refine n2 _ ?_; clear n2 x2
  refine EW.cond (t := _) (by rfl) (fun hc12 => ?_) (fun hc12 => ?_)
  · simp at hc12; omega
  · clear hc12
    refine EW.skip ?_
    refine n1 _ ?_; clear n1 x1
    refine EW.seq fun Ψ3 n3 x3 => ?_
    refine EW.region gs_nil ?_
    simp
    refine n3 _ ?_; clear n3 x3
    refine EW.seq fun Ψ4 n4 x4 => ?_
    refine EW.seq fun Ψ5 n5 x5 => ?_
    refine EW.region gs_nil ?_
    simp
    refine n5 _ ?_; clear n5 x5
    refine EW.block ?_
    refine EW.loopA (abS o l) (fun p => (p.1 : Int) ≤ b.g + 1 ∧ p.2 ++ catN (fun k => allB bs (l ++ [(k : Int)])) ((b.g + 1).toNat - p.1) p.1 = allB (b :: bs) l) (fun p => (b.g + 1).toNat - p.1) (0, []) (St.le_lit rfl (by simp) (by simp) (by simp) (by simp) (by simp)) ?_ fun p hk => ?_
    · exact ⟨by simp; omega, by simp [allB]⟩
    obtain ⟨k, A⟩ := p
    obtain ⟨hk, hw⟩ := hk
    simp only at hk hw
    refine EW.seq fun Ψ6 n6 x6 => ?_
    refine EW.seq fun Ψ7 n7 x7 => ?_
    refine EW.region gs_nil ?_
    simp [hlt, e1]
    refine n7 _ ?_; clear n7 x7
    refine EW.cond (t := _) (by rfl) (fun hc23 => ?_) (fun hc23 => ?_)
    · simp at hc23
      rw [hb] at hc23
      have hs : (b.g + 1).toNat - k = ((b.g + 1).toNat - (k + 1)) + 1 := by omega
      have hw2 : (A ++ allB bs (l ++ [(k : Int)])) ++ catN (fun k => allB bs (l ++ [(k : Int)])) ((b.g + 1).toNat - (k + 1)) (k + 1) = allB (b :: bs) l := by rw [← hw, hs, catN, List.append_assoc]
      have hsz : A.length + (allB bs (l ++ [(k : Int)])).length < 1000000 := by have := congrArg List.length hw2; simp at this; omega
      refine EW.skip ?_
      refine n6 _ ?_; clear n6 x6
      refine EW.seq fun Ψ8 n8 x8 => ?_
      refine EW.block ?_
      refine EW.hide fun Ψ9 n9 => ?_
      refine EW.drawn [(1, 4), (1, 7)] mixed (gs_cons (hr k) gs_nil) (by kernel_rfl) ?_
      simp [hlt, show (l.length + 1) * 8 ≤ 140737488355328 by omega, show l.length * 8 ≤ 140737488355328 by omega, show (A.length + (allB bs (l ++ [(k : Int)])).length) * 24 ≤ 140737488355328 by omega]
      refine n9 _ _ ?_; clear n9
      refine n8 _ ?_; clear n8 x8
      refine EW.hide fun Ψ10 n10 => ?_
      refine EW.region gs_nil ?_
      simp
      refine n10 _ _ ?_; clear n10
      have e3 : IntKind.i64.wrap ((k : Int) + 1) = k + 1 := wr_small (by omega) (by omega)
      refine ⟨(k + 1, A ++ allB bs (l ++ [(k : Int)])), (St.le_lit rfl (by simp [e3]) (by simp) (by simp) (by simp) (by simp)), ?_, ?_⟩
      · exact ⟨by omega, hw2⟩
      · simp; omega
    · simp at hc23
      rw [hb] at hc23
      have hv : A = allB (b :: bs) l := by rw [← hw, show (b.g + 1).toNat - k = 0 by omega]; simp [catN]
      refine EW.exit ?_
      refine x6 _ _ rfl ?_; clear n6 x6
      refine n4 _ ?_; clear n4 x4
      refine EW.seq fun Ψ11 n11 x11 => ?_
      refine EW.region gs_nil ?_
      simp
      refine n11 _ ?_; clear n11 x11
      refine EW.ret ?_
      refine ⟨_, _, _, rfl, ?_, ?_, ?_, ?_, ?_⟩ <;> simp [hv]


theorem blends36_nil (o : MOrd) (l : List Int) (h : l.length = o.bins.length) : ACalls Try.prog 36 [.agg [.sl false false .U .no o.limits.length (eInts o.limits), .s (.int .i64 o.least), .s (.int .i64 o.most), .sl false false .U .no o.bins.length (eBins o.bins)], .sl false false .U .no l.length (eInts l)] [] (.ret (.sl false false .Z .no (allB [] l).length (eLL (allB [] l))) [] []) := by
  refine acalls_of_ew Try.func36 rfl rfl (by simp [Try.f36]) (rs := [.tmp 4]) rfl ?_
  refine EW.seq fun Ψ0 n0 x0 => ?_
  refine EW.region gs_nil ?_
  simp
  refine n0 _ ?_; clear n0 x0
  refine EW.seq fun Ψ1 n1 x1 => ?_
  refine EW.seq fun Ψ2 n2 x2 => ?_
  refine EW.region gs_nil ?_
  simp
  refine n2 _ ?_; clear n2 x2
  refine EW.cond (t := _) (by rfl) (fun hc12 => ?_) (fun hc12 => ?_)
  · clear hc12
    refine EW.seq fun Ψ3 n3 x3 => ?_
    refine EW.region gs_nil ?_
    simp
    refine n3 _ ?_; clear n3 x3
    refine EW.ret ?_
    refine x1 _ _ rfl ?_; clear n1 x1
    refine ⟨_, _, _, rfl, ?_, ?_, ?_, ?_, ?_⟩ <;> simp [allB, eLL]
  · simp [h] at hc12
theorem blends36_ok (o : MOrd) (hbl : o.bins.length ≤ 4) (hg : ∀ b ∈ o.bins, 0 ≤ b.g ∧ b.g ≤ 6) : ∀ (bs : List MBin) (l : List Int), o.bins.drop l.length = bs → l.length + bs.length = o.bins.length → ACalls Try.prog 36 [.agg [.sl false false .U .no o.limits.length (eInts o.limits), .s (.int .i64 o.least), .s (.int .i64 o.most), .sl false false .U .no o.bins.length (eBins o.bins)], .sl false false .U .no l.length (eInts l)] [] (.ret (.sl false false .Z .no (allB bs l).length (eLL (allB bs l))) [] [])
  | [], l, hd, hl => blends36_nil o l (by simpa using hl)
  | b :: bs, l, hd, hl => by
    have hlt : l.length < o.bins.length := by simp at hl; omega
    have hd2 := hd
    rw [List.drop_eq_getElem_cons hlt] at hd2
    obtain ⟨e1, e2⟩ := List.cons.inj hd2
    have hb : ∀ c ∈ b :: bs, 0 ≤ c.g ∧ c.g ≤ 6 := fun c hc => hg c (List.mem_of_mem_drop (by rw [hd]; exact hc))
    have hz : (allB (b :: bs) l).length < 1000000 := by
      have q := allB_len (N := 0) (b :: bs) l hb
      have q2 : 7 ^ (b :: bs).length ≤ 7 ^ 4 := Nat.pow_le_pow_right (by decide) (by omega)
      omega
    refine blends36_step o l b bs hd (by omega) (hb b (by simp)) hz fun k => blends36_ok o hbl hg bs (l ++ [(k : Int)]) (by simpa using e2) (by simp at hl ⊢; omega)

end Go.Ev
end

section
set_option linter.all false
open Go Go.Ev Go.Proofs
namespace Go.Ev
set_option linter.unusedSimpArgs false
set_option linter.unusedVariables false


abbrev nW (o : MOrd) (x : List Int) : Int := (weighL o.bins x 0 0 0).1
abbrev cW (o : MOrd) (x : List Int) : Int := (weighL o.bins x 0 0 0).2
def goodB (o : MOrd) (x : List Int) : Bool := decide (o.least ≤ nW o x ∧ nW o x ≤ o.most ∧ keepV o x = 1)
def befB (e : Int) (best : List Int) (l : List (List Int)) : Bool := !decide (e = 0 ∧ best ∈ l)
theorem three (p q : Prop) [Decidable p] [Decidable q] : ¬ p ∨ (p ∧ ¬ q) ∨ (p ∧ q) := by by_cases p <;> by_cases q <;> simp [*]
def beE (o : MOrd) (best : List Int) (cost e : Int) (all : List (List Int)) (bf : Bool) (i : Nat) (r : List (Nat × AV)) : List (Nat × AV) :=
  (4, .ptr (.own 4) 0) :: (5, .sl false false .U .no best.length (eInts best)) :: (6, .s (.int .i64 cost)) :: (7, .s (.int .i64 e)) :: (8, .sl false false .U .no all.length (eLL all)) :: (9, .s (.bool bf)) :: (10, .s (.int .i64 i)) :: r
def beS0 (o : MOrd) (best : List Int) (cost e : Int) (all : List (List Int)) (p : Nat × Bool) : St := St.lit 139 (beE o best cost e all p.2 p.1 []) [(4, aOrdC o)] [] []
def beS1 (o : MOrd) (best : List Int) (cost e : Int) (all : List (List Int)) (bf : Bool) (i : Nat) (n c v : Int) (sm : Bool) : St :=
  St.lit 139 (beE o best cost e all bf i [(11, .s (.int .i64 n)), (12, .s (.int .i64 c)), (14, .s (.int .i64 v)), (16, .s (.bool sm))]) [(4, aOrdC o)] [] []
def beS2 (o : MOrd) (best : List Int) (cost e : Int) (all : List (List Int)) (bf : Bool) (i : Nat) (c : Int) (sm gd : Bool) : St :=
  St.lit 139 (beE o best cost e all bf i [(12, .s (.int .i64 c)), (16, .s (.bool sm)), (17, .s (.bool gd))]) [(4, aOrdC o)] [] []
def beS3 (o : MOrd) (best : List Int) (cost e : Int) (all : List (List Int)) (bf : Bool) (i : Nat) (sm : Bool) (b : Bool) : St :=
  St.lit 139 (beE o best cost e all bf i [(16, .s (.bool sm)), (118, .s (.bool b))]) [(4, aOrdC o)] [] []
attribute [simp] beE beS0 beS1 beS2 beS3
theorem bestD {o : MOrd} {best : List Int} {cost e : Int} {all : List (List Int)} (H1 : ∀ x ∈ all, e = 0 → x = best → goodB o x = true ∧ cW o x = cost)
    (H2 : ∀ (i : Nat) (h : i < all.length), goodB o all[i] = true → e = 0 ∧ ¬ cW o all[i] < cost ∧ (cW o all[i] = cost → all[i] = best ∨ best ∈ all.take i)) (i : Nat) (h : i < all.length) (sm gd bf : Bool)
    (hs : sm = decide (e = 0 ∧ all[i] = best)) (hg : gd = goodB o all[i]) (hb : bf = befB e best (all.take i)) :
    (sm = true ∧ gd = true ∧ cW o all[i] = cost ∧ e = 0) ∨ (sm = false ∧ gd = false) ∨ (sm = false ∧ gd = true ∧ e = 0 ∧ cW o all[i] ≠ cost ∧ ¬ cW o all[i] < cost) ∨ (sm = false ∧ gd = true ∧ e = 0 ∧ cW o all[i] = cost ∧ bf = false) := by
  cases sm with
  | true =>
    obtain ⟨a, b⟩ := of_decide_eq_true hs.symm
    obtain ⟨c, d⟩ := H1 _ (List.getElem_mem h) a b
    exact Or.inl ⟨rfl, hg.trans c, d, a⟩
  | false =>
    cases gd with
    | false => exact Or.inr (Or.inl ⟨rfl, rfl⟩)
    | true =>
      obtain ⟨a, b, c⟩ := H2 i h hg.symm
      have hne : ¬ all[i] = best := fun x => of_decide_eq_false hs.symm ⟨a, x⟩
      by_cases hc : cW o all[i] = cost
      · refine Or.inr (Or.inr (Or.inr ⟨rfl, rfl, a, hc, ?_⟩))
        rcases c hc with c | c
        · exact absurd c hne
        · rw [hb, befB, decide_eq_true ⟨a, c⟩]; rfl
      · exact Or.inr (Or.inr (Or.inl ⟨rfl, rfl, a, hc, b⟩))
theorem befB_succ {e : Int} {best : List Int} {all : List (List Int)} (i : Nat) (h : i < all.length) (sm bf : Bool) (hs : sm = decide (e = 0 ∧ all[i] = best)) (hb : bf = befB e best (all.take i)) : befB e best (all.take (i + 1)) = (bf && !sm) := by
  have hmem : best ∈ all.take (i + 1) ↔ best ∈ all.take i ∨ best = all[i] := by
    rw [List.take_add_one, List.getElem?_eq_getElem h, List.mem_append]
    exact or_congr Iff.rfl List.mem_singleton
  have hq : (best = all[i]) ↔ (all[i] = best) := ⟨Eq.symm, Eq.symm⟩
  rw [hb, hs, befB, befB]
  by_cases he : e = 0 <;> by_cases hm : best ∈ all.take i <;> by_cases hx : all[i] = best <;> simp [he, hm, hx, hq, hmem]

set_option maxHeartbeats 4000000 in
theorem best_ok (nums : List Int) (hl : (nums.length : Int) < 9223372036854775807) (o : MOrd) (best : List Int) (cost e : Int) (all : List (List Int)) (ho : o = ordOf 3 2 4 (feedS nums)) (k : OkO o) (h1 : best = cheapB o) (h2 : cost = cheapC o) (h3 : e = cheapE o) (h4 : all = allB o.bins [])
  (he : e = 0 ∨ e = 13) (hx : ∀ x ∈ all, blendErr o x = 0 ∧ x.length ≤ 4) (ha : all.length < 1000000)
  (H1 : ∀ x ∈ all, e = 0 → x = best → goodB o x = true ∧ cW o x = cost)
  (H2 : ∀ (i : Nat) (h : i < all.length), goodB o all[i] = true → e = 0 ∧ ¬ cW o all[i] < cost ∧ (cW o all[i] = cost → all[i] = best ∨ best ∈ all.take i))
  (H3 : e = 0 → best ∈ all) : ACalls Try.prog 9 [.sl false false .U .no nums.length (eInts nums)] [] (.ret (.s (.bool true)) [] []) := by
  have c1 := orderOf_ok 3 2 4 (feedS nums) (by decide) (by decide)
  rw [← ho] at c1
  have c2 := Cheapest_ok' o k.sz
  rw [← h1, ← h2, ← h3] at c2
  have c3 := blends36_ok o k.nb (fun b hb => (k.bin b hb).g) o.bins [] rfl (by simp)
  rw [← h4] at c3
  simp only [List.length_nil, eInts_nil] at c3
  refine acalls_of_ew Try.func9 rfl rfl (by simp [Try.f9]) (rs := [.tmp 2]) rfl ?_
  refine EW.seq fun Ψ0 n0 x0 => ?_
  refine EW.region gs_nil ?_
  simp
  refine n0 _ ?_; clear n0 x0
  refine EW.seq fun Ψ1 n1 x1 => ?_
  refine EW.region (gs_cons (feedOf_ok nums hl) gs_nil) ?_
  simp
  refine n1 _ ?_; clear n1 x1
  refine EW.seq fun Ψ2 n2 x2 => ?_
  refine EW.region (gs_cons c1 gs_nil) ?_
  simp
  refine n2 _ ?_; clear n2 x2
  refine EW.seq fun Ψ3 n3 x3 => ?_
  refine EW.region (gs_cons c2 gs_nil) ?_
  simp
  refine n3 _ ?_; clear n3 x3
  refine EW.seq fun Ψ4 n4 x4 => ?_
  refine EW.region (gs_cons c3 gs_nil) ?_
  simp
  refine n4 _ ?_; clear n4 x4
  refine EW.seq fun Ψ5 n5 x5 => ?_
  refine EW.region gs_nil ?_
  simp
  refine n5 _ ?_; clear n5 x5
  refine EW.seq fun Ψ6 n6 x6 => ?_
  refine EW.seq fun Ψ7 n7 x7 => ?_
  refine EW.region gs_nil ?_
  simp
  refine n7 _ ?_; clear n7 x7
  refine EW.block ?_
  refine EW.loopA (beS0 o best cost e all) (fun p => p.1 ≤ all.length ∧ p.2 = befB e best (all.take p.1)) (fun p => all.length - p.1) (0, true) (St.le_lit rfl (by simp) (by simp) (by simp) (by simp) (by simp)) ?_ fun p hk => ?_
  · simp [befB]
  obtain ⟨i, bf⟩ := p
  obtain ⟨hk, hbf⟩ := hk
  simp only at hk hbf
  refine EW.seq fun Ψ8 n8 x8 => ?_
  refine EW.seq fun Ψ9 n9 x9 => ?_
  refine EW.region gs_nil ?_
  simp
  refine n9 _ ?_; clear n9 x9
  refine EW.cond (t := _) (by rfl) (fun hc33 => ?_) (fun hc33 => ?_)
  · simp at hc33
    have e1 : all[i]? = some all[i] := List.getElem?_eq_getElem hc33
    obtain ⟨x0, x4⟩ := hx _ (List.getElem_mem hc33)
    refine EW.skip ?_
    refine n8 _ ?_; clear n8 x8
    refine EW.seq fun Ψ10 n10 x10 => ?_
    refine EW.block ?_
    refine EW.seq fun Ψ11 n11 x11 => ?_
    refine EW.drawn [] mixed (gs_cons (Weigh_ok o all[i] k.sz (by omega)) gs_nil) (by kernel_rfl) ?_
    simp [hc33, e1, x0]
    refine n11 _ ?_; clear n11 x11
    refine EW.seq fun Ψ12 n12 x12 => ?_
    refine EW.drawn [] mixed (gs_cons (Keeps_ok o all[i] k.sz (by omega)) gs_nil) (by kernel_rfl) ?_
    simp [hc33, e1, x0]
    refine n12 _ ?_; clear n12 x12
    refine EW.seq fun Ψ13 n13 x13 => ?_
    refine EW.seq fun Ψ14 n14 x14 => ?_
    refine EW.region gs_nil ?_
    simp
    refine n14 _ ?_; clear n14 x14
    refine EW.cond (t := _) (by rfl) (fun hc60 => ?_) (fun hc60 => ?_)
    · simp at hc60
    · clear hc60
      refine EW.skip ?_
      refine n13 _ ?_; clear n13 x13
      refine EW.seqJ (beS1 o best cost e all bf i (nW o all[i]) (cW o all[i]) (keepV o all[i])) (fun sm => sm = decide (e = 0 ∧ all[i] = best)) (fun p hp => ?_) ?_
      rotate_left
      · skip
        refine EW.hide fun Ψ n => ?_
        refine EW.region (gs_cons (eqInts_ok all[i] best (by have := (hx _ (List.getElem_mem hc33)).2; omega)) gs_nil) ?_
        rcases he with he | he
        · simp [he, hc33, e1]
          exact n _ _ ⟨decide (all[i] = best), by simp [he], St.le_lit rfl (by simp [he, hc33]) (by simp) (by simp) (by simp) (by simp)⟩
        · simp [he]
          exact n _ _ ⟨false, by simp [he], St.le_lit rfl (by simp [he]) (by simp) (by simp) (by simp) (by simp)⟩
      obtain ⟨sm, hsm⟩ : ∃ sm, sm = p := ⟨p, rfl⟩
      rw [← hsm] at hp ⊢
      clear hsm p
      have hsame := hp
      clear hp
      have hbf2 := befB_succ i hc33 sm bf hsame hbf
      refine EW.seqJ (beS2 o best cost e all bf i (cW o all[i]) sm) (fun gd => gd = goodB o all[i]) (fun p hp => ?_) ?_
      rotate_left
      · skip
        refine EW.hide fun Ψ n => ?_
        refine EW.region gs_nil ?_
        rcases three (o.least ≤ nW o all[i]) (nW o all[i] ≤ o.most) with q | ⟨q, q2⟩ | ⟨q, q2⟩
        · simp [q]
          exact n _ _ ⟨false, by simp [goodB, q], St.le_lit rfl (by simp) (by simp) (by simp) (by simp) (by simp)⟩
        · simp [q, q2]
          exact n _ _ ⟨false, by simp [goodB, q2], St.le_lit rfl (by simp) (by simp) (by simp) (by simp) (by simp)⟩
        · simp [q, q2]
          exact n _ _ ⟨decide (keepV o all[i] = 1), by simp [goodB, q, q2], St.le_lit rfl (by simp) (by simp) (by simp) (by simp) (by simp)⟩
      obtain ⟨gd, hgd⟩ : ∃ gd, gd = p := ⟨p, rfl⟩
      have hgood : gd = goodB o all[i] := by rw [hgd]; assumption
      rw [← hgd]
      have D : (sm = true ∧ gd = true ∧ cW o all[i] = cost ∧ e = 0) ∨ (sm = false ∧ gd = false) ∨ (sm = false ∧ gd = true ∧ e = 0 ∧ cW o all[i] ≠ cost ∧ ¬ cW o all[i] < cost) ∨ (sm = false ∧ gd = true ∧ e = 0 ∧ cW o all[i] = cost ∧ bf = false) := bestD H1 H2 i hc33 sm gd bf hsame hgood hbf
      clear hgd
      refine EW.seq fun Ψ17 n17 x17 => ?_
      refine EW.seqJ (beS3 o best cost e all bf i sm) (fun b => b = false) (fun p hp => ?_) ?_
      rotate_left
      · skip
        refine EW.hide fun Ψ n => ?_
        refine EW.region gs_nil ?_
        rcases D with ⟨a1, a2, a3, a4⟩ | ⟨a1, a2⟩ | ⟨a1, a2, a3, a4, a5⟩ | ⟨a1, a2, a3, a4, a5⟩
        · cases bf
          · simp [a1, a2, a3, a4]
            exact n _ _ ⟨false, rfl, St.le_lit rfl (by simp [a1, a4]) (by simp) (by simp) (by simp) (by simp)⟩
          · simp [a1, a2, a3, a4]
            exact n _ _ ⟨false, rfl, St.le_lit rfl (by simp [a1, a4]) (by simp) (by simp) (by simp) (by simp)⟩
        · simp [a1, a2]
          exact n _ _ ⟨false, rfl, St.le_lit rfl (by simp [a1]) (by simp) (by simp) (by simp) (by simp)⟩
        · simp [a1, a2, a3, a4, a5]
          exact n _ _ ⟨false, rfl, St.le_lit rfl (by simp [a1, a3]) (by simp) (by simp) (by simp) (by simp)⟩
        · simp [a1, a2, a3, a4, a5]
          exact n _ _ ⟨false, rfl, St.le_lit rfl (by simp [a1, a3, a4, a5]) (by simp) (by simp) (by simp) (by simp)⟩
      obtain rfl := hp
      refine EW.cond (t := _) (by rfl) (fun hc118 => ?_) (fun hc118 => ?_)
      · simp at hc118
      · clear hc118
        refine EW.skip ?_
        refine n17 _ ?_; clear n17 x17
        refine EW.hide fun Ψ19 n19 => ?_
        cases bf
        · skip
          refine EW.region gs_nil ?_
          simp
          refine n19 _ _ ?_; clear n19
          refine n10 _ ?_; clear n10 x10
          refine EW.hide fun Ψ20 n20 => ?_
          refine EW.region gs_nil ?_
          simp
          refine n20 _ _ ?_; clear n20
          have e3 : IntKind.i64.wrap ((i : Int) + 1) = i + 1 := wr_small (by omega) (by omega)
          refine ⟨(i + 1, befB e best (all.take (i + 1))), (St.le_lit rfl (by simp [e3, hbf2]) (by simp) (by simp) (by simp) (by simp)), ?_, ?_⟩
          · exact ⟨by simp; omega, rfl⟩
          · simp; omega
        · skip
          refine EW.region gs_nil ?_
          simp
          refine n19 _ _ ?_; clear n19
          refine n10 _ ?_; clear n10 x10
          refine EW.hide fun Ψ21 n21 => ?_
          refine EW.region gs_nil ?_
          simp
          refine n21 _ _ ?_; clear n21
          have e3 : IntKind.i64.wrap ((i : Int) + 1) = i + 1 := wr_small (by omega) (by omega)
          refine ⟨(i + 1, befB e best (all.take (i + 1))), (St.le_lit rfl (by simp [e3, hbf2]) (by simp) (by simp) (by simp) (by simp)), ?_, ?_⟩
          · exact ⟨by simp; omega, rfl⟩
          · simp; omega
  · simp at hc33
    have hkl : i = all.length := by omega
    rw [hkl, List.take_length] at hbf
    refine EW.exit ?_
    refine x8 _ _ rfl ?_; clear n8 x8
    refine n6 _ ?_; clear n6 x6
    refine EW.seq fun Ψ22 n22 x22 => ?_
    rcases he with he | he
    · skip
      have hb3 : bf = false := by rw [hbf]; simp [befB, he, H3 he]
      refine EW.region (gs_cons alive_ok gs_nil) ?_
      simp [he, hb3]
      refine n22 _ ?_; clear n22 x22
      refine EW.ret ?_
      refine ⟨_, _, _, rfl, ?_, ?_, ?_, ?_, ?_⟩ <;> simp
    · skip
      have hb3 : bf = true := by rw [hbf]; simp [befB, he]
      refine EW.region (gs_cons alive_ok gs_nil) ?_
      simp [he, hb3]
      refine n22 _ ?_; clear n22 x22
      refine EW.ret ?_
      refine ⟨_, _, _, rfl, ?_, ?_, ?_, ?_, ?_⟩ <;> simp

end Go.Ev
end

section
set_option linter.all false
open Go Go.Ev Go.Proofs
namespace Go.Ev
set_option linter.unusedSimpArgs false
set_option linter.unusedVariables false

/-! ### The cheapest of all blends -/
theorem rep_catN {α σ : Type} (next : σ → α → σ) (g : Nat → List α) (f : Nat → σ → σ) (h : ∀ k s, f k s = (g k).foldl next s) : ∀ n k s, rep f n k s = (catN g n k).foldl next s
  | 0, _, _ => rfl
  | n + 1, k, s => by rw [rep, catN, List.foldl_append, ← h, rep_catN next g f h n (k + 1)]
theorem bFold_all {σ : Type} (next : σ → List Int → σ) : ∀ (bs : List MBin) (l : List Int) (s : σ), bFold next bs l s = (allB bs l).foldl next s
  | [], _, _ => rfl
  | b :: bs, l, s => by
    rw [bFold, allB]
    exact rep_catN next _ _ (fun k s => bFold_all next bs (l ++ [(k : Int)]) s) _ _ _
def okR : List MBin → List Int → Prop
  | b :: bs, n :: r => (0 ≤ n ∧ n ≤ b.g) ∧ okR bs r
  | [], [] => True
  | _, _ => False
theorem okR.len : ∀ {bs : List MBin} {r : List Int}, okR bs r → r.length = bs.length
  | [], [], _ => rfl
  | _ :: _, _ :: _, h => by simp [okR.len h.2]
  | [], _ :: _, h => h.elim
  | _ :: _, [], h => h.elim
theorem okR.get : ∀ {bs : List MBin} {r : List Int}, okR bs r → ∀ (i : Nat) (h : i < bs.length) (h' : i < r.length), 0 ≤ r[i] ∧ r[i] ≤ bs[i].g
  | [], [], _, i, h, _ => by simp at h
  | _ :: _, _ :: _, h, 0, _, _ => h.1
  | _ :: _, _ :: _, h, i + 1, h1, h2 => okR.get h.2 i (by simpa using h1) (by simpa using h2)
  | [], _ :: _, h, _, _, _ => h.elim
  | _ :: _, [], h, _, _, _ => h.elim
theorem catN_mem {α : Type} (f : Nat → List α) (x : α) : ∀ n k, x ∈ catN f n k → ∃ j, k ≤ j ∧ j < k + n ∧ x ∈ f j
  | 0, _, h => by cases h
  | n + 1, k, h => by
    rw [catN, List.mem_append] at h
    rcases h with h | h
    · exact ⟨k, by omega, by omega, h⟩
    · obtain ⟨j, h1, h2, h3⟩ := catN_mem f x n (k + 1) h
      exact ⟨j, by omega, by omega, h3⟩
theorem allB_mem : ∀ (bs : List MBin) (l x : List Int), x ∈ allB bs l → ∃ r, x = l ++ r ∧ okR bs r
  | [], l, x, h => ⟨[], by simpa [allB] using h, trivial⟩
  | b :: bs, l, x, h => by
    obtain ⟨j, h1, h2, h3⟩ := catN_mem _ x _ _ h
    obtain ⟨r, h4, h5⟩ := allB_mem bs _ x h3
    exact ⟨(j : Int) :: r, by rw [h4, List.append_assoc]; rfl, ⟨by omega, by omega⟩, h5⟩
theorem all_ok {o : MOrd} {x : List Int} (h : x ∈ allB o.bins []) : okBl o x := by
  obtain ⟨r, rfl, hr⟩ := allB_mem _ _ _ h
  exact ⟨hr.len, hr.get⟩
/-- What the first blends have shown. -/
def FS (o : MOrd) (L : List (List Int)) (s : List Int × Int) : Prop :=
  (s = ([], 0) ∧ ∀ x ∈ L, goodB o x = false) ∨
  (s.1 ∈ L ∧ goodB o s.1 = true ∧ s.2 = cW o s.1 ∧ ∀ (i : Nat) (h : i < L.length), goodB o L[i] = true → s.2 ≤ cW o L[i] ∧ (cW o L[i] = s.2 → L[i] = s.1 ∨ s.1 ∈ L.take i))
theorem nextC_good (o : MOrd) (s : List Int × Int) (x : List Int) : nextC o s x = if goodB o x = true ∧ (s.1.length = 0 ∨ cW o x < s.2) then (x, cW o x) else s := by
  unfold nextC goodB
  by_cases h1 : o.least ≤ nW o x <;> by_cases h2 : nW o x ≤ o.most <;> by_cases h3 : keepV o x = 1 <;> by_cases h4 : s.1.length = 0 ∨ cW o x < s.2 <;> simp [inB, h1, h2, h3, h4]
theorem FS_step {o : MOrd} {L : List (List Int)} {s : List Int × Int} (h : FS o L s) (hL : ∀ x ∈ L, x.length ≠ 0) (x : List Int) : FS o (L ++ [x]) (nextC o s x) := by
  rw [nextC_good]
  have hget : ∀ (i : Nat) (h : i < (L ++ [x]).length), (i = L.length ∧ (L ++ [x])[i] = x) ∨ (∃ h' : i < L.length, (L ++ [x])[i] = L[i] ∧ (L ++ [x]).take i = L.take i) := by
    intro i hi
    simp at hi
    rcases Nat.lt_or_ge i L.length with h' | h'
    · exact Or.inr ⟨h', by simp [List.getElem_append, h'], by rw [List.take_append_of_le_length (by omega)]⟩
    · have : i = L.length := by omega
      subst this
      exact Or.inl ⟨rfl, by simp⟩
  split
  · rename_i hu
    refine Or.inr ⟨by simp, hu.1, rfl, fun i hi hg => ?_⟩
    rcases hget i hi with ⟨rfl, e⟩ | ⟨h', e, e2⟩
    · rw [e]; exact ⟨Int.le_refl _, fun _ => Or.inl rfl⟩
    · rw [e] at hg ⊢
      rcases h with ⟨_, hn⟩ | ⟨h1, h2, h3, h4⟩
      · rw [hn _ (List.getElem_mem h')] at hg; cases hg
      · have hc : cW o x < s.2 := by
          rcases hu.2 with hz | hz
          · exact absurd hz (hL _ h1)
          · exact hz
        have := (h4 i h' hg).1
        exact ⟨by omega, fun e => by omega⟩
  · rename_i hu
    rcases h with ⟨h1, hn⟩ | ⟨h1, h2, h3, h4⟩
    · refine Or.inl ⟨h1, fun y hy => ?_⟩
      rcases List.mem_append.1 hy with hy | hy
      · exact hn y hy
      · rw [List.mem_singleton.1 hy]
        cases hg : goodB o x with
        | false => rfl
        | true => exact absurd ⟨hg, Or.inl (by rw [h1]; rfl)⟩ hu
    · refine Or.inr ⟨by simp [h1], h2, h3, fun i hi hg => ?_⟩
      rcases hget i hi with ⟨rfl, e⟩ | ⟨h', e, e2⟩
      · rw [e] at hg ⊢
        refine ⟨?_, fun _ => Or.inr (by simpa using h1)⟩
        rcases Int.lt_or_le (cW o x) s.2 with hlt | hle
        · exact absurd ⟨hg, Or.inr hlt⟩ hu
        · exact hle
      · rw [e] at hg ⊢
        rw [e2]
        exact h4 i h' hg
theorem FS_all {o : MOrd} : ∀ (M L : List (List Int)) (s : List Int × Int), FS o L s → (∀ x ∈ L ++ M, x.length ≠ 0) → FS o (L ++ M) (M.foldl (nextC o) s)
  | [], L, s, h, _ => by simpa using h
  | x :: M, L, s, h, hL => by
    have := FS_all M (L ++ [x]) (nextC o s x) (FS_step h (fun y hy => hL y (by simp [hy])) x) (by simpa using hL)
    simpa using this
theorem cheap_FS {o : MOrd} (k : OkO o) : FS o (allB o.bins []) (cheapR o) := by
  have h := FS_all (o := o) (allB o.bins []) [] ([], 0) (Or.inl ⟨rfl, by simp⟩) fun x hx => by
    have e := (all_ok (o := o) (by simpa using hx)).1
    rw [e]
    intro h0
    exact k.ne (List.length_eq_zero_iff.1 h0)
  rw [cheapR, bFold_all]
  simpa using h
theorem MeltBest_ok (nums : List Int) (hl : (nums.length : Int) < 9223372036854775807) : ACalls Try.prog 9 [.sl false false .U .no nums.length (eInts nums)] [] (.ret (.s (.bool true)) [] []) := by
  have k := (made 3 2 4 (feedS nums) (by decide) (by decide) (by decide)).ok (by decide) (by decide) (by decide)
  generalize ho : ordOf 3 2 4 (feedS nums) = o at k
  have e0 := ordErr_0 k
  have F := cheap_FS k
  have hB : cheapB o = (cheapR o).1 := by rw [cheapB, if_pos e0]
  have hC : cheapC o = if (cheapR o).1.length = 0 then 0 else (cheapR o).2 := by rw [cheapC, if_pos e0]
  have hE : cheapE o = if (cheapR o).1.length = 0 then 13 else 0 := by rw [cheapE, if_pos e0]
  have ne : ∀ x ∈ allB o.bins [], x.length ≠ 0 := fun x hx h0 => k.ne (List.length_eq_zero_iff.1 ((all_ok hx).1 ▸ h0))
  refine best_ok nums hl o _ _ _ _ ho.symm k rfl rfl rfl rfl ?_ ?_ ?_ ?_ ?_ ?_
  · rw [hE]; split <;> simp
  · intro x hx
    have b := all_ok hx
    exact ⟨blendErr_0 k b, by rw [b.1]; exact k.nb⟩
  · have q := allB_len (N := 0) o.bins [] fun b hb => (k.bin b hb).g
    have q2 : 7 ^ o.bins.length ≤ 7 ^ 4 := Nat.pow_le_pow_right (by decide) k.nb
    omega
  · intro x hx he hxb
    rw [hE] at he
    have hn : ¬ (cheapR o).1.length = 0 := by intro h; rw [if_pos h] at he; cases he
    rcases F with ⟨h1, _⟩ | ⟨h1, h2, h3, h4⟩
    · rw [h1] at hn; exact absurd rfl hn
    · rw [hC, if_neg hn, hxb, hB]
      exact ⟨h2, h3.symm⟩
  · intro i hi hg
    rcases F with ⟨_, h2⟩ | ⟨h1, h2, h3, h4⟩
    · rw [h2 _ (List.getElem_mem hi)] at hg; cases hg
    · have hn := ne _ h1
      obtain ⟨a, b⟩ := h4 i hi hg
      rw [hE, if_neg hn, hC, if_neg hn, hB]
      exact ⟨rfl, by omega, b⟩
  · intro he
    rw [hE] at he
    have hn : ¬ (cheapR o).1.length = 0 := by intro h; rw [if_pos h] at he; cases he
    rcases F with ⟨h1, _⟩ | ⟨h1, h2, h3, h4⟩
    · rw [h1] at hn; exact absurd rfl hn
    · rw [hB]; exact h1
end Go.Ev
end
