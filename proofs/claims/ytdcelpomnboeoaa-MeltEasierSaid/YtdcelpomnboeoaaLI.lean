/- Lemmas for the claims of this seat: an evaluator over abstract values, its soundness, and the contracts of the functions of melt that it walks; no premise beyond what each theorem states. -/
import Derived.Test.YtdcelpomnboeoaaLG
import Derived.Test.YtdcelpomnboeoaaLH
import Derived.Test.YtdcelpomnboeoaaLB
import Derived.Test.YtdcelpomnboeoaaLA
import Derived.Test.YtdcelpomnboeoaaLC
import Derived.Test.YtdcelpomnboeoaaKE

section
set_option linter.all false
open Go Go.Ev Go.Proofs
namespace Go.Ev
set_option linter.unusedSimpArgs false
set_option linter.unusedVariables false

/-! ### What is made of numbers -/
theorem eit_mem (l : List Int) (x : Int) (h : l ≠ []) (h2 : (l.length : Int) < 9223372036854775807) : eitV l x ∈ l := by
  have hne : ¬ l.length = 0 := by cases l <;> simp_all
  have b1 := bel_ge l.length x (by omega)
  have b2 := bel_lt l.length x (by omega) (by omega)
  unfold eitV
  rw [if_neg hne, List.getD_eq_getElem?_getD, List.getElem?_eq_getElem (by omega)]
  exact List.getElem_mem _
theorem min_le (a b : Int) : minI a b ≤ a ∧ minI a b ≤ b ∧ (minI a b = a ∨ minI a b = b) := by
  unfold minI; split <;> omega
theorem rng_in (lo hi x : Int) (h : lo ≤ hi) (h1 : 0 ≤ lo) (h2 : hi ≤ 1000000) : lo ≤ rngA lo hi x ∧ rngA lo hi x ≤ rngB lo hi x ∧ rngB lo hi x ≤ hi := by
  have a := bet_in lo hi x h (by omega) (by omega)
  have e : rngA lo hi x = betV lo hi x := rfl
  rw [← e] at a
  have m := eit_mem (rngL lo hi x) (rngX3 lo hi x) (by simp [rngL]) (by simp [rngL])
  have c := bet_in (rngA lo hi x) hi (rngX2 lo hi x) a.2 (by omega) (by omega)
  have f1 := bel_ge 4 (rngX1 lo hi x) (by decide)
  have f2 := bel_lt 4 (rngX1 lo hi x) (by decide) (by decide)
  have d := min_le hi (wr (rngA lo hi x + belV 4 (rngX1 lo hi x)))
  rw [wr_small (by omega) (by omega)] at d
  refine ⟨a.1, ?_⟩
  show rngA lo hi x ≤ eitV _ _ ∧ eitV _ _ ≤ hi
  simp only [rngL, List.mem_cons, List.not_mem_nil, or_false] at m
  rcases m with m | m | m
  · rw [rngL, m]; exact ⟨Int.le_refl _, a.2⟩
  · rw [rngL, m, rngM, wr_small (by omega) (by omega)]; omega
  · rw [rngL, m]; exact c
theorem inV_in (a b x : Int) (h : a ≤ b) (h1 : -1000000000 ≤ a) (h2 : b ≤ 1000000000) : a ≤ inV a b x ∧ inV a b x ≤ b := by
  have m := eit_mem (inL a b x) (inX a b x) (by simp [inL]) (by simp [inL])
  have c1 := bet_in a b x h h1 h2
  have c2 := bet_in a b (betS a b x) h h1 h2
  show a ≤ eitV _ _ ∧ eitV _ _ ≤ b
  simp only [inL, List.mem_cons, List.not_mem_nil, or_false] at m
  rcases m with m | m | m | m
  · rw [inL, m]; omega
  · rw [inL, m]; omega
  · rw [inL, m]; exact c1
  · rw [inL, m]; exact c2

/-- A bin that the feed makes. -/
structure MkB (nl : Nat) (g : Int) (b : MBin) : Prop where
  len : b.grams.length = nl
  rng : ∀ r ∈ b.grams, 0 ≤ r.1 ∧ r.1 ≤ r.2 ∧ r.2 ≤ 600
  w : 1 ≤ b.w ∧ b.w ≤ 20
  c : 0 ≤ b.c ∧ b.c ≤ 49
  g : 0 ≤ b.g ∧ b.g ≤ g
theorem limL_in : ∀ (k : Nat) (x : Int), ∀ n ∈ limL k x, 20 ≤ n ∧ n ≤ 300
  | 0, x, n, h => by cases h
  | k + 1, x, n, h => by
    rcases List.mem_cons.1 h with rfl | h
    · exact bet_in 20 300 x (by decide) (by decide) (by decide)
    · exact limL_in k _ n h
theorem grmL_in : ∀ (l : List Int) (x : Int), (∀ n ∈ l, 20 ≤ n ∧ n ≤ 300) → ∀ r ∈ grmL l x, 0 ≤ r.1 ∧ r.1 ≤ r.2 ∧ r.2 ≤ 600
  | [], x, _, r, h => by cases h
  | n :: l, x, hl, r, h => by
    rcases List.mem_cons.1 h with rfl | h
    · have hn := hl n (by simp)
      have m := eit_mem (grE n) x (by simp [grE]) (by simp [grE])
      simp only [grE, List.mem_cons, List.not_mem_nil, or_false] at m
      rw [wr_small (by omega) (by omega)] at m
      have e : 0 ≤ eitV (grE n) x ∧ eitV (grE n) x ≤ 600 := by
        rw [grE, wr_small (by omega) (by omega)]
        rcases m with m | m <;> rw [m] <;> omega
      have q := rng_in 0 (eitV (grE n) x) (eitS (grE n) x) e.1 (by decide) (by omega)
      exact ⟨q.1, q.2.1, by show rngB _ _ _ ≤ _; omega⟩
    · exact grmL_in l _ (fun n hn => hl n (by simp [hn])) r h
theorem binOf_ok (ls : List Int) (g x : Int) (hg : 0 ≤ g ∧ g ≤ 1000) (hl : ∀ n ∈ ls, 20 ≤ n ∧ n ≤ 300) : MkB ls.length g (binOf ls g x) where
  len := by simp [binOf]
  rng := grmL_in ls _ hl
  w := by
    have b := bet_in 1 20 x (by decide) (by decide) (by decide)
    have m := eit_mem (wgL x) (betS 1 20 x) (by simp [wgL]) (by simp [wgL])
    simp only [wgL, List.mem_cons, List.not_mem_nil, or_false] at m
    show 1 ≤ eitV (wgL x) _ ∧ eitV (wgL x) _ ≤ 20
    rcases m with m | m | m <;> rw [wgL, m] <;> omega
  c := by
    have b1 := bel_ge 50 (binX1 x) (by decide)
    have b2 := bel_lt 50 (binX1 x) (by decide) (by decide)
    show 0 ≤ belV 50 _ ∧ belV 50 _ ≤ 49
    omega
  g := bet_in 0 g (binX2 x) hg.1 (by decide) (by omega)
theorem binsL_ok (ls : List Int) (g : Int) (hg : 0 ≤ g ∧ g ≤ 1000) (hl : ∀ n ∈ ls, 20 ≤ n ∧ n ≤ 300) : ∀ (k : Nat) (x : Int), ∀ b ∈ binsL ls g k x, MkB ls.length g b
  | 0, x, b, h => by cases h
  | k + 1, x, b, h => by
    rcases List.mem_cons.1 h with rfl | h
    · exact binOf_ok ls g x hg hl
    · exact binsL_ok ls g hg hl k _ b h
theorem sumW_in (nl : Nat) (g : Int) (hg : 0 ≤ g ∧ g ≤ 1000) : ∀ (l : List MBin) (a : Int), (∀ b ∈ l, MkB nl g b) → 0 ≤ a → a + l.length * 20000 < 1000000000 → a ≤ sumW l a ∧ sumW l a ≤ a + l.length * (20 * g)
  | [], a, _, ha, hs => by simp [sumW]
  | b :: l, a, h, ha, hs => by
    have k := h b (by simp)
    have w1 : 0 ≤ b.w * b.g := Int.mul_nonneg (by have := k.w; omega) k.g.1
    have w2 : b.w * b.g ≤ 20 * g := Int.mul_le_mul k.w.2 k.g.2 k.g.1 (by decide)
    simp only [List.length_cons] at hs ⊢
    rw [show ((l.length + 1 : Nat) : Int) = (l.length : Int) + 1 by omega] at hs ⊢
    rw [Int.add_mul] at hs ⊢
    have e1 : wr (b.w * b.g) = b.w * b.g := wr_small (by omega) (by omega)
    have e2 : wr (a + b.w * b.g) = a + b.w * b.g := wr_small (by omega) (by omega)
    have q := sumW_in nl g hg l (a + b.w * b.g) (fun c hc => h c (by simp [hc])) (by omega) (by omega)
    simp only [sumW]
    rw [e1, e2]
    omega
/-- An order that the feed makes. -/
structure MkO (b m g : Int) (o : MOrd) : Prop where
  nl : (o.limits.length : Int) ≤ m
  lim : ∀ n ∈ o.limits, 20 ≤ n ∧ n ≤ 300
  nb : 1 ≤ o.bins.length ∧ (o.bins.length : Int) ≤ b
  bin : ∀ c ∈ o.bins, MkB o.limits.length g c
  lo : 0 ≤ o.least ∧ o.least ≤ o.most ∧ o.most ≤ 3000
theorem least_in (A y : Int) (hA : 0 ≤ A ∧ A ≤ 1200) : 0 ≤ belV (wr (A + 2)) y ∧ belV (wr (A + 2)) y ≤ 1201 := by
  have e1 : wr (A + 2) = A + 2 := wr_small (by omega) (by omega)
  have l1 := bel_ge (A + 2) y (by omega)
  have l2 := bel_lt (A + 2) y (by omega) (by omega)
  rw [e1]; omega
theorem most_in (A L y1 y2 y3 : Int) (hA : 0 ≤ A ∧ A ≤ 1200) (hL : 0 ≤ L ∧ L ≤ 1201) : L ≤ wr (L + eitV [0, belV 5 y1, belV (wr (A + 1)) y2] y3) ∧ wr (L + eitV [0, belV 5 y1, belV (wr (A + 1)) y2] y3) ≤ 3000 := by
  have e2 : wr (A + 1) = A + 1 := wr_small (by omega) (by omega)
  rw [e2]
  have m5 := eit_mem [0, belV 5 y1, belV (A + 1) y2] y3 (by simp) (by simp)
  have f1 := bel_ge 5 y1 (by omega)
  have f2 := bel_lt 5 y1 (by omega) (by omega)
  have f3 := bel_ge (A + 1) y2 (by omega)
  have f4 := bel_lt (A + 1) y2 (by omega) (by omega)
  have hE : 0 ≤ eitV [0, belV 5 y1, belV (A + 1) y2] y3 ∧ eitV [0, belV 5 y1, belV (A + 1) y2] y3 ≤ 1201 := by
    simp only [List.mem_cons, List.not_mem_nil, or_false] at m5
    generalize eitV [0, belV 5 y1, belV (A + 1) y2] y3 = t at *
    generalize belV 5 y1 = u at *
    generalize belV (A + 1) y2 = v at *
    omega
  generalize eitV [0, belV 5 y1, belV (A + 1) y2] y3 = t at *
  rw [wr_small (by omega) (by omega)]
  omega
theorem all_in (n : Nat) (g S b : Int) (hn : (n : Int) ≤ b) (hb : b ≤ 10) (hg : 0 ≤ g ∧ g ≤ 6) (h : 0 ≤ S ∧ S ≤ 0 + n * (20 * g)) : 0 ≤ S ∧ S ≤ 1200 := by
  have : (n : Int) * (20 * g) ≤ 10 * 120 := Int.mul_le_mul (by omega) (by omega) (by omega) (by omega)
  omega
theorem made (b m g x : Int) (hb : 1 ≤ b ∧ b ≤ 10) (hm : 0 ≤ m ∧ m ≤ 10) (hg : 0 ≤ g ∧ g ≤ 6) : MkO b m g (ordOf b m g x) := by
  have hg' : 0 ≤ g ∧ g ≤ 1000 := ⟨hg.1, by omega⟩
  have hl : ∀ n ∈ ooL m x, 20 ≤ n ∧ n ≤ 300 := limL_in _ _
  have hB : ∀ c ∈ ooB b m g x, MkB (ooL m x).length g c := binsL_ok _ g hg' hl _ _
  have nL : ((ooL m x).length : Int) ≤ m := by
    have e : (ooL m x).length = (belV (wr (m + 1)) x).toNat := limL_len _ _
    rw [e]
    have q1 : wr (m + 1) = m + 1 := wr_small (by omega) (by omega)
    have q2 := bel_ge (m + 1) x (by omega)
    have q3 := bel_lt (m + 1) x (by omega) (by omega)
    rw [q1]
    generalize belV (m + 1) x = t at *
    omega
  have nB : 1 ≤ (ooB b m g x).length ∧ ((ooB b m g x).length : Int) ≤ b := by
    have e : (ooB b m g x).length = (betV 1 b (ooX1 m x)).toNat := binsL_len _ _ _ _
    rw [e]
    have q6 := bet_in 1 b (ooX1 m x) hb.1 (by omega) (by omega)
    generalize betV 1 b (ooX1 m x) = t at *
    omega
  have hA : 0 ≤ ooA b m g x ∧ ooA b m g x ≤ 1200 :=
    all_in _ g _ b nB.2 hb.2 hg (sumW_in (ooL m x).length g hg' (ooB b m g x) 0 hB (by decide) (by have := nB.2; generalize (ooB b m g x).length = t at *; omega))
  have hL := least_in (ooA b m g x) (ooX3 b m g x) hA
  have hM := most_in (ooA b m g x) _ (ooX4 b m g x) (ooX5 b m g x) (ooX6 b m g x) hA hL
  exact ⟨nL, hl, nB, hB, hL.1, hM.1, hM.2⟩
theorem MkO.ok {b m g : Int} {o : MOrd} (h : MkO b m g o) (hb : b ≤ 4) (hm : m ≤ 3) (hg : g ≤ 6) : OkO o where
  nl := by have := h.nl; omega
  lim := fun n hn => by have := h.lim n hn; omega
  lo := by have := h.lo; omega
  ne := fun e => by have := h.nb.1; rw [e] at this; simp at this
  nb := by have := h.nb.2; omega
  bin := fun c hc => by
    have k := h.bin c hc
    exact ⟨k.len, fun r hr => by have := k.rng r hr; omega, by have := k.w; omega, by have := k.c; omega, by have := k.g; omega⟩
theorem rngsErr_0 : ∀ (l : List (Int × Int)), (∀ r ∈ l, 0 ≤ r.1 ∧ r.1 ≤ r.2 ∧ r.2 ≤ 1000000) → rngsErr l = 0
  | [], _ => rfl
  | r :: l, h => by
    have k := h r (by simp)
    have e : rngErr r = 0 := by
      unfold rngErr
      rw [if_neg, if_neg (by omega)]
      simp only [Bool.not_eq_false, Bool.and_eq_true, inB_iff]
      omega
    rw [rngsErr, if_pos e]
    exact rngsErr_0 l fun s hs => h s (by simp [hs])
theorem binErr_0 {nl : Nat} {b : MBin} (h : OkB nl b) : binErr nl b = 0 := by
  unfold binErr
  rw [if_pos h.len, if_pos (rngsErr_0 _ h.rng), if_pos]
  simp only [Bool.and_eq_true, inB_iff]
  exact ⟨⟨h.w, h.c⟩, h.g⟩
theorem binsErr_0 (nl : Nat) : ∀ (l : List MBin), (∀ b ∈ l, OkB nl b) → binsErr nl l = 0
  | [], _ => rfl
  | b :: l, h => by
    rw [binsErr, if_pos (binErr_0 (h b (by simp)))]
    exact binsErr_0 nl l fun c hc => h c (by simp [hc])
theorem ordErr_0 {o : MOrd} (h : OkO o) : ordErr o = 0 := by
  have h0 := h.nl
  have h1 := h.lo
  have h2 := h.nb
  have h3 := h.ne
  unfold ordErr
  rw [if_neg (by omega), if_neg, if_neg, if_neg (by omega), if_neg, if_neg (by omega)]
  · exact binsErr_0 _ _ h.bin
  · intro e; exact h3 (List.length_eq_zero_iff.1 e)
  · simp only [Bool.not_eq_false, Bool.and_eq_true, inB_iff]; omega
  · intro e
    simp only [anyBad, List.any_eq_true, Bool.not_eq_true'] at e
    obtain ⟨n, hn, e⟩ := e
    have := inB_iff.2 (h.lim n hn)
    rw [this] at e; cases e
/-- A blend that an order allows. -/
def okBl (o : MOrd) (l : List Int) : Prop := l.length = o.bins.length ∧ ∀ (i : Nat) (h : i < o.bins.length) (h' : i < l.length), 0 ≤ l[i] ∧ l[i] ≤ o.bins[i].g
theorem grabErr_0 (bins : List MBin) : ∀ (l : List Int) (i : Nat), l.length + i ≤ bins.length → (∀ (k : Nat) (h : i + k < bins.length) (h' : k < l.length), 0 ≤ l[k] ∧ l[k] ≤ bins[i + k].g) → grabErr bins l i = 0
  | [], i, _, _ => rfl
  | n :: l, i, h, hk => by
    simp only [List.length_cons] at h
    have hi : i < bins.length := by omega
    have k0 := hk 0 (by omega) (by simp)
    simp only [Nat.add_zero, List.getElem_cons_zero] at k0
    simp only [grabErr, List.getElem?_eq_getElem hi]
    rw [if_pos (inB_iff.2 k0)]
    refine grabErr_0 bins l (i + 1) (by omega) fun k h1 h2 => ?_
    have := hk (k + 1) (by omega) (by simp; omega)
    simpa [Nat.add_assoc, Nat.add_comm 1 k] using this
theorem blendErr_0 {o : MOrd} {l : List Int} (h : OkO o) (hl : okBl o l) : blendErr o l = 0 := by
  rw [blendErr, if_pos (ordErr_0 h), if_pos hl.1]
  exact grabErr_0 _ _ _ (by have := hl.1; omega) fun k h1 h2 => by simpa using hl.2 k (by omega) h2
theorem blendL_in (nl : Nat) : ∀ (bs : List MBin) (x : Int), (∀ b ∈ bs, OkB nl b) → ∀ (i : Nat) (h : i < bs.length) (h' : i < (blendL bs x).length), 0 ≤ (blendL bs x)[i] ∧ (blendL bs x)[i] ≤ bs[i].g
  | [], x, _, i, h, _ => by simp at h
  | b :: bs, x, hb, i, h, h' => by
    have k := (hb b (by simp)).g
    cases i with
    | zero =>
      have e : wr (b.g + 1) = b.g + 1 := wr_small (by omega) (by omega)
      have b1 := bel_ge (b.g + 1) x (by omega)
      have b2 := bel_lt (b.g + 1) x (by omega) (by omega)
      simp only [blendL, List.getElem_cons_zero]
      rw [e]; omega
    | succ i =>
      simp only [blendL, List.getElem_cons_succ]
      exact blendL_in nl bs _ (fun c hc => hb c (by simp [hc])) i (by simpa using h) (by simpa [blendL] using h')
theorem blendL_ok {o : MOrd} (h : OkO o) (x : Int) : okBl o (blendL o.bins x) := ⟨by simp, blendL_in _ _ _ h.bin⟩
end Go.Ev
end

section
set_option linter.all false
open Go Go.Ev Go.Proofs
namespace Go.Ev
set_option linter.unusedSimpArgs false
set_option linter.unusedVariables false


/-- What each grab of a blend has of each metal, if all have the least (or the most). -/
def endG (q : Bool) : List MBin → List Int → List (List Int)
  | b :: bs, n :: l => List.replicate n.toNat (b.grams.map (endR q)) ++ endG q bs l
  | _, _ => []
@[simp] theorem endG_nil (q : Bool) (bs : List MBin) : endG q bs [] = [] := by cases bs <;> rfl
theorem endG_len (q : Bool) : ∀ (bs : List MBin) (l : List Int), (endG q bs l).length = (gwL bs l).length
  | b :: bs, n :: l => by simp [endG, gwL, endG_len q bs l]
  | [], [] => rfl
  | [], _ :: _ => rfl
  | _ :: _, [] => rfl
theorem blendOf_ok_ (o : MOrd) (x : Int) (hl : o.bins.length < 1000000000) : ACalls Try.prog 23 [.ptr (.ext 0) 0, .agg [.sl false false .U .no o.limits.length (eInts o.limits), .s (.int .i64 o.least), .s (.int .i64 o.most), .sl false false .U .no o.bins.length (eBins o.bins)]] [[.s (.int .u64 x)]] (.ret (.sl true true .Z .no (blendL o.bins x).length (eInts (blendL o.bins x))) [[.s (.int .u64 (blendS o.bins x))]] []) := by
  rw [blendL_len]; exact blendOf_ok o x hl
theorem endG_mem {nl : Nat} : ∀ {bs : List MBin}, (∀ b ∈ bs, OkB nl b) → ∀ (l : List Int) (q : Bool), ∀ g ∈ endG q bs l, g.length = nl
  | [], _, [], _, g, hg => by simp at hg
  | [], _, _ :: _, _, g, hg => by simp [endG] at hg
  | b :: bs, _, [], _, g, hg => by simp at hg
  | b :: bs, h, n :: l, q, g, hg => by
    rw [endG, List.mem_append] at hg
    rcases hg with hg | hg
    · rw [(List.mem_replicate.1 hg).2, List.length_map]
      exact (h b (by simp)).len
    · exact endG_mem (fun c hc => h c (by simp [hc])) l q g hg
def enE (o : MOrd) (l : List Int) (v e : Int) (A B : List (List Int)) (r : List (Nat × AV)) : List (Nat × AV) := (3, .ptr (.own 17006) 0) :: (4, .ptr (.own 4) 0) :: (5, .sl false false .U .no l.length (eInts l)) :: (6, .s (.int .i64 v)) :: (7, .s (.int .i64 e)) :: (8, .sl false false .Z (.tok 78) A.length (eLL A)) :: (9, .sl false false .Z (.tok 82) B.length (eLL B)) :: r
def enS0 (o : MOrd) (l : List Int) (v e x : Int) (p : Nat × List (List Int) × List (List Int)) : St :=
  St.lit 107 (enE o l v e p.2.1 p.2.2 [(10, .s (.int .i64 p.1))]) [(17006, [.s (.int .u64 x)]), (4, aOrdC o)] [] [(78, (p.2.1.length, 1)), (82, (p.2.2.length, 1))]
def enS1 (o : MOrd) (l : List Int) (v e x : Int) (i : Nat) (p : Nat × List (List Int) × List (List Int)) : St :=
  St.lit 107 (enE o l v e p.2.1 p.2.2 [(10, .s (.int .i64 i)), (11, .s (.int .i64 p.1))]) [(17006, [.s (.int .u64 x)]), (4, aOrdC o)] [] [(78, (p.2.1.length, 1)), (82, (p.2.2.length, 1))]
def enS2 (o : MOrd) (l : List Int) (v e x : Int) (i k : Nat) (A B : List (List Int)) (p : Nat × List Int × List Int) : St :=
  St.lit 107 (enE o l v e A B [(10, .s (.int .i64 i)), (11, .s (.int .i64 k)), (14, .s (.int .i64 p.1)), (12, .sl false false .Z (.tok 61) p.2.1.length (eInts p.2.1)), (13, .sl false false .Z (.tok 74) p.2.2.length (eInts p.2.2))]) [(17006, [.s (.int .u64 x)]), (4, aOrdC o)] [] [(78, (A.length, 1)), (82, (B.length, 1)), (61, (p.2.1.length, 1)), (74, (p.2.2.length, 1))]
attribute [simp] enE enS0 enS1 enS2

set_option maxHeartbeats 4000000 in
theorem ends_ok (nums : List Int) (hl : (nums.length : Int) < 9223372036854775807) (o : MOrd) (l : List Int) (ho : o = ordOf 4 3 5 (feedS nums)) (hbl : l = blendL o.bins (ordS 4 3 5 (feedS nums))) (k : OkO o) (kb : okBl o l)
  (e0 : blendErr o l = 0) (eA : decide (keepV o l = 1) = keptV o l (endG true o.bins l)) (eN : decide (keepV o l = 2) = !keptV o l (endG false o.bins l)) (hg : (gwL o.bins l).length < 1000000) : ACalls Try.prog 5 [.sl false false .U .no nums.length (eInts nums)] [] (.ret (.s (.bool true)) [] []) := by
  have c1 := orderOf_ok 4 3 5 (feedS nums) (by decide) (by decide)
  rw [← ho] at c1
  have c2 := blendOf_ok_ o (ordS 4 3 5 (feedS nums)) (by have := k.nb; omega)
  rw [← hbl] at c2
  have hlb := kb.1
  have hnb := k.nb
  have hnl := k.nl
  have hn : ∀ n ∈ l, n < 1000000000 := by
    intro n hn
    obtain ⟨i, hi, rfl⟩ := List.getElem_of_mem hn
    have q1 := kb.2 i (by omega) hi
    have q2 := (k.bin _ (List.getElem_mem (show i < o.bins.length by omega))).g
    omega
  have ot : okGs o l (endG true o.bins l) := ⟨endG_len true o.bins l, endG_mem k.bin l true⟩
  have of : okGs o l (endG false o.bins l) := ⟨endG_len false o.bins l, endG_mem k.bin l false⟩
  refine acalls_of_ew Try.func5 rfl rfl (by simp [Try.f5]) (rs := [.tmp 2]) rfl ?_
  refine EW.seq fun Ψ0 n0 x0 => ?_
  refine EW.region gs_nil ?_
  simp
  refine n0 _ ?_; clear n0 x0
  refine EW.seq fun Ψ1 n1 x1 => ?_
  refine EW.region (gs_cons (feedOf_ok nums hl) gs_nil) ?_
  simp
  refine n1 _ ?_; clear n1 x1
  refine EW.seq fun Ψ2 n2 x2 => ?_
  refine EW.region (gs_cons c1 gs_nil) ?_
  simp
  refine n2 _ ?_; clear n2 x2
  refine EW.seq fun Ψ3 n3 x3 => ?_
  refine EW.region (gs_cons c2 gs_nil) ?_
  simp
  refine n3 _ ?_; clear n3 x3
  refine EW.seq fun Ψ4 n4 x4 => ?_
  refine EW.region (gs_cons (Keeps_ok o l k.sz (by omega)) gs_nil) ?_
  simp [e0]
  refine n4 _ ?_; clear n4 x4
  refine EW.seq fun Ψ5 n5 x5 => ?_
  refine EW.region gs_nil ?_
  simp
  refine n5 _ ?_; clear n5 x5
  refine EW.seq fun Ψ6 n6 x6 => ?_
  refine EW.seq fun Ψ7 n7 x7 => ?_
  refine EW.region gs_nil ?_
  simp
  refine n7 _ ?_; clear n7 x7
  refine EW.block ?_
  refine EW.loopA (enS0 o l (keepV o l) 0 (blendS o.bins (ordS 4 3 5 (feedS nums)))) (fun p => p.1 ≤ l.length ∧ p.2.1 ++ endG false (o.bins.drop p.1) (l.drop p.1) = endG false o.bins l ∧ p.2.2 ++ endG true (o.bins.drop p.1) (l.drop p.1) = endG true o.bins l) (fun p => l.length - p.1) (0, [], []) (St.le_lit rfl (by simp) (by simp) (by simp) (by simp) (by simp)) ?_ fun p hk => ?_
  · simp
  obtain ⟨i, A, B⟩ := p
  obtain ⟨hk, wA, wB⟩ := hk
  simp only at hk wA wB
  refine EW.seq fun Ψ8 n8 x8 => ?_
  refine EW.seq fun Ψ9 n9 x9 => ?_
  refine EW.region gs_nil ?_
  simp
  refine n9 _ ?_; clear n9 x9
  refine EW.cond (t := _) (by rfl) (fun hc31 => ?_) (fun hc31 => ?_)
  · simp at hc31
    have hib : i < o.bins.length := by omega
    have e2 : o.bins[i]? = some o.bins[i] := List.getElem?_eq_getElem hib
    have e4 : l[i]? = some l[i] := List.getElem?_eq_getElem hc31
    have hni := hn l[i] (List.getElem_mem hc31)
    have hgl : o.bins[i].grams.length = o.limits.length := (k.bin _ (List.getElem_mem hib)).len
    refine EW.skip ?_
    refine n8 _ ?_; clear n8 x8
    refine EW.seq fun Ψ10 n10 x10 => ?_
    refine EW.block ?_
    refine EW.seq fun Ψ11 n11 x11 => ?_
    refine EW.region gs_nil ?_
    simp
    refine n11 _ ?_; clear n11 x11
    refine EW.block ?_
    refine EW.loopA (enS1 o l (keepV o l) 0 (blendS o.bins (ordS 4 3 5 (feedS nums))) i) (fun p => (p.1 : Int) ≤ max 0 l[i] ∧ p.2.1 ++ (List.replicate (l[i].toNat - p.1) (o.bins[i].grams.map (endR false)) ++ endG false (o.bins.drop (i + 1)) (l.drop (i + 1))) = endG false o.bins l ∧ p.2.2 ++ (List.replicate (l[i].toNat - p.1) (o.bins[i].grams.map (endR true)) ++ endG true (o.bins.drop (i + 1)) (l.drop (i + 1))) = endG true o.bins l) (fun p => l[i].toNat - p.1) (0, A, B) (St.le_lit rfl (by simp) (by simp) (by simp) (by simp) (by simp)) ?_ fun p hk => ?_
    · rw [List.drop_eq_getElem_cons hib, List.drop_eq_getElem_cons hc31] at wA wB; exact ⟨by simp; omega, by simpa [endG] using wA, by simpa [endG] using wB⟩
    obtain ⟨n, A2, B2⟩ := p
    obtain ⟨hk2, vA, vB⟩ := hk
    simp only at hk2 vA vB
    refine EW.seq fun Ψ12 n12 x12 => ?_
    refine EW.seq fun Ψ13 n13 x13 => ?_
    refine EW.region gs_nil ?_
    simp [hc31, e4]
    refine n13 _ ?_; clear n13 x13
    refine EW.cond (t := _) (by rfl) (fun hc39 => ?_) (fun hc39 => ?_)
    · simp at hc39
      have hr : l[i].toNat - n = (l[i].toNat - (n + 1)) + 1 := by omega
      have zA : A2.length < 1000000 := by have := congrArg List.length vA; have z := ot.1; have z2 := of.1; simp at this; omega
      have zB : B2.length < 1000000 := by have := congrArg List.length vB; have z := ot.1; have z2 := of.1; simp at this; omega
      refine EW.skip ?_
      refine n12 _ ?_; clear n12 x12
      refine EW.seq fun Ψ14 n14 x14 => ?_
      refine EW.block ?_
      refine EW.seq fun Ψ15 n15 x15 => ?_
      refine EW.region gs_nil ?_
      simp
      refine n15 _ ?_; clear n15 x15
      refine EW.seq fun Ψ16 n16 x16 => ?_
      refine EW.seq fun Ψ17 n17 x17 => ?_
      refine EW.region gs_nil ?_
      simp
      refine n17 _ ?_; clear n17 x17
      refine EW.block ?_
      refine EW.loopA (enS2 o l (keepV o l) 0 (blendS o.bins (ordS 4 3 5 (feedS nums))) i n A2 B2) (fun p => p.1 ≤ o.limits.length ∧ p.2.1.length = p.1 ∧ p.2.2.length = p.1 ∧ p.2.1 ++ (o.bins[i].grams.drop p.1).map (endR false) = o.bins[i].grams.map (endR false) ∧ p.2.2 ++ (o.bins[i].grams.drop p.1).map (endR true) = o.bins[i].grams.map (endR true)) (fun p => o.limits.length - p.1) (0, [], []) (St.le_lit rfl (by simp) (by simp) (by simp) (by simp) (by simp)) ?_ fun p hk => ?_
      · simp
      obtain ⟨j, a, b⟩ := p
      obtain ⟨hk3, na, nb, ua, ub⟩ := hk
      simp only at hk3 na nb ua ub
      refine EW.seq fun Ψ18 n18 x18 => ?_
      refine EW.seq fun Ψ19 n19 x19 => ?_
      refine EW.region gs_nil ?_
      simp
      refine n19 _ ?_; clear n19 x19
      refine EW.cond (t := _) (by rfl) (fun hc46 => ?_) (fun hc46 => ?_)
      · simp at hc46
        have hjg : j < o.bins[i].grams.length := by omega
        have e5 : o.bins[i].grams[j]? = some o.bins[i].grams[j] := List.getElem?_eq_getElem hjg
        refine EW.skip ?_
        refine n18 _ ?_; clear n18 x18
        refine EW.seq fun Ψ20 n20 x20 => ?_
        refine EW.block ?_
        refine EW.hide fun Ψ21 n21 => ?_
        refine EW.drawn [(12, 15), (12, 19), (12, 23)] mixed gs_nil (by kernel_rfl) ?_
        simp [hib, hjg, e2, e5, na, nb, show (j + 1) * 8 ≤ 140737488355328 by omega]
        refine n21 _ _ ?_; clear n21
        refine n20 _ ?_; clear n20 x20
        refine EW.hide fun Ψ22 n22 => ?_
        refine EW.region gs_nil ?_
        simp
        refine n22 _ _ ?_; clear n22
        have e3 : IntKind.i64.wrap ((j : Int) + 1) = j + 1 := wr_small (by omega) (by omega)
        refine ⟨(j + 1, a ++ [o.bins[i].grams[j].1], b ++ [o.bins[i].grams[j].2]), (St.le_lit rfl (by simp [e3, na, nb]) (by simp [na, nb]) (by simp) (by simp [na, nb]) (by simp [na, nb])), ?_, ?_⟩
        · refine ⟨by omega, by simp [na], by simp [nb], ?_, ?_⟩
          · rw [← ua, List.drop_eq_getElem_cons hjg, List.map_cons, List.append_assoc]; rfl
          · rw [← ub, List.drop_eq_getElem_cons hjg, List.map_cons, List.append_assoc]; rfl
        · simp; omega
      · simp at hc46
        have hkl : j = o.limits.length := by omega
        have hd : o.bins[i].grams.drop j = [] := List.drop_eq_nil_of_le (by omega)
        rw [hd] at ua ub
        simp at ua ub
        subst ua ub
        refine EW.exit ?_
        refine x18 _ _ rfl ?_; clear n18 x18
        refine n16 _ ?_; clear n16 x16
        refine EW.hide fun Ψ23 n23 => ?_
        refine EW.region gs_nil ?_
        simp [eLL_app1, show (A2.length + 1) * 24 ≤ 140737488355328 by omega, show (B2.length + 1) * 24 ≤ 140737488355328 by omega]
        refine n23 _ _ ?_; clear n23
        refine n14 _ ?_; clear n14 x14
        refine EW.hide fun Ψ24 n24 => ?_
        refine EW.region gs_nil ?_
        simp
        refine n24 _ _ ?_; clear n24
        have e3 : IntKind.i64.wrap ((n : Int) + 1) = n + 1 := wr_small (by omega) (by omega)
        refine ⟨(n + 1, A2 ++ [o.bins[i].grams.map (endR false)], B2 ++ [o.bins[i].grams.map (endR true)]), (St.le_lit rfl (by simp [e3]) (by simp) (by simp) (by simp) (by simp)), ?_, ?_⟩
        · refine ⟨by omega, ?_, ?_⟩
          · rw [← vA, hr, List.replicate_succ]; simp
          · rw [← vB, hr, List.replicate_succ]; simp
        · simp; omega
    · simp at hc39
      have hkl : l[i].toNat - n = 0 := by omega
      rw [hkl] at vA vB
      simp only [List.replicate_zero, List.nil_append] at vA vB
      refine EW.exit ?_
      refine x12 _ _ rfl ?_; clear n12 x12
      refine n10 _ ?_; clear n10 x10
      refine EW.hide fun Ψ25 n25 => ?_
      refine EW.region gs_nil ?_
      simp
      refine n25 _ _ ?_; clear n25
      have e3 : IntKind.i64.wrap ((i : Int) + 1) = i + 1 := wr_small (by omega) (by omega)
      refine ⟨(i + 1, A2, B2), (St.le_lit rfl (by simp [e3]) (by simp) (by simp) (by simp) (by simp)), ?_, ?_⟩
      · exact ⟨by omega, vA, vB⟩
      · simp; omega
  · simp at hc31
    have hkl : i = l.length := by omega
    subst hkl
    simp at wA wB
    subst wA wB
    refine EW.exit ?_
    refine x8 _ _ rfl ?_; clear n8 x8
    refine n6 _ ?_; clear n6 x6
    refine EW.seq fun Ψ26 n26 x26 => ?_
    refine EW.region (gAlt_sound (f := 25) (gKp_ok o l (by omega) hlb (by omega) hn (by omega)) (gs_cons alive_ok gs_nil)) ?_
    simp [eA, eN, ot, of]
    refine n26 _ ?_; clear n26 x26
    refine EW.ret ?_
    refine ⟨_, _, _, rfl, ?_, ?_, ?_, ?_, ?_⟩ <;> simp

end Go.Ev
end

section
set_option linter.all false
open Go Go.Ev Go.Proofs
namespace Go.Ev
set_option linter.unusedSimpArgs false
set_option linter.unusedVariables false

/-! ### Sums without bounds -/
def sumZ (j : Nat) (m : Int) : List Int → List (List Int) → Int
  | w :: ws, g :: gs => w * (g.getD j 0 - m) + sumZ j m ws gs
  | _, _ => 0
theorem mulB (w d W D : Int) (h1 : 0 ≤ w) (h2 : w ≤ W) (h3 : -D ≤ d) (h4 : d ≤ D) (hD : 0 ≤ D) : -(W * D) ≤ w * d ∧ w * d ≤ W * D := by
  have a1 : w * d ≤ w * D := Int.mul_le_mul_of_nonneg_left h4 h1
  have a2 : w * D ≤ W * D := Int.mul_le_mul_of_nonneg_right h2 hD
  have a3 : w * -D ≤ w * d := Int.mul_le_mul_of_nonneg_left h3 h1
  rw [Int.mul_neg] at a3
  omega
theorem sumG_eq (j : Nat) (m : Int) (hm : 0 ≤ m ∧ m ≤ 1000000) : ∀ (ws : List Int) (gs : List (List Int)) (s : Int), (∀ w ∈ ws, 0 ≤ w ∧ w ≤ 10000) → (∀ g ∈ gs, 0 ≤ g.getD j 0 ∧ g.getD j 0 ≤ 1000000) →
    -1000000000000000000 ≤ s - ws.length * 10000000000 → s + ws.length * 10000000000 ≤ 1000000000000000000 → sumG j m ws gs s = s + sumZ j m ws gs
  | [], gs, s, _, _, _, _ => by cases gs <;> simp [sumG, sumZ]
  | w :: ws, [], s, _, _, _, _ => by simp [sumG, sumZ]
  | w :: ws, g :: gs, s, hw, hg, h1, h2 => by
    have w1 := hw w (by simp)
    have g1 := hg g (by simp)
    simp only [sumG, sumZ]
    simp only [List.length_cons] at h1 h2
    generalize g.getD j 0 = x at *
    have e1 : wr (x - m) = x - m := wr_small (by omega) (by omega)
    have b := mulB w (x - m) 10000 1000000 w1.1 w1.2 (by omega) (by omega) (by decide)
    rw [e1]
    generalize w * (x - m) = p at *
    have e2 : wr p = p := wr_small (by omega) (by omega)
    have e3 : wr (s + p) = s + p := wr_small (by omega) (by omega)
    rw [e2, e3, sumG_eq j m hm ws gs (s + p) (fun v hv => hw v (by simp [hv])) (fun v hv => hg v (by simp [hv])) (by omega) (by omega)]
    omega
theorem sumZ_rep (j : Nat) (m w : Int) (g : List Int) (W : List Int) (G : List (List Int)) : ∀ k : Nat, sumZ j m (List.replicate k w ++ W) (List.replicate k g ++ G) = k * w * (g.getD j 0 - m) + sumZ j m W G
  | 0 => by simp
  | k + 1 => by
    rw [List.replicate_succ, List.replicate_succ, List.cons_append, List.cons_append, sumZ, sumZ_rep j m w g W G k, show ((k + 1 : Nat) : Int) * w * (g.getD j 0 - m) = (k : Int) * w * (g.getD j 0 - m) + w * (g.getD j 0 - m) by rw [← Int.add_mul]; congr 1; rw [show ((k + 1 : Nat) : Int) = (k : Int) + 1 by omega, Int.add_mul, Int.one_mul]]
    omega
/-- By how much a blend is beyond a limit. -/
def beyZ (q : Bool) (j : Nat) (m : Int) : List MBin → List Int → Int
  | b :: bs, n :: l => n * b.w * (endR q (b.grams.getD j (0, 0)) - m) + beyZ q j m bs l
  | _, _ => 0
theorem endR_getD (q : Bool) (l : List (Int × Int)) (j : Nat) : (l.map (endR q)).getD j 0 = endR q (l.getD j (0, 0)) := by
  rw [List.getD_eq_getElem?_getD, List.getD_eq_getElem?_getD, List.getElem?_map]
  cases l[j]? with
  | none => cases q <;> rfl
  | some x => rfl
/-- The grabs of a blend are not below 0. -/
def posL (l : List Int) : Prop := ∀ n ∈ l, 0 ≤ n ∧ n ≤ 6
theorem sumZ_end (q : Bool) (j : Nat) (m : Int) : ∀ (bs : List MBin) (l : List Int), posL l → sumZ j m (gwL bs l) (endG q bs l) = beyZ q j m bs l
  | b :: bs, n :: l, h => by
    have hn := h n (by simp)
    rw [gwL, endG, sumZ_rep, beyZ, endR_getD, sumZ_end q j m bs l fun k hk => h k (by simp [hk]), show (n.toNat : Int) = n by omega]
  | [], [], _ => rfl
  | [], _ :: _, _ => rfl
  | _ :: _, [], _ => rfl
theorem endR_in {q : Bool} {r : Int × Int} (h : 0 ≤ r.1 ∧ r.1 ≤ r.2 ∧ r.2 ≤ 1000000) : 0 ≤ endR q r ∧ endR q r ≤ 1000000 := by
  cases q <;> simp [endR] <;> omega
theorem beyL_eq (q : Bool) (lims : List Int) (bins : List MBin) (nl j : Nat) (hB : ∀ b ∈ bins, OkB nl b) (hn : nl = lims.length) (hj : j < lims.length) (hm : ∀ n ∈ lims, 0 ≤ n ∧ n ≤ 1000000) : ∀ (l : List Int) (i : Nat) (s : Int), posL l → l.length + i ≤ bins.length →
    -1000000000000000000 ≤ s - l.length * 60000000000 → s + l.length * 60000000000 ≤ 1000000000000000000 → beyL q lims bins j l i s = s + beyZ q j lims[j] (bins.drop i) l
  | [], i, s, _, _, _, _ => by cases bins.drop i <;> simp [beyL, beyZ]
  | n :: l, i, s, hl, hi, h1, h2 => by
    simp only [List.length_cons] at hi h1 h2
    have n1 := hl n (by simp)
    have hib : i < bins.length := by omega
    have kb := hB _ (List.getElem_mem hib)
    have hjg : j < bins[i].grams.length := by rw [kb.len]; omega
    have m1 := hm _ (List.getElem_mem hj)
    have r1 := @endR_in q _ (kb.rng _ (List.getElem_mem hjg))
    rw [List.drop_eq_getElem_cons hib, beyZ]
    simp only [beyL, List.getElem?_eq_getElem hib, List.getElem?_eq_getElem hjg, List.getElem?_eq_getElem hj, List.getD_eq_getElem?_getD, Option.getD_some]
    have w1 := kb.w
    generalize endR q bins[i].grams[j] = x at *
    have e1 : wr (x - lims[j]) = x - lims[j] := wr_small (by omega) (by omega)
    have a := mulB n bins[i].w 6 10000 n1.1 n1.2 (by omega) w1.2 (by decide)
    have a0 : 0 ≤ n * bins[i].w := Int.mul_nonneg n1.1 (by omega)
    rw [e1]
    generalize n * bins[i].w = p at *
    have e2 : wr p = p := wr_small (by omega) (by omega)
    have b := mulB p (x - lims[j]) 60000 1000000 a0 (by omega) (by omega) (by omega) (by decide)
    rw [e2]
    generalize p * (x - lims[j]) = t at *
    have e3 : wr t = t := wr_small (by omega) (by omega)
    have e4 : wr (s + t) = s + t := wr_small (by omega) (by omega)
    rw [e3, e4, beyL_eq q lims bins nl j hB hn hj hm l (i + 1) (s + t) (fun k hk => hl k (by simp [hk])) (by omega) (by omega) (by omega)]
    omega
theorem beyZ_mono (j : Nat) (m : Int) (nl : Nat) : ∀ (bs : List MBin) (l : List Int), (∀ b ∈ bs, OkB nl b) → posL l → beyZ false j m bs l ≤ beyZ true j m bs l
  | b :: bs, n :: l, hB, h => by
    have ih := beyZ_mono j m nl bs l (fun c hc => hB c (by simp [hc])) fun k hk => h k (by simp [hk])
    have kb := hB b (by simp)
    have hn := h n (by simp)
    have a0 : 0 ≤ n * b.w := Int.mul_nonneg hn.1 (by have := kb.w; omega)
    have r : (b.grams.getD j (0, 0)).1 ≤ (b.grams.getD j (0, 0)).2 := by
      rw [List.getD_eq_getElem?_getD]
      by_cases hj : j < b.grams.length
      · rw [List.getElem?_eq_getElem hj]; exact (kb.rng _ (List.getElem_mem hj)).2.1
      · rw [List.getElem?_eq_none (by omega)]; exact Int.le_refl _
    have := Int.mul_le_mul_of_nonneg_left (show endR false (b.grams.getD j (0, 0)) - m ≤ endR true (b.grams.getD j (0, 0)) - m by simp only [endR, Bool.false_eq_true, if_false, if_true]; omega) a0
    simp only [beyZ]
    omega
  | [], [], _, _ => by simp [beyZ]
  | [], _ :: _, _, _ => by simp [beyZ]
  | _ :: _, [], _, _ => by simp [beyZ]
/-! ### What Keeps says -/
theorem keepL_1 (o : MOrd) (l : List Int) : ∀ (n j : Nat) (v : Int), v = 1 ∨ v = 3 → (keepL o l n j v = 1 ↔ v = 1 ∧ ∀ k, k < n → ¬ 0 < beyL false o.limits o.bins (j + k) l 0 0 ∧ ¬ 0 < beyL true o.limits o.bins (j + k) l 0 0)
  | 0, j, v, _ => by simp [keepL]
  | n + 1, j, v, hv => by
    simp only [keepL]
    split
    · rename_i h
      constructor
      · intro h'; omega
      · intro ⟨_, h'⟩; exact absurd h (h' 0 (by omega)).1
    · rename_i h
      rw [keepL_1 o l n (j + 1) _ (by split <;> simp [hv])]
      constructor
      · intro ⟨h1, h2⟩
        split at h1
        · omega
        · rename_i h3
          refine ⟨h1, fun k hk => ?_⟩
          cases k with
          | zero => exact ⟨h, h3⟩
          | succ k => have := h2 k (by omega); rwa [show j + 1 + k = j + (k + 1) by omega] at this
      · intro ⟨h1, h2⟩
        refine ⟨by rw [if_neg (show ¬ 0 < beyL true o.limits o.bins j l 0 0 from (h2 0 (by omega)).2)]; exact h1, fun k hk => ?_⟩
        have := h2 (k + 1) (by omega)
        rwa [show j + (k + 1) = j + 1 + k by omega] at this
theorem keepL_2 (o : MOrd) (l : List Int) : ∀ (n j : Nat) (v : Int), v = 1 ∨ v = 3 → (keepL o l n j v = 2 ↔ ∃ k, k < n ∧ 0 < beyL false o.limits o.bins (j + k) l 0 0)
  | 0, j, v, hv => by simp [keepL]; omega
  | n + 1, j, v, hv => by
    simp only [keepL]
    split
    · rename_i h
      exact ⟨fun _ => ⟨0, by omega, h⟩, fun _ => rfl⟩
    · rename_i h
      rw [keepL_2 o l n (j + 1) _ (by split <;> simp [hv])]
      constructor
      · rintro ⟨k, hk, h2⟩
        exact ⟨k + 1, by omega, by rwa [show j + (k + 1) = j + 1 + k by omega]⟩
      · rintro ⟨k, hk, h2⟩
        cases k with
        | zero => exact absurd h2 h
        | succ k => exact ⟨k, by omega, by rwa [show j + 1 + k = j + (k + 1) by omega]⟩
theorem keepL_in (o : MOrd) (l : List Int) : ∀ (n j : Nat) (v : Int), v = 1 ∨ v = 3 → 1 ≤ keepL o l n j v ∧ keepL o l n j v ≤ 3
  | 0, j, v, hv => by simp [keepL]; omega
  | n + 1, j, v, hv => by
    simp only [keepL]
    split
    · omega
    · exact keepL_in o l n (j + 1) _ (by split <;> simp [hv])
theorem keptL_iff (ws : List Int) (gs : List (List Int)) : ∀ (r : List Int) (j : Nat), keptL ws gs r j = true ↔ ∀ (k : Nat) (h : k < r.length), ¬ 0 < sumG (j + k) r[k] ws gs 0
  | [], j => by simp [keptL]
  | m :: r, j => by
    simp only [keptL]
    split
    · rename_i h
      exact ⟨fun h' => (Bool.noConfusion h'), fun h' => absurd h (h' 0 (by simp))⟩
    · rename_i h
      rw [keptL_iff ws gs r (j + 1)]
      constructor
      · intro h' k hk
        cases k with
        | zero => exact h
        | succ k => have := h' k (by simpa using hk); rwa [show j + 1 + k = j + (k + 1) by omega] at this
      · intro h' k hk
        have := h' (k + 1) (by simpa using hk)
        rwa [show j + (k + 1) = j + 1 + k by omega] at this
theorem okBl.pos {o : MOrd} {l : List Int} (k : OkO o) (h : okBl o l) : posL l := by
  intro n hn
  obtain ⟨i, hi, rfl⟩ := List.getElem_of_mem hn
  have q1 := h.2 i (by rw [← h.1]; exact hi) hi
  have q2 := (k.bin _ (List.getElem_mem (show i < o.bins.length by rw [← h.1]; exact hi))).g
  omega
theorem gwL_in (nl : Nat) : ∀ (bs : List MBin) (l : List Int), (∀ b ∈ bs, OkB nl b) → posL l → (∀ w ∈ gwL bs l, 0 ≤ w ∧ w ≤ 10000) ∧ (gwL bs l).length ≤ 6 * l.length
  | b :: bs, n :: l, hB, h => by
    have ih := gwL_in nl bs l (fun c hc => hB c (by simp [hc])) fun k hk => h k (by simp [hk])
    have hn := h n (by simp)
    have kb := (hB b (by simp)).w
    refine ⟨fun w hw => ?_, ?_⟩
    · rw [gwL, List.mem_append] at hw
      rcases hw with hw | hw
      · rw [(List.mem_replicate.1 hw).2]; omega
      · exact ih.1 w hw
    · simp only [gwL, List.length_append, List.length_replicate, List.length_cons]
      have := ih.2
      omega
  | [], [], _, _ => by simp [gwL]
  | [], _ :: _, _, _ => by simp [gwL]
  | _ :: _, [], _, _ => by simp
/-- What truly is in the grabs. -/
def leG (j : Nat) : List (List Int) → List (List Int) → Prop
  | a :: A, b :: B => a.getD j 0 ≤ b.getD j 0 ∧ leG j A B
  | [], [] => True
  | _, _ => False
theorem leG_same (j : Nat) : ∀ A, leG j A A
  | [] => trivial
  | a :: A => ⟨Int.le_refl _, leG_same j A⟩
theorem sumZ_mono (j : Nat) (m : Int) : ∀ (ws : List Int) (A B : List (List Int)), (∀ w ∈ ws, 0 ≤ w ∧ w ≤ 10000) → leG j A B → sumZ j m ws A ≤ sumZ j m ws B
  | [], A, B, _, _ => by simp [sumZ]
  | w :: ws, [], [], _, _ => by simp [sumZ]
  | w :: ws, a :: A, b :: B, hw, h => by
    have ih := sumZ_mono j m ws A B (fun v hv => hw v (by simp [hv])) h.2
    have := Int.mul_le_mul_of_nonneg_left (show a.getD j 0 - m ≤ b.getD j 0 - m by have := h.1; omega) (hw w (by simp)).1
    simp only [sumZ]
    omega
  | _ :: _, [], _ :: _, _, h => h.elim
  | _ :: _, _ :: _, [], _, h => h.elim
structure inG (o : MOrd) (l : List Int) (gs : List (List Int)) : Prop where
  lo : ∀ j, leG j (endG false o.bins l) gs
  hi : ∀ j, leG j gs (endG true o.bins l)
  sz : ∀ j, ∀ g ∈ gs, 0 ≤ g.getD j 0 ∧ g.getD j 0 ≤ 1000000
section
variable {o : MOrd} {l : List Int} (k : OkO o) (kb : okBl o l)
include k kb
theorem gw_lt : (gwL o.bins l).length < 1000000 := by
  have := (gwL_in _ o.bins l k.bin (kb.pos k)).2
  have := k.nb
  have := kb.1
  omega
theorem bey_Z (q : Bool) (j : Nat) (hj : j < o.limits.length) : beyL q o.limits o.bins j l 0 0 = beyZ q j o.limits[j] o.bins l := by
  have e1 := k.nb
  have e2 := kb.1
  rw [beyL_eq q o.limits o.bins _ j k.bin rfl hj k.lim l 0 0 (kb.pos k) (by omega) (by omega) (by omega)]
  simp
theorem sum_Z {gs : List (List Int)} (h : inG o l gs) (j : Nat) (hj : j < o.limits.length) : sumG j o.limits[j] (gwL o.bins l) gs 0 = sumZ j o.limits[j] (gwL o.bins l) gs := by
  have w := gwL_in _ o.bins l k.bin (kb.pos k)
  have e1 := k.nb
  have e2 := kb.1
  have e3 := w.2
  rw [sumG_eq j _ (k.lim _ (List.getElem_mem hj)) _ _ 0 w.1 (h.sz j) (by omega) (by omega)]
  omega
theorem sum_in {gs : List (List Int)} (h : inG o l gs) (j : Nat) (hj : j < o.limits.length) : beyL false o.limits o.bins j l 0 0 ≤ sumG j o.limits[j] (gwL o.bins l) gs 0 ∧ sumG j o.limits[j] (gwL o.bins l) gs 0 ≤ beyL true o.limits o.bins j l 0 0 := by
  have w := gwL_in _ o.bins l k.bin (kb.pos k)
  rw [sum_Z k kb h j hj, bey_Z k kb false j hj, bey_Z k kb true j hj, ← sumZ_end false _ _ _ _ (kb.pos k), ← sumZ_end true _ _ _ _ (kb.pos k)]
  exact ⟨sumZ_mono j _ _ _ _ w.1 (h.lo j), sumZ_mono j _ _ _ _ w.1 (h.hi j)⟩
theorem kept_1 {gs : List (List Int)} (h : inG o l gs) (hv : keepV o l = 1) : keptV o l gs = true := by
  have e := (keepL_1 o l _ 0 1 (Or.inl rfl)).1 hv
  refine (keptL_iff _ _ _ 0).2 fun j hj => ?_
  have a := (e.2 j hj).2
  have b := (sum_in k kb h j hj).2
  rw [Nat.zero_add] at a ⊢
  omega
theorem kept_2 {gs : List (List Int)} (h : inG o l gs) (hv : keepV o l = 2) : keptV o l gs = false := by
  obtain ⟨j, hj, a⟩ := (keepL_2 o l _ 0 1 (Or.inl rfl)).1 hv
  have b := (sum_in k kb h j hj).1
  rw [← Bool.not_eq_true]
  intro hk
  have := (keptL_iff _ _ _ 0).1 hk j hj
  rw [Nat.zero_add] at a this
  omega
end
theorem leG_app {j : Nat} : ∀ {A B C D : List (List Int)}, leG j A B → leG j C D → leG j (A ++ C) (B ++ D)
  | [], [], _, _, _, h => h
  | a :: A, b :: B, _, _, h, h' => ⟨h.1, leG_app h.2 h'⟩
  | [], _ :: _, _, _, h, _ => h.elim
  | _ :: _, [], _, _, h, _ => h.elim
theorem leG_rep {j : Nat} {a b : List Int} (h : a.getD j 0 ≤ b.getD j 0) : ∀ n : Nat, leG j (List.replicate n a) (List.replicate n b)
  | 0 => trivial
  | n + 1 => ⟨h, leG_rep h n⟩
theorem getD_in {nl : Nat} {b : MBin} (kb : OkB nl b) (j : Nat) : 0 ≤ (b.grams.getD j (0, 0)).1 ∧ (b.grams.getD j (0, 0)).1 ≤ (b.grams.getD j (0, 0)).2 ∧ (b.grams.getD j (0, 0)).2 ≤ 1000000 := by
  rw [List.getD_eq_getElem?_getD]
  by_cases hj : j < b.grams.length
  · rw [List.getElem?_eq_getElem hj]; exact kb.rng _ (List.getElem_mem hj)
  · rw [List.getElem?_eq_none (by omega)]; exact ⟨Int.le_refl _, Int.le_refl _, by decide⟩
theorem endG_sz (q : Bool) (j nl : Nat) : ∀ (bs : List MBin) (l : List Int), (∀ b ∈ bs, OkB nl b) → ∀ g ∈ endG q bs l, 0 ≤ g.getD j 0 ∧ g.getD j 0 ≤ 1000000
  | b :: bs, n :: l, hB, g, hg => by
    rw [endG, List.mem_append] at hg
    rcases hg with hg | hg
    · rw [(List.mem_replicate.1 hg).2, endR_getD]
      exact endR_in (getD_in (hB b (by simp)) j)
    · exact endG_sz q j nl bs l (fun c hc => hB c (by simp [hc])) g hg
  | [], [], _, g, hg => by simp at hg
  | [], _ :: _, _, g, hg => by simp [endG] at hg
  | _ :: _, [], _, g, hg => by simp at hg
theorem endG_le (j nl : Nat) : ∀ (bs : List MBin) (l : List Int), (∀ b ∈ bs, OkB nl b) → leG j (endG false bs l) (endG true bs l)
  | b :: bs, n :: l, hB => by
    refine leG_app (leG_rep ?_ _) (endG_le j nl bs l fun c hc => hB c (by simp [hc]))
    rw [endR_getD, endR_getD]
    exact (getD_in (hB b (by simp)) j).2.1
  | [], [], _ => trivial
  | [], _ :: _, _ => trivial
  | _ :: _, [], _ => by simp [leG]
theorem endG_in {o : MOrd} (k : OkO o) (l : List Int) (q : Bool) : inG o l (endG q o.bins l) where
  lo := fun j => by cases q; exact leG_same _ _; exact endG_le j _ _ _ k.bin
  hi := fun j => by cases q; exact endG_le j _ _ _ k.bin; exact leG_same _ _
  sz := fun j => endG_sz q j _ _ _ k.bin
theorem ends_1 {o : MOrd} {l : List Int} (k : OkO o) (kb : okBl o l) : decide (keepV o l = 1) = keptV o l (endG true o.bins l) := by
  by_cases h : keepV o l = 1
  · rw [kept_1 k kb (endG_in k l true) h]; simp [h]
  · rw [decide_eq_false h]
    symm
    rw [← Bool.not_eq_true]
    intro h'
    apply h
    refine (keepL_1 o l _ 0 1 (Or.inl rfl)).2 ⟨rfl, fun j hj => ?_⟩
    have a := (keptL_iff _ _ _ 0).1 h' j hj
    rw [Nat.zero_add] at a ⊢
    have e : beyL true o.limits o.bins j l 0 0 = sumG j o.limits[j] (gwL o.bins l) (endG true o.bins l) 0 := by
      rw [sum_Z k kb (endG_in k l true) j hj, bey_Z k kb true j hj, sumZ_end true _ _ _ _ (kb.pos k)]
    have b := (sum_in k kb (endG_in k l true) j hj).1
    rw [e]
    omega
theorem ends_2 {o : MOrd} {l : List Int} (k : OkO o) (kb : okBl o l) : decide (keepV o l = 2) = !keptV o l (endG false o.bins l) := by
  by_cases h : keepV o l = 2
  · rw [kept_2 k kb (endG_in k l false) h]; simp [h]
  · rw [decide_eq_false h]
    symm
    rw [Bool.not_eq_false']
    refine (keptL_iff _ _ _ 0).2 fun j hj h' => h ?_
    refine (keepL_2 o l _ 0 1 (Or.inl rfl)).2 ⟨j, hj, ?_⟩
    rw [Nat.zero_add] at h' ⊢
    rw [bey_Z k kb false j hj, ← sumZ_end false _ _ _ _ (kb.pos k), ← sum_Z k kb (endG_in k l false) j hj]
    exact h'
theorem MeltEnds_ok (nums : List Int) (hl : (nums.length : Int) < 9223372036854775807) : ACalls Try.prog 5 [.sl false false .U .no nums.length (eInts nums)] [] (.ret (.s (.bool true)) [] []) := by
  have k := (made 4 3 5 (feedS nums) (by decide) (by decide) (by decide)).ok (by decide) (by decide) (by decide)
  have kb := blendL_ok k (ordS 4 3 5 (feedS nums))
  exact ends_ok nums hl _ _ rfl rfl k kb (blendErr_0 k kb) (ends_1 k kb) (ends_2 k kb) (gw_lt k kb)
end Go.Ev
end

section
set_option linter.all false
open Go Go.Ev Go.Proofs Go.RowKit Go.ChangeShapes Go.WideShapes
namespace Go.Ev
set_option linter.unusedSimpArgs false
set_option linter.unusedVariables false

theorem Try.ownK : ownKnob Try.prog.godebug = none := by kernel_rfl
theorem Try.laid : laidOutB Try.prog = true := by kernel_rfl
theorem Try.cells3' : Try.prog.cellsOf 3 = 1 := by kernel_rfl
theorem Try.bytes3' : Try.prog.bytesOf 3 = 8 := by kernel_rfl
theorem rds_ints {w : World} {i1 i2 : Nat → Nat → Prop} (b : Nat) (hi : ∀ o, i1 b o) : ∀ (l : List Int) (o : Nat), (∀ i, i < l.length → w.cell? ⟨b, o + i, none⟩ = some (.int .i64 (l.getD i 0))) → RDs w i1 i2 (eInts l) b o
  | [], o, _ => by simp [RDs]
  | a :: l, o, h => by
    simp only [eInts_cons, RDs]
    refine ⟨hi o, ⟨.int .i64 a, by simpa using h 0 (by simp), rfl, by simp [RD]⟩, rds_ints b hi l (o + 1) fun i hi' => ?_⟩
    have := h (i + 1) (by simp; omega)
    rw [show o + (i + 1) = o + 1 + i by omega] at this
    simpa using this
theorem ints_in {P : Program} {H : Type} {enc : TypeId × Value → H} {W : World} {base : Nat} {v : Value} {d : DataW H} {ps : List MemPlace} {t e : TypeId} (ht : P.underlying t = some (.slice e)) (he : P.underlying e = some (.int .i64)) (hc : P.cellsOf e = 1) (h : DataW.Trod enc P W 0 (fun _ => true) true t v d ps) (hval : Value.okWide P W .any base t v)
    (hlt : ∀ x ∈ ps, x.block < W.heap.size) (hsz : ∀ e s, d = .slice e s → (e.length + s.length) * 8 ≤ reachBytes) :
    ∃ l : List Int, RV W (c0 (rdO W) []) (.sl false false .U .no l.length (eInts l)) v ∧ (l.length : Int) < 1000000000000000 := by
  obtain ⟨a0, len, cap, rfl⟩ := okWide_slice ht hval
  obtain ⟨fuel, hf⟩ := h
  have hrb : reachBytes < 140737488355328 := by have := reachBytes_lt; omega
  rcases open_ints ht he hc hf with ⟨hcs, hx⟩ | ⟨a, len', cap', zs, hcs, _, hl, hm, hz, hx, hcell, hwz⟩
  · have e : (Value.slice a0 len cap) = .slice none 0 0 := by simpa [Value.cells] using hcs
    cases e
    exact ⟨[], ⟨none, 0, rfl, Nat.le_refl _, ⟨rfl, rfl, rfl, by decide⟩, trivial⟩, by simp⟩
  · have e : (Value.slice a0 len cap) = .slice (some a) len' cap' := by simpa [Value.cells] using hcs
    cases e
    have hz' : zs.length = cap := by simpa using hz
    cases hx
    have hsp := hval
    simp only [Value.okWide, ht, Cell.okWide, Cell.ok, World.has] at hsp
    have hs : a.spot = none := hsp.2.2.2.1
    obtain ⟨b, off, sp⟩ := a
    simp only at hs
    subst hs
    have sz := hsz _ _ rfl
    have e1 : (zs.take len).length = len := by rw [List.length_take]; omega
    refine ⟨zs.take len, ⟨some ⟨b, off, none⟩, cap, by rw [e1], by rw [e1]; exact hl, ⟨.inl rfl, by simp, ?_⟩, trivial⟩, ?_⟩
    · by_cases h0 : len = 0
      · subst h0; simp [RDs]
      · refine rds_ints b (fun o => ?_) _ _ fun i hi => ?_
        · exact hlt (.cell b (off + 0)) (List.mem_map.2 ⟨0, List.mem_range.2 (by omega), rfl⟩)
        · rw [e1] at hi
          have := hcell i (by omega)
          rw [add_plain] at this
          rw [this]
          simp [List.getD, List.getElem?_take, hi]
    · simp [lits] at sz
      rw [e1]
      omega
end Go.Ev
end
