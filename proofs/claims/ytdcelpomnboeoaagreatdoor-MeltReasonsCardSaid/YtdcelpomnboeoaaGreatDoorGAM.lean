/- Lemmas for the claims of this seat: an evaluator over abstract values, its soundness, and the contracts of the functions of melt that it walks; no premise beyond what each theorem states. -/
import Derived.Test.YtdcelpomnboeoaaGreatDoorGAI
import Derived.Test.YtdcelpomnboeoaaGreatDoorGAJ
import Derived.Test.YtdcelpomnboeoaaGreatDoorGAK
import Derived.Test.YtdcelpomnboeoaaGreatDoorGAL
import Derived.Test.YtdcelpomnboeoaaGreatDoorGAH
import Derived.Test.YtdcelpomnboeoaaGreatDoorGAG

section
set_option linter.all false
open Go Go.Ev Go.Proofs
namespace Go.Ev
set_option linter.unusedSimpArgs false
set_option linter.all false

/-! ### What proofs prove -/
def sX (f : MBin → Int) : List MBin → List Int → Int
  | b :: bs, n :: l => n * f b + sX f bs l
  | _, _ => 0
theorem sX_nil (f : MBin → Int) (bs : List MBin) : sX f bs [] = 0 := by cases bs <;> rfl
theorem weighL_Z (bins : List MBin) (hb : ∀ b ∈ bins, (1 ≤ b.w ∧ b.w ≤ 10000) ∧ 0 ≤ b.c ∧ b.c ≤ 10000000) (h4 : bins.length ≤ 4) : ∀ (l : List Int) (i : Nat) (k c : Int), i + l.length ≤ bins.length → (∀ n ∈ l, 0 ≤ n ∧ n ≤ 6) → 0 ≤ k ∧ k ≤ 1000000000 * i → 0 ≤ c ∧ c ≤ 1000000000 * i →
    weighL bins l i k c = (k + sX (·.w) (bins.drop i) l, c + sX (·.c) (bins.drop i) l)
  | [], i, k, c, _, _, _, _ => by simp [weighL, sX_nil]
  | n :: l, i, k, c, hi, hn, hk, hc => by
    simp only [List.length_cons] at hi
    have hlt : i < bins.length := by omega
    obtain ⟨⟨w1, w2⟩, c1, c2⟩ := hb _ (List.getElem_mem hlt)
    obtain ⟨n1, n2⟩ := hn n (by simp)
    have m1 : 0 ≤ n * bins[i].w := Int.mul_nonneg n1 (by omega)
    have m2 : n * bins[i].w ≤ 6 * 10000 := Int.mul_le_mul n2 w2 (by omega) (by omega)
    have m3 : 0 ≤ n * bins[i].c := Int.mul_nonneg n1 c1
    have m4 : n * bins[i].c ≤ 6 * 10000000 := Int.mul_le_mul n2 c2 c1 (by omega)
    simp only [weighL, List.getElem?_eq_getElem hlt]
    rw [wr_small (n := n * bins[i].w) (by omega) (by omega), wr_small (n := n * bins[i].c) (by omega) (by omega), wr_small (n := k + _) (by omega) (by omega), wr_small (n := c + _) (by omega) (by omega),
      weighL_Z bins hb h4 l (i + 1) _ _ (by omega) (fun m hm => hn m (by simp [hm])) (by omega) (by omega), List.drop_eq_getElem_cons hlt]
    simp only [sX]
    rw [Int.add_assoc, Int.add_assoc]
section
variable {o : MOrd} (k : OkO o)
include k
theorem weighL_ok {l : List Int} (kb : okBl o l) : weighL o.bins l 0 0 0 = (sX (·.w) o.bins l, sX (·.c) o.bins l) := by
  have := weighL_Z o.bins (fun b hb => ⟨(k.bin b hb).w, (k.bin b hb).c⟩) k.nb l 0 0 0 (by have := kb.1; omega) (kb.pos k) (by omega) (by omega)
  simpa using this
end
/-- A box within an order, a blend within a box. -/
def okX : List MBin → List (Int × Int) → Prop
  | b :: bs, p :: x => (0 ≤ p.1 ∧ p.1 ≤ p.2 ∧ p.2 ≤ b.g) ∧ okX bs x
  | [], x => ∀ p ∈ x, p = (0, 0)
  | _ :: _, [] => False
def bX : List MBin → List (Int × Int) → List Int → Prop
  | _ :: bs, p :: x, n :: l => (p.1 ≤ n ∧ n ≤ p.2) ∧ bX bs x l
  | [], _, [] => True
  | _, _, _ => False
theorem bX_bl : ∀ {bs : List MBin} {x : List (Int × Int)} {l : List Int}, okX bs x → bX bs x l → l.length = bs.length ∧ ∀ (i : Nat) (h : i < bs.length) (h' : i < l.length), 0 ≤ l[i] ∧ l[i] ≤ bs[i].g
  | b :: bs, p :: x, n :: l, h, hi => by
    obtain ⟨e, f⟩ := bX_bl h.2 hi.2
    have h1 := h.1
    have h2 := hi.1
    refine ⟨by simp [e], fun i a c => ?_⟩
    cases i with
    | zero => simp only [List.getElem_cons_zero]; omega
    | succ i => simpa using f i (by simpa using a) (by simpa using c)
  | [], x, [], _, _ => ⟨rfl, fun i h => by simp at h⟩
  | [], x, _ :: _, _, hi => hi.elim
  | b :: bs, [], l, h, _ => h.elim
  | b :: bs, p :: x, [], _, hi => hi.elim
theorem bX_ok {o : MOrd} {x : List (Int × Int)} {l : List Int} (h : okX o.bins x) (hi : bX o.bins x l) : okBl o l := bX_bl h hi
def lowX : List MBin → List (Int × Int) → List Int
  | _ :: bs, p :: x => p.1 :: lowX bs x
  | _, _ => []
def highX : List MBin → List (Int × Int) → List Int
  | _ :: bs, p :: x => p.2 :: highX bs x
  | _, _ => []
theorem lowX_eq : ∀ (bs : List MBin) (x : List (Int × Int)), (x.take bs.length).map (·.1) = lowX bs x
  | b :: bs, p :: x => by simp [lowX, ← lowX_eq bs x]
  | [], x => by simp [lowX]
  | b :: bs, [] => by simp [lowX]
theorem highX_eq : ∀ (bs : List MBin) (x : List (Int × Int)), (x.take bs.length).map (·.2) = highX bs x
  | b :: bs, p :: x => by simp [highX, ← highX_eq bs x]
  | [], x => by simp [highX]
  | b :: bs, [] => by simp [highX]
theorem lowX_in : ∀ {bs : List MBin} {x : List (Int × Int)}, okX bs x → bX bs x (lowX bs x)
  | b :: bs, p :: x, h => ⟨⟨Int.le_refl _, h.1.2.1⟩, lowX_in h.2⟩
  | [], x, _ => trivial
  | b :: bs, [], h => h.elim
theorem highX_in : ∀ {bs : List MBin} {x : List (Int × Int)}, okX bs x → bX bs x (highX bs x)
  | b :: bs, p :: x, h => ⟨⟨h.1.2.1, Int.le_refl _⟩, highX_in h.2⟩
  | [], x, _ => trivial
  | b :: bs, [], h => h.elim
theorem sX_mono (f : MBin → Int) : ∀ {bs : List MBin} {x : List (Int × Int)} {l : List Int}, (∀ b ∈ bs, 0 ≤ f b) → bX bs x l → sX f bs (lowX bs x) ≤ sX f bs l ∧ sX f bs l ≤ sX f bs (highX bs x)
  | b :: bs, p :: x, n :: l, hf, hi => by
    obtain ⟨i1, i2⟩ := sX_mono f (fun c hc => hf c (by simp [hc])) hi.2
    have h0 := hf b (by simp)
    have h1 := Int.mul_le_mul_of_nonneg_right hi.1.1 h0
    have h2 := Int.mul_le_mul_of_nonneg_right hi.1.2 h0
    simp only [sX, lowX, highX]
    omega
  | [], x, [], _, _ => by simp [sX]
  | [], x, _ :: _, _, hi => hi.elim
  | b :: bs, [], l, _, h => by cases l <;> exact h.elim
  | b :: bs, p :: x, [], _, hi => hi.elim
def brkZ (lim : Int) (m : Nat) : List MBin → List (Int × Int) → Int
  | b :: bs, p :: x => (if 0 ≤ b.w * ((b.grams.getD m (0, 0)).2 - lim) then p.1 * (b.w * ((b.grams.getD m (0, 0)).2 - lim)) else p.2 * (b.w * ((b.grams.getD m (0, 0)).2 - lim))) + brkZ lim m bs x
  | _, _ => 0
theorem prod_in {a b A B : Int} (h1 : 0 ≤ a ∧ a ≤ A) (h2 : -B ≤ b ∧ b ≤ B) : -(A * B) ≤ a * b ∧ a * b ≤ A * B := by
  have hB : 0 ≤ B := by omega
  constructor
  · have q1 : a * (-B) ≤ a * b := Int.mul_le_mul_of_nonneg_left h2.1 h1.1
    have q2 : a * B ≤ A * B := Int.mul_le_mul_of_nonneg_right h1.2 hB
    rw [Int.mul_neg] at q1
    omega
  · have q1 : a * b ≤ a * B := Int.mul_le_mul_of_nonneg_left h2.2 h1.1
    have q2 : a * B ≤ A * B := Int.mul_le_mul_of_nonneg_right h1.2 hB
    omega
theorem brkL_Z (lim : Int) (hlim : 0 ≤ lim ∧ lim ≤ 1000000) (m nl : Nat) (x : List (Int × Int)) : ∀ (bs : List MBin) (i : Nat) (s : Int), (∀ b ∈ bs, OkB nl b) → okX bs (x.drop i) → i + bs.length ≤ 4 → -(1000000000000 * i) ≤ s ∧ s ≤ 1000000000000 * i → brkL lim m x bs i s = s + brkZ lim m bs (x.drop i)
  | [], i, s, _, _, _, _ => by simp [brkL, brkZ]
  | b :: bs, i, s, hb, hx, hi, hs => by
    simp only [List.length_cons] at hi
    cases hd : x.drop i with
    | nil => rw [hd] at hx; exact hx.elim
    | cons p y =>
      have e1 : x[i]? = some p := by
        have := List.getElem?_drop (xs := x) (i := i) (j := 0)
        rw [hd] at this
        simpa using this.symm
      have e2 : x.drop (i + 1) = y := by rw [← List.drop_drop, hd]; rfl
      rw [hd] at hx
      have kb := hb b (by simp)
      have gm := getD_in kb m
      have w := kb.w
      have hp := hx.1
      have hg := kb.g
      have t := prod_in (a := b.w) (b := (b.grams.getD m (0, 0)).2 - lim) (A := 10000) (B := 1000000) (by omega) (by omega)
      have hT : brkT lim m b = b.w * ((b.grams.getD m (0, 0)).2 - lim) := by
        unfold brkT
        rw [← List.getD_eq_getElem?_getD, wr_small (n := _ - lim) (by omega) (by omega), wr_small (by omega) (by omega)]
      generalize b.w * ((b.grams.getD m (0, 0)).2 - lim) = T at hT t
      have p1 := prod_in (a := p.1) (b := T) (A := 6) (B := 10000 * 1000000) (by omega) (by omega)
      have p2 := prod_in (a := p.2) (b := T) (A := 6) (B := 10000 * 1000000) (by omega) (by omega)
      have hT' : b.w * ((b.grams.getD m (0, 0)).2 - lim) = T := by rw [← hT]; unfold brkT; rw [← List.getD_eq_getElem?_getD, wr_small (n := _ - lim) (by omega) (by omega), wr_small]; all_goals (have := prod_in (a := b.w) (b := (b.grams.getD m (0, 0)).2 - lim) (A := 10000) (B := 1000000) (by omega) (by omega); omega)
      simp only [brkL, brkZ, hT, hT', e1, Option.getD_some]
      split
      · rw [wr_small (n := p.1 * T) (by omega) (by omega), wr_small (n := s + _) (by omega) (by omega), brkL_Z lim hlim m nl x bs (i + 1) _ (fun c hc => hb c (by simp [hc])) (by rw [e2]; exact hx.2) (by omega) (by omega), e2]
        omega
      · rw [wr_small (n := p.2 * T) (by omega) (by omega), wr_small (n := s + _) (by omega) (by omega), brkL_Z lim hlim m nl x bs (i + 1) _ (fun c hc => hb c (by simp [hc])) (by rw [e2]; exact hx.2) (by omega) (by omega), e2]
        omega
theorem brkZ_le (lim : Int) (m : Nat) : ∀ {bs : List MBin} {x : List (Int × Int)} {l : List Int}, bX bs x l → brkZ lim m bs x ≤ beyZ true m lim bs l
  | b :: bs, p :: x, n :: l, hi => by
    have ih := brkZ_le lim m hi.2
    have hi1 := hi.1
    simp only [brkZ, beyZ, endR, if_true]
    rw [Int.mul_assoc]
    generalize b.w * ((b.grams.getD m (0, 0)).2 - lim) = T
    split
    · rename_i h
      have := Int.mul_le_mul_of_nonneg_right hi1.1 h
      omega
    · rename_i h
      have h0 : 0 ≤ -T := by omega
      have := Int.mul_le_mul_of_nonneg_right hi1.2 h0
      rw [Int.mul_neg, Int.mul_neg] at this
      omega
  | [], x, [], _ => by simp [brkZ, beyZ]
  | [], x, _ :: _, hi => hi.elim
  | b :: bs, [], l, h => by cases l <;> exact h.elim
  | b :: bs, p :: x, [], hi => hi.elim
theorem brkZ_one (lim : Int) (m : Nat) : ∀ {bs : List MBin} {x : List (Int × Int)}, (∀ p ∈ x, p.1 = p.2) → okX bs x → brkZ lim m bs x = beyZ true m lim bs (lowX bs x)
  | b :: bs, p :: x, h1, h => by
    have ih := brkZ_one lim m (fun q hq => h1 q (by simp [hq])) h.2
    have e := h1 p (by simp)
    simp only [brkZ, beyZ, lowX, endR, if_true, ih]
    rw [Int.mul_assoc, ← e]
    simp
  | [], x, _, _ => by simp [brkZ, beyZ, lowX]
  | b :: bs, [], _, h => h.elim
theorem holdL_iff (q : Bool) (o : MOrd) (l : List Int) : ∀ (n j : Nat), holdL q o l n j = true ↔ ∀ i, i < n → ¬ 0 < beyL q o.limits o.bins (j + i) l 0 0
  | 0, j => by simp [holdL]
  | n + 1, j => by
    rw [holdL]
    split
    · rename_i h
      exact ⟨fun e => (by cases e), fun e => absurd h (e 0 (by omega))⟩
    · rename_i h
      rw [holdL_iff q o l n (j + 1)]
      constructor
      · intro h' i hi
        cases i with
        | zero => exact h
        | succ i => have := h' i (by omega); rwa [show j + 1 + i = j + (i + 1) by omega] at this
      · intro h' i hi
        have := h' (i + 1) (by omega)
        rwa [show j + (i + 1) = j + 1 + i by omega] at this
structure BX (o : MOrd) (x : List (Int × Int)) : Prop where
  ok : okX o.bins x
  len : x.length = 4
section
variable {o : MOrd} (k : OkO o) {x : List (Int × Int)} (bx : BX o x)
include k bx
theorem good_iff {l : List Int} (kb : okBl o l) : goodB o l = true ↔ (o.least ≤ sX (·.w) o.bins l ∧ sX (·.w) o.bins l ≤ o.most) ∧ ∀ (j : Nat) (h : j < o.limits.length), ¬ 0 < beyZ true j o.limits[j] o.bins l := by
  have e := holdL_iff true o l o.limits.length 0
  rw [← holdV] at e
  rw [goodB, decide_eq_true_eq, nW, weighL_ok k kb, keepV_1 k kb, e, and_assoc]
  refine and_congr_right fun _ => and_congr_right fun _ => ?_
  constructor
  · intro h j hj
    have := h j hj
    rwa [Nat.zero_add, bey_Z k kb true j hj] at this
  · intro h j hj
    have := h j hj
    rwa [Nat.zero_add, bey_Z k kb true j hj]
theorem low_bl : okBl o (lowX o.bins x) := bX_ok bx.ok (lowX_in bx.ok)
theorem high_bl : okBl o (highX o.bins x) := bX_ok bx.ok (highX_in bx.ok)
theorem lightB_iff : lightB o x = true ↔ sX (·.w) o.bins (highX o.bins x) < o.least := by
  rw [lightB, decide_eq_true_eq, highsB, highX_eq, weighL_ok k (high_bl k bx)]
theorem heavyB_iff : heavyB o x = true ↔ o.most < sX (·.w) o.bins (lowX o.bins x) := by
  rw [heavyB, decide_eq_true_eq, lowsB, lowX_eq, weighL_ok k (low_bl k bx)]
theorem dearB_iff (pr : Int) : dearB o pr x = true ↔ pr ≤ sX (·.c) o.bins (lowX o.bins x) := by
  rw [dearB, decide_eq_true_eq, lowsB, lowX_eq, weighL_ok k (low_bl k bx)]
theorem brkV_iff (j : Nat) (hj : j < o.limits.length) : brkV o x j = true ↔ 0 < brkZ o.limits[j] j o.bins x := by
  rw [brkV, decide_eq_true_eq, List.getElem?_eq_getElem hj, Option.getD_some, brkL_Z o.limits[j] (k.lim _ (List.getElem_mem hj)) j o.limits.length x o.bins 0 0 k.bin (by simpa using bx.ok) (by have := k.nb; omega) (by omega)]
  simp
/-- No blend of the box is good, and costs less than the price. -/
def noneB (o : MOrd) (pr : Int) (x : List (Int × Int)) : Prop := ∀ l, bX o.bins x l → goodB o l = true → ¬ cW o l < pr
theorem light_none (pr : Int) (h : lightB o x = true) : noneB o pr x := by
  intro l hl hg _
  have h1 := (lightB_iff k bx).1 h
  have h2 := ((good_iff k bx (bX_ok bx.ok hl)).1 hg).1.1
  have h3 := (sX_mono (·.w) (fun b hb => by have := (k.bin b hb).w; omega) hl).2
  omega
theorem heavy_none (pr : Int) (h : heavyB o x = true) : noneB o pr x := by
  intro l hl hg _
  have h1 := (heavyB_iff k bx).1 h
  have h2 := ((good_iff k bx (bX_ok bx.ok hl)).1 hg).1.2
  have h3 := (sX_mono (·.w) (fun b hb => by have := (k.bin b hb).w; omega) hl).1
  omega
theorem dear_none (pr : Int) (h : dearB o pr x = true) : noneB o pr x := by
  intro l hl hg hc
  have h1 := (dearB_iff k bx pr).1 h
  have h3 := (sX_mono (·.c) (fun b hb => by have := (k.bin b hb).c; omega) hl).1
  rw [cW, weighL_ok k (bX_ok bx.ok hl)] at hc
  simp only at hc
  omega
theorem brk_none (pr : Int) (j : Nat) (hj : j < o.limits.length) (h : brkV o x j = true) : noneB o pr x := by
  intro l hl hg _
  have h1 := (brkV_iff k bx j hj).1 h
  have h2 := ((good_iff k bx (bX_ok bx.ok hl)).1 hg).2 j hj
  have h3 := brkZ_le o.limits[j] j hl
  omega
end
theorem brokL_none (o : MOrd) (x : List (Int × Int)) : ∀ (n j : Nat), (brokL o x n j = none → ∀ i, i < n → brkV o x (j + i) = false) ∧ (∀ i, brokL o x n j = some i → j ≤ i ∧ i < j + n ∧ brkV o x i = true)
  | 0, j => by simp [brokL]
  | n + 1, j => by
    obtain ⟨a, b⟩ := brokL_none o x n (j + 1)
    rw [brokL]
    split
    · rename_i h
      exact ⟨fun e => (by cases e), fun i e => by cases e; exact ⟨by omega, by omega, h⟩⟩
    · rename_i h
      refine ⟨fun e i hi => ?_, fun i e => by have := b i e; exact ⟨by omega, by omega, this.2.2⟩⟩
      cases i with
      | zero => simpa using h
      | succ i => have := a e i (by omega); rwa [show j + 1 + i = j + (i + 1) by omega] at this
/-! cuts -/
theorem setHi_x : ∀ {bs : List MBin} {x : List (Int × Int)} {i : Nat} {p : Int × Int} {v : Int}, x[i]? = some p → okX bs x → i < bs.length → p.1 ≤ v → v ≤ p.2 → okX bs (setHi x i v) ∧ ∀ l, bX bs (setHi x i v) l → bX bs x l
  | b :: bs, q :: x, 0, p, v, h, hx, _, h1, h2 => by
    simp at h; subst h
    refine ⟨⟨⟨hx.1.1, h1, by have := hx.1; show v ≤ _; omega⟩, hx.2⟩, fun l hl => ?_⟩
    cases l with
    | nil => exact hl
    | cons n l => exact ⟨⟨hl.1.1, by have : n ≤ v := hl.1.2; omega⟩, hl.2⟩
  | b :: bs, q :: x, i + 1, p, v, h, hx, hi, h1, h2 => by
    obtain ⟨a, c⟩ := setHi_x (i := i) (by simpa using h) hx.2 (by simpa using hi) h1 h2
    refine ⟨⟨hx.1, a⟩, fun l hl => ?_⟩
    cases l with
    | nil => exact hl
    | cons n l => exact ⟨hl.1, c l hl.2⟩
  | [], x, i, p, v, _, _, hi, _, _ => by simp at hi
  | b :: bs, [], i, p, v, _, hx, _, _, _ => hx.elim
theorem setLo_x : ∀ {bs : List MBin} {x : List (Int × Int)} {i : Nat} {p : Int × Int} {v : Int}, x[i]? = some p → okX bs x → i < bs.length → p.1 ≤ v → v ≤ p.2 → okX bs (setLo x i v) ∧ ∀ l, bX bs (setLo x i v) l → bX bs x l
  | b :: bs, q :: x, 0, p, v, h, hx, _, h1, h2 => by
    simp at h; subst h
    refine ⟨⟨⟨by have := hx.1; show 0 ≤ v; omega, h2, hx.1.2.2⟩, hx.2⟩, fun l hl => ?_⟩
    cases l with
    | nil => exact hl
    | cons n l => exact ⟨⟨by have : v ≤ n := hl.1.1; omega, hl.1.2⟩, hl.2⟩
  | b :: bs, q :: x, i + 1, p, v, h, hx, hi, h1, h2 => by
    obtain ⟨a, c⟩ := setLo_x (i := i) (by simpa using h) hx.2 (by simpa using hi) h1 h2
    refine ⟨⟨hx.1, a⟩, fun l hl => ?_⟩
    cases l with
    | nil => exact hl
    | cons n l => exact ⟨hl.1, c l hl.2⟩
  | [], x, i, p, v, _, _, hi, _, _ => by simp at hi
  | b :: bs, [], i, p, v, _, hx, _, _, _ => hx.elim
theorem cut_x : ∀ {bs : List MBin} {x : List (Int × Int)} {l : List Int} (i : Nat) (v : Int), bX bs x l → bX bs (setHi x i v) l ∨ bX bs (setLo x i (v + 1)) l
  | b :: bs, q :: x, n :: l, 0, v, h => by
    have h1 := h.1
    by_cases hv : n ≤ v
    · exact .inl ⟨⟨h1.1, hv⟩, h.2⟩
    · exact .inr ⟨⟨by show v + 1 ≤ n; omega, h1.2⟩, h.2⟩
  | b :: bs, q :: x, n :: l, i + 1, v, h => by
    rcases cut_x i v h.2 with c | c
    · exact .inl ⟨h.1, c⟩
    · exact .inr ⟨h.1, c⟩
  | [], x, [], i, v, _ => .inl trivial
  | [], x, _ :: _, i, v, h => h.elim
  | b :: bs, [], l, i, v, h => by cases l <;> exact h.elim
  | b :: bs, p :: x, [], i, v, h => h.elim
theorem okX_get : ∀ {bs : List MBin} {x : List (Int × Int)} {i : Nat} {p : Int × Int}, okX bs x → x[i]? = some p → (i < bs.length → ∃ b ∈ bs, 0 ≤ p.1 ∧ p.1 ≤ p.2 ∧ p.2 ≤ b.g) ∧ (¬ i < bs.length → p = (0, 0))
  | b :: bs, q :: x, 0, p, h, hp => by
    simp at hp; subst hp
    exact ⟨fun _ => ⟨b, by simp, h.1⟩, fun e => absurd (by simp) e⟩
  | b :: bs, q :: x, i + 1, p, h, hp => by
    obtain ⟨a, c⟩ := okX_get (i := i) h.2 (by simpa using hp)
    refine ⟨fun hi => ?_, fun hi => c (by simpa using hi)⟩
    obtain ⟨b', hb', r⟩ := a (by simpa using hi)
    exact ⟨b', by simp [hb'], r⟩
  | [], x, i, p, h, hp => ⟨fun e => by simp at e, fun _ => h p (List.mem_of_getElem? hp)⟩
  | b :: bs, [], i, p, h, _ => h.elim
section
variable {o : MOrd} (k : OkO o)
include k
theorem BX.bx {x : List (Int × Int)} (b : BX o x) : okBx x := by
  intro p hp
  obtain ⟨i, hi⟩ := List.getElem?_of_mem hp
  obtain ⟨a, c⟩ := okX_get b.ok hi
  by_cases h : i < o.bins.length
  · obtain ⟨q, hq, r⟩ := a h
    have := (k.bin q hq).g
    omega
  · rw [c h]; exact ⟨Int.le_refl _, Int.le_refl _, by decide⟩
theorem BX.hi {x : List (Int × Int)} (b : BX o x) {i : Nat} {p : Int × Int} {v : Int} (hp : x[i]? = some p) (hi : i < o.bins.length) (h1 : p.1 ≤ v) (h2 : v ≤ p.2) : BX o (setHi x i v) := ⟨(setHi_x hp b.ok hi h1 h2).1, by rw [setHi_len, b.len]⟩
theorem BX.lo {x : List (Int × Int)} (b : BX o x) {i : Nat} {p : Int × Int} {v : Int} (hp : x[i]? = some p) (hi : i < o.bins.length) (h1 : p.1 ≤ v) (h2 : v ≤ p.2) : BX o (setLo x i v) := ⟨(setLo_x hp b.ok hi h1 h2).1, by rw [setLo_len, b.len]⟩
/-- What is right for Verify holds. -/
theorem ver_none (pr : Int) : ∀ (m : Nat) (x : List (Int × Int)) (r r' : List MBd), BX o x → verR o pr m x r = (0, r') → noneB o pr x
  | 0, x, r, r', _, h => by simp [verR] at h
  | m + 1, x, [], r', _, h => by simp [verR] at h
  | m + 1, x, b :: r, r', bx, h => by
    simp only [verR] at h
    have hn := k.nb
    split at h
    · split at h
      · cases h
      · rename_i h1 h2
        have h2 := inB_iff.1 (by simpa [-wr_def] using h2)
        rw [wr_small (by omega) (by omega)] at h2
        split at h
        · cases h
        · rename_i h3
          have hlen := bx.len
          obtain ⟨p, hp⟩ : ∃ p, x[b.a.toNat]? = some p := ⟨_, List.getElem?_eq_getElem (by omega)⟩
          have hpb := okBx_get (BX.bx k bx) hp
          rw [hp, Option.getD_some] at h3
          have h3 := inB_iff.1 (by simpa [-wr_def] using h3)
          rw [wr_small (by omega) (by omega)] at h3
          split at h
          · rename_i h4
            have b1 := BX.hi k bx hp (v := b.c) (by omega) (by omega) (by omega)
            rw [wr_small (n := b.c + 1) (by omega) (by omega)] at h
            have b2 := BX.lo k bx hp (v := b.c + 1) (by omega) (by omega) (by omega)
            have n1 := ver_none pr m _ r (verR o pr m (setHi x b.a.toNat b.c) r).2 b1 (by rw [← h4])
            have n2 := ver_none pr m _ _ _ b2 h
            intro l hl
            rcases cut_x b.a.toNat b.c hl with c | c
            · exact n1 l c
            · exact n2 l c
          · rename_i h4
            exact absurd (by rw [h]) h4
    · split at h
      · split at h
        · rename_i q; exact light_none k bx pr q
        · cases h
      · split at h
        · split at h
          · rename_i q; exact heavy_none k bx pr q
          · cases h
        · split at h
          · split at h
            · cases h
            · rename_i h2
              have h2 := inB_iff.1 (by simpa [-wr_def] using h2)
              have := k.nl
              rw [wr_small (by omega) (by omega)] at h2
              split at h
              · rename_i q; exact brk_none k bx pr b.a.toNat (by omega) q
              · cases h
          · split at h
            · split at h
              · rename_i q; exact dear_none k bx pr q
              · cases h
            · cases h
theorem one_good {x : List (Int × Int)} (bx : BX o x) (pr : Int) (h1 : x = oneB x) (g1 : ¬ lightB o x = true) (g2 : ¬ heavyB o x = true) (g3 : ¬ brokI o x = true) (g4 : ¬ dearB o pr x = true) : ∃ l, bX o.bins x l ∧ goodB o l = true ∧ cW o l < pr := by
  have hq : ∀ p ∈ x, p.1 = p.2 := by
    intro p hp
    rw [h1] at hp
    obtain ⟨q, _, rfl⟩ := List.mem_map.1 hp
    rfl
  have hlh : highX o.bins x = lowX o.bins x := by
    have : ∀ (bs : List MBin) (x : List (Int × Int)), (∀ p ∈ x, p.1 = p.2) → highX bs x = lowX bs x := by
      intro bs
      induction bs with
      | nil => intro x _; rfl
      | cons b bs ih =>
        intro x hx
        cases x with
        | nil => rfl
        | cons p x => simp only [highX, lowX]; rw [ih x fun q hq => hx q (by simp [hq]), hx p (by simp)]
    exact this _ _ hq
  have kb := low_bl k bx
  refine ⟨lowX o.bins x, lowX_in bx.ok, (good_iff k bx kb).2 ⟨⟨?_, ?_⟩, fun j hj => ?_⟩, ?_⟩
  · have := mt (lightB_iff k bx).2 g1; rw [hlh] at this; omega
  · have := mt (heavyB_iff k bx).2 g2; omega
  · have hb : brokV o x = none := by
      cases hb : brokV o x with
      | none => rfl
      | some i => exact absurd (by rw [brokI, hb]; rfl) g3
    have := (brokL_none o x o.limits.length 0).1 hb j hj
    rw [Nat.zero_add] at this
    have := mt (brkV_iff k bx j hj).2 (by rw [this]; simp)
    rwa [brkZ_one o.limits[j] j hq bx.ok] at this
  · have := mt (dearB_iff k bx pr).2 g4
    rw [cW, weighL_ok k kb]
    simp only
    omega
theorem plain_spec (pr : Int) : ∀ (n : Nat) (x : List (Int × Int)), BX o x → sizeBx x < n →
    (plainL o pr n x = none → ∃ l, bX o.bins x l ∧ goodB o l = true ∧ cW o l < pr) ∧
    ∀ p, plainL o pr n x = some p → ∀ (m : Nat) (rest : List MBd), p.length + rest.length < m → verR o pr m x (p ++ rest) = (0, rest)
  | 0, x, _, h => by omega
  | n + 1, x, bx, hs => by
    have hbx := BX.bx k bx
    have hn := k.nb
    rw [plainL]
    split
    · rename_i g1
      refine ⟨fun e => (by cases e), fun p e m rest hm => ?_⟩
      cases e
      obtain ⟨m, rfl⟩ : ∃ q, m = q + 1 := ⟨m - 1, by omega⟩
      simp [verR, g1]
    rename_i g1
    split
    · rename_i g2
      refine ⟨fun e => (by cases e), fun p e m rest hm => ?_⟩
      cases e
      obtain ⟨m, rfl⟩ : ∃ q, m = q + 1 := ⟨m - 1, by omega⟩
      simp [verR, g2]
    rename_i g2
    split
    · rename_i g3
      refine ⟨fun e => (by cases e), fun p e m rest hm => ?_⟩
      cases e
      obtain ⟨m, rfl⟩ : ∃ q, m = q + 1 := ⟨m - 1, by omega⟩
      have hb : ∃ i, brokV o x = some i := by
        cases hb : brokV o x with
        | none => rw [brokI, hb] at g3; cases g3
        | some i => exact ⟨i, rfl⟩
      obtain ⟨i, hi⟩ := hb
      obtain ⟨_, q1, q2⟩ := (brokL_none o x o.limits.length 0).2 i hi
      have hA : brokA o x = i := by rw [brokA, hi]
      have := k.nl
      have hin : inB (i : Int) 0 (wr (o.limits.length - 1)) = true := by
        rw [wr_small (by omega) (by omega)]
        exact inB_iff.2 (by omega)
      simp only [wr] at hin
      simp [verR, hA, hin, q2]
    rename_i g3
    split
    · rename_i g4
      refine ⟨fun e => (by cases e), fun p e m rest hm => ?_⟩
      cases e
      obtain ⟨m, rfl⟩ : ∃ q, m = q + 1 := ⟨m - 1, by omega⟩
      simp [verR, g4]
    rename_i g4
    split
    · rename_i g5
      exact ⟨fun _ => one_good k bx pr g5 g1 g2 g3 g4, fun p e => by cases e⟩
    rename_i g5
    obtain ⟨f1, p0, f2, f3⟩ := firstD_lt x g5
    have hp0 := okBx_get hbx f2
    have hlt : firstD x < o.bins.length := by
      rcases Nat.lt_or_ge (firstD x) o.bins.length with h | h
      · exact h
      · have := (okX_get bx.ok f2).2 (by omega)
        rw [this] at f3
        exact absurd rfl f3
    have hmid := midB_eq hbx f2
    have hm1 : p0.1 ≤ midB x := by omega
    have hm2 : midB x < p0.2 := by omega
    have hw : wr (midB x + 1) = midB x + 1 := wr_small (by omega) (by omega)
    obtain ⟨⟨_, z1⟩, _, z2⟩ := halves hbx g5
    rw [hw] at z2 ⊢
    have b1 := BX.hi k bx f2 hlt hm1 (by omega)
    have b2 := BX.lo k bx f2 (v := midB x + 1) hlt (by omega) (by omega)
    obtain ⟨i1, i2⟩ := plain_spec pr n _ b1 (by omega)
    obtain ⟨j1, j2⟩ := plain_spec pr n _ b2 (by omega)
    have back1 := (setHi_x f2 bx.ok hlt hm1 (by omega)).2
    have back2 := (setLo_x (v := midB x + 1) f2 bx.ok hlt (by omega) (by omega)).2
    cases hA : plainL o pr n (setHi x (firstD x) (midB x)) with
    | none =>
      refine ⟨fun _ => ?_, fun p e => by cases e⟩
      obtain ⟨l, q1, q2⟩ := i1 hA
      exact ⟨l, back1 l q1, q2⟩
    | some a =>
      cases hB : plainL o pr n (setLo x (firstD x) (midB x + 1)) with
      | none =>
        refine ⟨fun _ => ?_, fun p e => by cases e⟩
        obtain ⟨l, q1, q2⟩ := j1 hB
        exact ⟨l, back2 l q1, q2⟩
      | some b =>
        refine ⟨fun e => (by cases e), fun p e m rest hm => ?_⟩
        cases e
        obtain ⟨m, rfl⟩ : ∃ q, m = q + 1 := ⟨m - 1, by omega⟩
        simp only [List.length_cons, List.length_append] at hm
        have v1 := i2 a hA m (b ++ rest) (by simp; omega)
        have v2 := j2 b hB m rest (by omega)
        have hin : inB (firstD x : Int) 0 (wr (o.bins.length - 1)) = true := by
          rw [wr_small (by omega) (by omega)]
          exact inB_iff.2 (by omega)
        have hin2 : inB (midB x) p0.1 (wr (p0.2 - 1)) = true := by
          rw [wr_small (by omega) (by omega)]
          exact inB_iff.2 (by omega)
        rw [List.cons_append, List.append_assoc]
        simp only [verR, if_true]
        rw [if_neg (by rw [hin]; simp), Int.toNat_natCast, f2, Option.getD_some, if_neg (by rw [hin2]; simp), v1, hw]
        simp [v2]
theorem whole_X : BX o (wholeB o) := by
  refine ⟨?_, (whole_facts k).1⟩
  have hg := fun b hb => (k.bin b hb).g
  have hn := k.nb
  unfold wholeB
  generalize o.bins = bs at hg hn
  match bs, hn with
  | [], _ => intro p hp; simp [wholeL, bx0] at hp; exact hp
  | [a], _ =>
    have h1 := hg a (by simp)
    simp only [wholeL, setHi, bx0, okX]
    refine ⟨by simp; omega, ?_⟩
    simp
  | [a, b], _ =>
    have h1 := hg a (by simp); have h2 := hg b (by simp)
    simp only [wholeL, setHi, bx0, okX]
    refine ⟨by simp; omega, by simp; omega, ?_⟩
    simp
  | [a, b, c], _ =>
    have h1 := hg a (by simp); have h2 := hg b (by simp); have h3 := hg c (by simp)
    simp only [wholeL, setHi, bx0, okX]
    refine ⟨by simp; omega, by simp; omega, by simp; omega, ?_⟩
    simp
  | [a, b, c, d], _ =>
    have h1 := hg a (by simp); have h2 := hg b (by simp); have h3 := hg c (by simp); have h4 := hg d (by simp)
    simp only [wholeL, setHi, bx0, okX]
    refine ⟨by simp; omega, by simp; omega, by simp; omega, by simp; omega, ?_⟩
    simp
theorem whole_in {l : List Int} (kb : okBl o l) : bX o.bins (wholeB o) l := by
  have hn := k.nb
  obtain ⟨e, h⟩ := kb
  unfold wholeB
  generalize o.bins = bs at hn e h
  match bs, l, hn, e with
  | [], [], _, _ => trivial
  | [a], [n], _, _ =>
    have h1 := h 0 (by simp) (by simp)
    simp only [List.getElem_cons_zero] at h1
    exact ⟨h1, trivial⟩
  | [a, b], [n, m], _, _ =>
    have h1 := h 0 (by simp) (by simp); have h2 := h 1 (by simp) (by simp)
    simp only [List.getElem_cons_zero, List.getElem_cons_succ] at h1 h2
    exact ⟨h1, h2, trivial⟩
  | [a, b, c], [n, m, q], _, _ =>
    have h1 := h 0 (by simp) (by simp); have h2 := h 1 (by simp) (by simp); have h3 := h 2 (by simp) (by simp)
    simp only [List.getElem_cons_zero, List.getElem_cons_succ] at h1 h2 h3
    exact ⟨h1, h2, h3, trivial⟩
  | [a, b, c, d], [n, m, q, r], _, _ =>
    have h1 := h 0 (by simp) (by simp); have h2 := h 1 (by simp) (by simp); have h3 := h 2 (by simp) (by simp); have h4 := h 3 (by simp) (by simp)
    simp only [List.getElem_cons_zero, List.getElem_cons_succ] at h1 h2 h3 h4
    exact ⟨h1, h2, h3, h4, trivial⟩
end
end Go.Ev
end

section
set_option linter.all false
open Go Go.Ev Go.Proofs
namespace Go.Ev
set_option linter.unusedSimpArgs false
set_option linter.unusedVariables false

set_option maxRecDepth 100000

def verE (o : MOrd) (pr : Int) (p : List MBd) : Int :=
  if priceErr o pr = 0 then if 6000 < p.length then 6 else if (verR o pr (p.length + 1) (wholeB o) p).1 = 0 then (if 0 < (verR o pr (p.length + 1) (wholeB o) p).2.length then 2 else 0) else (verR o pr (p.length + 1) (wholeB o) p).1
  else priceErr o pr

/-- How many blends a box has. -/
def volX : List (Int × Int) → Nat
  | [] => 1
  | p :: x => (p.2 - p.1 + 1).toNat * volX x
theorem volX_cut : ∀ (x : List (Int × Int)) (i : Nat) (p : Int × Int) (v : Int), x[i]? = some p → p.1 ≤ v → v < p.2 → volX (setHi x i v) + volX (setLo x i (v + 1)) = volX x
  | [], i, p, v, h, _, _ => by simp at h
  | q :: x, 0, p, v, h, h1, h2 => by
    simp at h; subst h
    simp only [setHi, setLo, volX]
    rw [← Nat.add_mul]
    congr 1
    omega
  | q :: x, i + 1, p, v, h, h1, h2 => by
    simp only [setHi, setLo, volX]
    rw [← Nat.mul_add, volX_cut x i p v (by simpa using h) h1 h2]
theorem volX_pos : ∀ (x : List (Int × Int)), okBx x → 1 ≤ volX x
  | [], _ => by simp [volX]
  | p :: x, h => by
    have h1 := h p (by simp)
    have h2 := volX_pos x fun q hq => h q (by simp [hq])
    simp only [volX]
    exact Nat.mul_pos (by omega) h2
theorem volX_le : ∀ (x : List (Int × Int)), (∀ p ∈ x, 0 ≤ p.1 ∧ p.2 ≤ 6) → volX x ≤ 7 ^ x.length
  | [], _ => by simp [volX]
  | p :: x, h => by
    have h1 := h p (by simp)
    have h2 := volX_le x fun q hq => h q (by simp [hq])
    simp only [volX, List.length_cons]
    rw [Nat.pow_succ, Nat.mul_comm]
    exact Nat.mul_le_mul h2 (by omega)
theorem plain_vol {o : MOrd} (k : OkO o) (pr : Int) : ∀ (n : Nat) (x : List (Int × Int)), BX o x → ∀ p, plainL o pr n x = some p → p.length + 1 ≤ 2 * volX x
  | 0, x, _, p, h => by simp [plainL] at h
  | n + 1, x, bx, p, h => by
    have hbx := BX.bx k bx
    have hv := volX_pos x hbx
    rw [plainL] at h
    split at h
    · cases h; simp; omega
    split at h
    · cases h; simp; omega
    split at h
    · cases h; simp; omega
    split at h
    · cases h; simp; omega
    split at h
    · cases h
    rename_i g5
    obtain ⟨f1, p0, f2, f3⟩ := firstD_lt x g5
    have hp0 := okBx_get hbx f2
    have hlt : firstD x < o.bins.length := by
      rcases Nat.lt_or_ge (firstD x) o.bins.length with h | h
      · exact h
      · have := (okX_get bx.ok f2).2 (by omega)
        rw [this] at f3
        exact absurd rfl f3
    have hmid := midB_eq hbx f2
    have hw : wr (midB x + 1) = midB x + 1 := wr_small (by omega) (by omega)
    rw [hw] at h
    have b1 := BX.hi k bx f2 (v := midB x) hlt (by omega) (by omega)
    have b2 := BX.lo k bx f2 (v := midB x + 1) hlt (by omega) (by omega)
    have hc := volX_cut x (firstD x) p0 (midB x) f2 (by omega) (by omega)
    split at h
    · rename_i a b hA hB
      cases h
      have := plain_vol k pr n _ b1 a hA
      have := plain_vol k pr n _ b2 b hB
      simp only [List.length_cons, List.length_append]
      omega
    · cases h
theorem whole_vol {o : MOrd} (k : OkO o) : volX (wholeB o) ≤ 2401 := by
  have bx := whole_X k
  have h := volX_le (wholeB o) fun p hp => by
    obtain ⟨i, hi⟩ := List.getElem?_of_mem hp
    obtain ⟨a, c⟩ := okX_get bx.ok hi
    by_cases h : i < o.bins.length
    · obtain ⟨q, hq, r⟩ := a h
      have := (k.bin q hq).g
      omega
    · rw [c h]; exact ⟨Int.le_refl _, by decide⟩
  rw [bx.len] at h
  exact h
theorem allB_of : ∀ {bs : List MBin} {l r : List Int}, okR bs r → l ++ r ∈ allB bs l
  | [], l, [], _ => by simp [allB]
  | [], l, _ :: _, h => h.elim
  | b :: bs, l, [], h => h.elim
  | b :: bs, l, n :: r, h => by
    rw [allB]
    have key : ∀ (m k : Nat) (j : Nat), k ≤ j → j < k + m → ∀ x ∈ allB bs (l ++ [(j : Int)]), x ∈ catN (fun k => allB bs (l ++ [(k : Int)])) m k := by
      intro m
      induction m with
      | zero => intro k j h1 h2; omega
      | succ m ih =>
        intro k j h1 h2 x hx
        rw [catN, List.mem_append]
        by_cases e : j = k
        · subst e; exact .inl hx
        · exact .inr (ih (k + 1) j (by omega) (by omega) x hx)
    have hn := h.1
    have := allB_of (l := l ++ [n]) h.2
    refine key _ 0 n.toNat (by omega) (by omega) _ ?_
    rw [show ((n.toNat : Nat) : Int) = n by omega]
    simpa using this
theorem okR_of : ∀ {bs : List MBin} {l : List Int}, l.length = bs.length → (∀ (i : Nat) (h : i < bs.length) (h' : i < l.length), 0 ≤ l[i] ∧ l[i] ≤ bs[i].g) → okR bs l
  | [], [], _, _ => trivial
  | [], _ :: _, e, _ => by simp at e
  | _ :: _, [], e, _ => by simp at e
  | b :: bs, n :: l, e, h => ⟨h 0 (by simp) (by simp), okR_of (by simpa using e) fun i a c => h (i + 1) (by simpa using a) (by simpa using c)⟩
theorem all_of {o : MOrd} {l : List Int} (h : okBl o l) : l ∈ allB o.bins [] := by simpa using allB_of (l := []) (okR_of h.1 h.2)
section
variable {o : MOrd} (k : OkO o)
include k
theorem cost_in {l : List Int} (kb : okBl o l) : 0 ≤ cW o l ∧ cW o l ≤ 240000000 := by
  rw [cW, weighL_ok k kb]
  have key : ∀ (bs : List MBin) (l : List Int), (∀ b ∈ bs, 0 ≤ b.c ∧ b.c ≤ 10000000) → (∀ n ∈ l, 0 ≤ n ∧ n ≤ 6) → 0 ≤ sX (·.c) bs l ∧ sX (·.c) bs l ≤ 60000000 * bs.length := by
    intro bs
    induction bs with
    | nil => intro l _ _; cases l <;> simp [sX]
    | cons b bs ih =>
      intro l hb hl
      cases l with
      | nil => simp only [sX, List.length_cons]; omega
      | cons n l =>
        have i := ih l (fun c hc => hb c (by simp [hc])) (fun m hm => hl m (by simp [hm]))
        have hb0 := hb b (by simp)
        have hn := hl n (by simp)
        have p1 : 0 ≤ n * b.c := Int.mul_nonneg hn.1 hb0.1
        have p2 : n * b.c ≤ 6 * 10000000 := Int.mul_le_mul hn.2 hb0.2 hb0.1 (by omega)
        simp only [sX, List.length_cons]
        omega
  have := key o.bins l (fun b hb => (k.bin b hb).c) (kb.pos k)
  have := k.nb
  simp only
  omega
theorem cheap_facts : (cheapE o = 13 ∧ cheapC o = 0 ∧ cheapB o = [] ∧ ∀ l, okBl o l → goodB o l = false) ∨
    (cheapE o = 0 ∧ (0 ≤ cheapC o ∧ cheapC o ≤ 240000000) ∧ (∃ l, okBl o l ∧ goodB o l = true ∧ cW o l = cheapC o) ∧ ∀ l, okBl o l → goodB o l = true → cheapC o ≤ cW o l) := by
  have e0 := ordErr_0 k
  simp only [cheapE, cheapC, cheapB, if_pos e0]
  rcases cheap_FS k with ⟨h, hn⟩ | ⟨h1, h2, h3, h4⟩
  · left
    rw [h]
    exact ⟨by simp, by simp, by simp, fun l hl => hn l (all_of hl)⟩
  · right
    have kb := all_ok h1
    have hne : ¬ (cheapR o).1.length = 0 := by
      rw [kb.1]; intro e; exact k.ne (List.length_eq_zero_iff.1 e)
    simp only [if_neg hne]
    refine ⟨by simp, by rw [h3]; exact cost_in k kb, ⟨_, kb, h2, h3.symm⟩, fun l hl hg => ?_⟩
    obtain ⟨i, hi, rfl⟩ := List.getElem_of_mem (all_of hl)
    exact (h4 i hi hg).1
theorem prove_facts (pr : Int) (hp : 0 ≤ pr ∧ pr ≤ 300000000) : (prvE o pr = 13 ∧ prvL o pr = [] ∧ ∃ l, okBl o l ∧ goodB o l = true ∧ cW o l < pr) ∨
    (prvE o pr = 0 ∧ verE o pr (prvL o pr) = 0 ∧ (prvL o pr).length ≤ 6000 ∧ ∀ l, okBl o l → goodB o l = true → ¬ cW o l < pr) := by
  have e0 := ordErr_0 k
  have ep : priceErr o pr = 0 := by rw [priceErr, if_pos e0, if_pos (inB_iff.2 hp)]
  have bx := whole_X k
  obtain ⟨s1, s2⟩ := plain_spec k pr 41 (wholeB o) bx (whole_facts k).2.2
  simp only [prvE, prvL, proveN, if_pos ep]
  have hq : plainL o pr 41 (wholeB o) = none ∨ ∃ p, plainL o pr 41 (wholeB o) = some p := by cases plainL o pr 41 (wholeB o) <;> simp
  rcases hq with hq | ⟨p, hq⟩
  · left
    obtain ⟨l, a, b⟩ := s1 hq
    simp only [hq]
    exact ⟨by simp, rfl, l, bX_ok bx.ok a, b⟩
  · right
    have hv := plain_vol k pr 41 _ bx p hq
    have hw := whole_vol k
    have hr := s2 p hq (p.length + 1) [] (by simp)
    rw [List.append_nil] at hr
    simp only [hq]
    refine ⟨by simp, ?_, by simp only [Option.getD_some]; omega, fun l hl hg => ver_none k pr _ _ _ _ bx hr l (whole_in k hl) hg⟩
    rw [verE, if_pos ep, Option.getD_some, if_neg (by omega), hr]
    rfl
end

end Go.Ev
end

section
set_option linter.all false
open Go Go.Ev Go.Proofs
namespace Go.Ev
set_option linter.unusedSimpArgs false
set_option linter.unusedVariables false
/-! ### Numbers in cells that are turned -/
def aInts (l : List Int) : List AV := l.map fun i => .s (.int .i64 i)
@[simp] theorem map_eInts (g f : Bool) (l : List Int) : (eInts l).map (D.av g f) = aInts l := by
  induction l with
  | nil => rfl
  | cons i l ih => simp only [eInts, aInts, List.map_cons] at ih ⊢; rw [ih]; rfl
@[simp] theorem aInts_len (l : List Int) : (aInts l).length = l.length := by simp [aInts]
@[simp] theorem aInts_empty (l : List Int) : (aInts l).isEmpty = l.isEmpty := by cases l <;> rfl
@[simp] theorem aInts_nil (l : List Int) : (aInts l = []) ↔ (l = []) := by cases l <;> simp [aInts]
@[simp] theorem mem_aInts {x : AV} {l : List Int} : x ∈ aInts l ↔ ∃ i, i ∈ l ∧ AV.s (.int .i64 i) = x := by simp [aInts]
@[simp high] theorem aInts_noMen (d : Nat) (l : List Int) : noMen d (aInts l) = true := by
  unfold noMen
  refine List.all_eq_true.2 fun x hx => ?_
  obtain ⟨i, _, rfl⟩ := List.mem_map.1 hx
  rfl
@[simp] theorem aInts_noMen' (d : Nat) (l : List Int) : ((aInts l).all fun x => !decide (Ref.own d ∈ x.refs)) = true := aInts_noMen d l
@[simp] theorem aInts_purge (d : Nat) (l : List Int) : (aInts l).map (purgeAV d) = aInts l := by
  unfold aInts
  rw [List.map_map]
  rfl
@[simp] theorem aInts_isCell (l : List Int) : (aInts l).all AV.isCell = true := by
  refine List.all_eq_true.2 fun x hx => ?_
  obtain ⟨i, _, rfl⟩ := List.mem_map.1 hx
  rfl
@[simp] theorem aInts_mapRef (ρ : Ref → Option Ref) (l : List Int) : mapRefL ρ (aInts l) = aInts l := by
  induction l with
  | nil => rfl
  | cons i l ih => simp only [aInts, List.map_cons, mapRefL] at ih ⊢; rw [ih]; rfl
@[simp] theorem aInts_asObj (l : List Int) : asObjL (aInts l) = aInts l := by
  induction l with
  | nil => rfl
  | cons i l ih => simp only [aInts, List.map_cons, asObjL] at ih ⊢; rw [ih]; rfl
@[simp] theorem aInts_asArg (l : List Int) : asArgL (aInts l) = aInts l := by
  induction l with
  | nil => rfl
  | cons i l ih => simp only [aInts, List.map_cons, asArgL] at ih ⊢; rw [ih]; rfl
@[simp] theorem aInts_refs (l : List Int) : refsL (aInts l) = [] := by
  induction l with
  | nil => rfl
  | cons i l ih => simp only [aInts, List.map_cons, refsL] at ih ⊢; rw [ih]; rfl
@[simp] theorem aInts_toDs (l : List Int) : toDs? (aInts l) = some (eInts l, true) := by
  induction l with
  | nil => rfl
  | cons i l ih => simp only [aInts, List.map_cons, toDs?] at ih ⊢; rw [ih]; rfl
@[simp] theorem aInts_okIn (R : Ref → Bool) (T : Nat → Bool) (l : List Int) : okInL R T (aInts l) = true := by
  induction l with
  | nil => rfl
  | cons i l ih => simp only [aInts, List.map_cons, okInL] at ih ⊢; rw [ih]; rfl
@[simp high] theorem aInts_put {l : List Int} {i : Nat} {v : Int} (h : i < l.length) : putAt (aInts l) i [.s (.int .i64 v)] = aInts (l.set i v) := by
  unfold aInts putAt
  rw [List.set_eq_take_append_cons_drop, if_pos h]
  simp

@[simp] theorem aInts_put' {l : List Int} {i : Nat} {v : Int} (h : i < l.length) : List.take i (aInts l) ++ AV.s (.int .i64 v) :: List.drop (i + 1) (aInts l) = aInts (l.set i v) := by
  rw [← aInts_put h]; simp [putAt]
end Go.Ev
end

section
set_option linter.all false
open Go Go.Ev Go.Proofs
namespace Go.Ev
set_option linter.unusedSimpArgs false
set_option linter.unusedVariables false

set_option maxRecDepth 100000

/-- A proof of one reason, as the feed makes it, and the feed behind it. -/
def leafP (o : MOrd) (s : Int) : List MBd × Int :=
  if betV 2 5 s = 4 then ([⟨betV 2 5 s, belV o.limits.length (betS 2 5 s), 0⟩], belS o.limits.length (betS 2 5 s)) else ([⟨betV 2 5 s, 0, 0⟩], betS 2 5 s)

end Go.Ev
end

section
set_option linter.all false
open Go Go.Ev Go.Proofs
namespace Go.Ev
set_option linter.unusedSimpArgs false
set_option linter.unusedVariables false

/-! ### Proofs made anyhow -/
theorem lowX_hi : ∀ (bs : List MBin) (x : List (Int × Int)) (i : Nat) (v : Int), lowX bs (setHi x i v) = lowX bs x
  | [], x, i, v => by cases x <;> rfl
  | _ :: _, [], i, v => rfl
  | b :: bs, p :: x, 0, v => rfl
  | b :: bs, p :: x, i + 1, v => by simp only [setHi, lowX]; rw [lowX_hi bs x i v]
theorem highX_lo : ∀ (bs : List MBin) (x : List (Int × Int)) (i : Nat) (v : Int), highX bs (setLo x i v) = highX bs x
  | [], x, i, v => by cases x <;> rfl
  | _ :: _, [], i, v => rfl
  | b :: bs, p :: x, 0, v => rfl
  | b :: bs, p :: x, i + 1, v => by simp only [setLo, highX]; rw [highX_lo bs x i v]
theorem highX_hi : ∀ (bs : List MBin) (x : List (Int × Int)) (i : Nat) (v : Int), highX bs (setHi x i v) = (highX bs x).set i v
  | [], x, i, v => by cases x <;> simp [highX]
  | _ :: _, [], i, v => by simp [setHi, highX]
  | b :: bs, p :: x, 0, v => rfl
  | b :: bs, p :: x, i + 1, v => by simp only [setHi, highX, List.set_cons_succ]; rw [highX_hi bs x i v]
theorem lowX_lo : ∀ (bs : List MBin) (x : List (Int × Int)) (i : Nat) (v : Int), lowX bs (setLo x i v) = (lowX bs x).set i v
  | [], x, i, v => by cases x <;> simp [lowX]
  | _ :: _, [], i, v => by simp [setLo, lowX]
  | b :: bs, p :: x, 0, v => rfl
  | b :: bs, p :: x, i + 1, v => by simp only [setLo, lowX, List.set_cons_succ]; rw [lowX_lo bs x i v]
theorem lowX_get {bs : List MBin} {x : List (Int × Int)} {i : Nat} {p : Int × Int} (h : i < bs.length) (hp : x[i]? = some p) : (lowX bs x)[i]? = some p.1 := by
  rw [← lowX_eq, List.getElem?_map, List.getElem?_take, if_pos h, hp]; rfl
theorem highX_get {bs : List MBin} {x : List (Int × Int)} {i : Nat} {p : Int × Int} (h : i < bs.length) (hp : x[i]? = some p) : (highX bs x)[i]? = some p.2 := by
  rw [← highX_eq, List.getElem?_map, List.getElem?_take, if_pos h, hp]; rfl

def ixP (o : MOrd) (s : Int) : Nat := (belV o.bins.length s).toNat
def pxP (o : MOrd) (x : List (Int × Int)) (s : Int) : Int × Int := x[ixP o s]?.getD (0, 0)
def upP (o : MOrd) (x : List (Int × Int)) (s : Int) : Int := betV (pxP o x s).1 ((pxP o x s).2 - 1) (belS 5 (belS o.bins.length s))
def usP (o : MOrd) (x : List (Int × Int)) (s : Int) : Int := betS (pxP o x s).1 ((pxP o x s).2 - 1) (belS 5 (belS o.bins.length s))
/-- The proof that the feed makes of a box, and the feed behind it. -/
def anyP (o : MOrd) : Nat → List (Int × Int) → Int → List MBd × Int
  | 0, _, s => ([], s)
  | n + 1, x, s =>
    if (pxP o x s).1 = (pxP o x s).2 then leafP o (belS o.bins.length s)
    else if belV 5 (belS o.bins.length s) < 2 then leafP o (belS 5 (belS o.bins.length s))
    else (⟨1, ixP o s, upP o x s⟩ :: ((anyP o n (setHi x (ixP o s) (upP o x s)) (usP o x s)).1 ++ (anyP o n (setLo x (ixP o s) (upP o x s + 1)) (anyP o n (setHi x (ixP o s) (upP o x s)) (usP o x s)).2).1),
      (anyP o n (setLo x (ixP o s) (upP o x s + 1)) (anyP o n (setHi x (ixP o s) (upP o x s)) (usP o x s)).2).2)

theorem leafP_is (o : MOrd) (s : Int) : ∃ r a, (leafP o s).1 = [⟨r, a, 0⟩] ∧ 2 ≤ r ∧ r ≤ 5 := by
  have := bet_in 2 5 s (by omega) (by omega) (by omega)
  unfold leafP
  split
  · exact ⟨_, _, rfl, this⟩
  · exact ⟨_, _, rfl, this⟩

section
variable {o : MOrd} (k : OkO o)
include k
theorem nb_pos : 1 ≤ o.bins.length := by
  have := k.ne
  rcases Nat.eq_zero_or_pos o.bins.length with h | h
  · exact absurd (List.length_eq_zero_iff.1 h) this
  · exact h
theorem ixP_lt (s : Int) : ixP o s < o.bins.length ∧ belV o.bins.length s = (ixP o s : Int) := by
  have h1 := nb_pos k
  have h4 := k.nb
  have a := bel_ge o.bins.length s (by omega)
  have b := bel_lt o.bins.length s (by omega) (by omega)
  unfold ixP
  omega
theorem pxP_in {x : List (Int × Int)} (bx : BX o x) (s : Int) : x[ixP o s]? = some (pxP o x s) ∧ 0 ≤ (pxP o x s).1 ∧ (pxP o x s).1 ≤ (pxP o x s).2 ∧ (pxP o x s).2 ≤ 6 := by
  obtain ⟨h1, h2⟩ := ixP_lt k s
  have hl := bx.len
  have h4 := k.nb
  have e : x[ixP o s]? = some x[ixP o s] := List.getElem?_eq_getElem (by omega)
  have e2 : pxP o x s = x[ixP o s] := by unfold pxP; rw [e]; rfl
  rw [e2]
  obtain ⟨b, hb, q1, q2, q3⟩ := (okX_get bx.ok e).1 h1
  have := (k.bin b hb).g
  exact ⟨e, by omega, by omega, by omega⟩
theorem upP_in {x : List (Int × Int)} (bx : BX o x) (s : Int) (hne : ¬ (pxP o x s).1 = (pxP o x s).2) : (pxP o x s).1 ≤ upP o x s ∧ upP o x s < (pxP o x s).2 := by
  obtain ⟨_, h1, h2, h3⟩ := pxP_in k bx s
  have := bet_in (pxP o x s).1 ((pxP o x s).2 - 1) (belS 5 (belS o.bins.length s)) (by omega) (by omega) (by omega)
  unfold upP
  omega
theorem cutP {x : List (Int × Int)} (bx : BX o x) (s : Int) (hne : ¬ (pxP o x s).1 = (pxP o x s).2) :
    BX o (setHi x (ixP o s) (upP o x s)) ∧ BX o (setLo x (ixP o s) (upP o x s + 1)) ∧ volX (setHi x (ixP o s) (upP o x s)) + volX (setLo x (ixP o s) (upP o x s + 1)) = volX x := by
  obtain ⟨e, h1, h2, h3⟩ := pxP_in k bx s
  obtain ⟨u1, u2⟩ := upP_in k bx s hne
  obtain ⟨i1, _⟩ := ixP_lt k s
  exact ⟨BX.hi k bx e i1 u1 (by omega), BX.lo k bx e i1 (by omega) (by omega), volX_cut x _ _ _ e u1 u2⟩

theorem any_ver (pr : Int) : ∀ (n : Nat) (x : List (Int × Int)) (s : Int), BX o x → volX x ≤ n → (1 ≤ (anyP o n x s).1.length ∧ (anyP o n x s).1.length + 1 ≤ 2 * volX x) ∧
    ∀ (m : Nat) (rest : List MBd), (anyP o n x s).1.length + rest.length < m → ∃ e r', verR o pr m x ((anyP o n x s).1 ++ rest) = (e, r') ∧ (e = 0 → r' = rest) ∧ (e = 0 ∨ e = 3 ∨ e = 9)
  | 0, x, s, bx, h => by have := volX_pos x (BX.bx k bx); omega
  | n + 1, x, s, bx, h => by
    have hv := volX_pos x (BX.bx k bx)
    have leaf : ∀ s', anyP o (n + 1) x s = leafP o s' → (1 ≤ (anyP o (n + 1) x s).1.length ∧ (anyP o (n + 1) x s).1.length + 1 ≤ 2 * volX x) ∧
        ∀ (m : Nat) (rest : List MBd), (anyP o (n + 1) x s).1.length + rest.length < m → ∃ e r', verR o pr m x ((anyP o (n + 1) x s).1 ++ rest) = (e, r') ∧ (e = 0 → r' = rest) ∧ (e = 0 ∨ e = 3 ∨ e = 9) := by
      intro s' hs
      obtain ⟨r, a, e1, e2, e3⟩ := leafP_is o s'
      rw [hs, e1]
      refine ⟨⟨by simp, by simp; omega⟩, fun m rest hm => ?_⟩
      obtain ⟨m, rfl⟩ : ∃ j, m = j + 1 := ⟨m - 1, by simp at hm; omega⟩
      rw [List.singleton_append, verR, if_neg (by simp only; omega)]
      have hr : r = 2 ∨ r = 3 ∨ r = 4 ∨ r = 5 := by omega
      rcases hr with rfl | rfl | rfl | rfl <;> simp only [Int.reduceEq, if_true, if_false]
      · split <;> exact ⟨_, _, rfl, fun _ => rfl, by simp⟩
      · split <;> exact ⟨_, _, rfl, fun _ => rfl, by simp⟩
      · split
        · exact ⟨_, _, rfl, fun _ => rfl, by simp⟩
        · split <;> exact ⟨_, _, rfl, fun _ => rfl, by simp⟩
      · split <;> exact ⟨_, _, rfl, fun _ => rfl, by simp⟩
    by_cases g1 : (pxP o x s).1 = (pxP o x s).2
    · exact leaf _ (by rw [anyP, if_pos g1])
    by_cases g2 : belV 5 (belS o.bins.length s) < 2
    · exact leaf _ (by rw [anyP, if_neg g1, if_pos g2])
    obtain ⟨b1, b2, hc⟩ := cutP k bx s g1
    obtain ⟨e, p1, p2, p3⟩ := pxP_in k bx s
    obtain ⟨u1, u2⟩ := upP_in k bx s g1
    obtain ⟨i1, i2⟩ := ixP_lt k s
    have v1 := volX_pos _ (BX.bx k b1)
    have v2 := volX_pos _ (BX.bx k b2)
    rw [anyP, if_neg g1, if_neg g2]
    obtain ⟨⟨l1, l2⟩, ih1⟩ := any_ver pr n (setHi x (ixP o s) (upP o x s)) (usP o x s) b1 (by omega)
    generalize anyP o n (setHi x (ixP o s) (upP o x s)) (usP o x s) = A at l1 l2 ih1
    obtain ⟨⟨l3, l4⟩, ih2⟩ := any_ver pr n (setLo x (ixP o s) (upP o x s + 1)) A.2 b2 (by omega)
    generalize anyP o n (setLo x (ixP o s) (upP o x s + 1)) A.2 = B at l3 l4 ih2
    refine ⟨⟨by simp, by simp; omega⟩, fun m rest hm => ?_⟩
    simp only [List.length_cons, List.length_append] at hm
    obtain ⟨m, rfl⟩ : ∃ j, m = j + 1 := ⟨m - 1, by omega⟩
    have h4 := k.nb
    have w1 : wr ((o.bins.length : Int) - 1) = o.bins.length - 1 := wr_small (by omega) (by omega)
    have w2 : wr ((pxP o x s).2 - 1) = (pxP o x s).2 - 1 := wr_small (by omega) (by omega)
    have w3 : wr (upP o x s + 1) = upP o x s + 1 := wr_small (by omega) (by omega)
    have t1 : ¬ inB (ixP o s : Int) 0 (wr ((o.bins.length : Int) - 1)) = false := by
      rw [Bool.not_eq_false, inB_iff, w1]; omega
    have t2 : ¬ inB (upP o x s) (pxP o x s).1 (wr ((pxP o x s).2 - 1)) = false := by
      rw [Bool.not_eq_false, inB_iff, w2]; omega
    obtain ⟨e1, r1, q1, q2, q3⟩ := ih1 m (B.1 ++ rest) (by simp only [List.length_append]; omega)
    obtain ⟨e2, r2, q4, q5, q6⟩ := ih2 m rest (by omega)
    rw [List.cons_append, List.append_assoc, verR, if_pos rfl]
    simp only [Int.toNat_natCast, e, Option.getD_some, t1, t2, w3, q1, if_false, Bool.false_eq_true]
    by_cases e0 : e1 = 0
    · rw [if_pos e0, q2 e0, q4]
      exact ⟨_, _, rfl, q5, q6⟩
    · rw [if_neg e0]
      exact ⟨_, _, rfl, fun h => absurd h e0, q3⟩

/-- What holds of any proof that is made so. -/
theorem sound_facts (pr s : Int) (hp : 0 ≤ pr ∧ pr ≤ 300000000) : (anyP o 2401 (wholeB o) s).1.length < 6000 ∧ (verE o pr (anyP o 2401 (wholeB o) s).1 = 0 ∨ verE o pr (anyP o 2401 (wholeB o) s).1 = 3 ∨ verE o pr (anyP o 2401 (wholeB o) s).1 = 9) ∧
    (verE o pr (anyP o 2401 (wholeB o) s).1 = 0 → ∀ l, okBl o l → goodB o l = true → ¬ cW o l < pr) := by
  have e0 := ordErr_0 k
  have ep : priceErr o pr = 0 := by rw [priceErr, if_pos e0, if_pos (inB_iff.2 hp)]
  have bx := whole_X k
  have hw := whole_vol k
  obtain ⟨⟨l1, l2⟩, ih⟩ := any_ver k pr 2401 (wholeB o) s bx hw
  generalize (anyP o 2401 (wholeB o) s).1 = p at l1 l2 ih
  obtain ⟨e, r', q1, q2, q3⟩ := ih (p.length + 1) [] (by simp)
  rw [List.append_nil] at q1
  have hv : verE o pr p = e := by
    rw [verE, if_pos ep, if_neg (by omega), q1]
    by_cases h : e = 0
    · rw [if_pos h, q2 h, h]; rfl
    · rw [if_neg h]
  rw [hv]
  refine ⟨by omega, q3, fun h l hl hg => ?_⟩
  rw [h] at q1
  exact ver_none k pr _ _ _ _ bx q1 l (whole_in k hl) hg
end
end Go.Ev
end

section
set_option linter.all false
open Go Go.Ev Go.Proofs
namespace Go.Ev
set_option linter.unusedSimpArgs false
set_option linter.unusedVariables false
theorem low_whole {o : MOrd} (k : OkO o) : lowX o.bins (wholeB o) = List.replicate o.bins.length 0 := by
  have hn := k.nb
  unfold wholeB
  generalize o.bins = bs at hn
  match bs, hn with
  | [], _ => rfl
  | [a], _ => rfl
  | [a, b], _ => rfl
  | [a, b, c], _ => rfl
  | [a, b, c, d], _ => rfl
  | _ :: _ :: _ :: _ :: _ :: _, h => simp at h
theorem high_whole {o : MOrd} (k : OkO o) : highX o.bins (wholeB o) = o.bins.map (·.g) := by
  have hn := k.nb
  unfold wholeB
  generalize o.bins = bs at hn
  match bs, hn with
  | [], _ => rfl
  | [a], _ => rfl
  | [a, b], _ => rfl
  | [a, b, c], _ => rfl
  | [a, b, c, d], _ => rfl
  | _ :: _ :: _ :: _ :: _ :: _, h => simp at h
end Go.Ev
end

section
set_option linter.all false
open Go Go.Ev Go.Proofs
namespace Go.Ev
set_option linter.unusedSimpArgs false
set_option linter.unusedVariables false

set_option maxRecDepth 100000
theorem first_ok (lo hi : List Int) (i : Nat) (v : Int) (h2 : i < hi.length) (hhl : hi.length < 1000) : ACalls Tryz.prog 53 [.agg [.sl false false .U .no lo.length (eInts lo), .sl false false .U .no hi.length (eInts hi)], .s (.int .i64 i), .s (.int .i64 v)] [] (.ret (.agg [.sl false false .U .no lo.length (eInts lo), .sl true true .U .no hi.length (eInts (hi.set i v))]) [] []) := by
  have hz : ¬ hi = [] := by intro h; rw [h] at h2; simp at h2
  have hp : 0 < hi.length := by omega
  refine acalls_of_ew Tryz.func53 rfl rfl (by simp [Tryz.f53]) (rs := [.cell 6 63]) rfl ?_
  refine EW.seq fun Ψ0 n0 x0 => ?_
  refine EW.region gs_nil ?_
  simp
  refine n0 _ ?_; clear n0 x0
  refine EW.seq fun Ψ1 n1 x1 => ?_
  refine EW.drawn [(1, 5), (1, 7), (4, 7), (5, 7)] mixed (gs_mut (d := 1000000013) (o := .pan undef) gs_nil) (by kernel_rfl) ?_
  simp [show hi.length * 8 ≤ 140737488355328 by omega, hp]
  refine n1 _ ?_; clear n1 x1
  refine EW.seq fun Ψ2 n2 x2 => ?_
  refine EW.region gs_nil ?_
  simp [h2, show i + 1 ≤ hi.length by omega]
  refine n2 _ ?_; clear n2 x2
  refine EW.seq fun Ψ3 n3 x3 => ?_
  refine EW.freezeC (k := 13) (j := 7) (i := 1) (n := hi.length) (o := .no) (cs := aInts (hi.set i v)) (cj := [.sl false false .U .no lo.length (eInts lo), .sm (.own 13) hi.length .no]) (c0 := [.sl false false .U .no lo.length (eInts lo), .junk]) (ds := eInts (hi.set i v)) (g := true) (nt := 21) (E := [(6, .ptr (.own 6) 0), (7, .ptr (.own 7) 0)]) (O := [(6, [AV.nilsl, AV.nilsl]), (7, [.sl false false .U .no lo.length (eInts lo), .junk])]) (X := []) (T := []) (by simp) (by simp) (by simp) (by simp) (St.le_lit rfl (by simp) (by simp) (by simp) (by simp) (by simp)) (by simp) (by simp) (by simp [hz]) ?_
  refine EW.region gs_nil ?_
  simp
  refine n3 _ ?_; clear n3 x3
  refine EW.ret ?_
  refine ⟨_, _, _, rfl, ?_, ?_, ?_, ?_, ?_⟩ <;> simp

theorem second_ok (lo hi : List Int) (i : Nat) (v : Int) (h2 : i < lo.length) (hhl : lo.length < 1000) (hw : IntKind.i64.wrap (v + 1) = v + 1) : ACalls Tryz.prog 54 [.agg [.sl false false .U .no lo.length (eInts lo), .sl false false .U .no hi.length (eInts hi)], .s (.int .i64 i), .s (.int .i64 v)] [] (.ret (.agg [.sl true true .U .no lo.length (eInts (lo.set i (v + 1))), .sl false false .U .no hi.length (eInts hi)]) [] []) := by
  have hz : ¬ lo = [] := by intro h; rw [h] at h2; simp at h2
  have hp : 0 < lo.length := by omega
  refine acalls_of_ew Tryz.func54 rfl rfl (by simp [Tryz.f54]) (rs := [.cell 6 63]) rfl ?_
  refine EW.seq fun Ψ0 n0 x0 => ?_
  refine EW.region gs_nil ?_
  simp
  refine n0 _ ?_; clear n0 x0
  refine EW.seq fun Ψ1 n1 x1 => ?_
  refine EW.drawn [(3, 5), (2, 7), (3, 7), (5, 7)] mixed (gs_mut (d := 1000000011) (o := .pan undef) gs_nil) (by kernel_rfl) ?_
  simp [show lo.length * 8 ≤ 140737488355328 by omega, hp]
  refine n1 _ ?_; clear n1 x1
  refine EW.seq fun Ψ2 n2 x2 => ?_
  refine EW.region gs_nil ?_
  simp [h2, hw, show i + 1 ≤ lo.length by omega]
  refine n2 _ ?_; clear n2 x2
  refine EW.seq fun Ψ3 n3 x3 => ?_
  refine EW.freezeC (k := 11) (j := 7) (i := 0) (n := lo.length) (o := .no) (cs := aInts (lo.set i (v + 1))) (cj := [.sm (.own 11) lo.length .no, .sl false false .U .no hi.length (eInts hi)]) (c0 := [.junk, .sl false false .U .no hi.length (eInts hi)]) (ds := eInts (lo.set i (v + 1))) (g := true) (nt := 22) (E := [(6, .ptr (.own 6) 0), (7, .ptr (.own 7) 0)]) (O := [(6, [AV.nilsl, AV.nilsl]), (7, [.junk, .sl false false .U .no hi.length (eInts hi)])]) (X := []) (T := []) (by simp) (by simp) (by simp) (by simp) (St.le_lit rfl (by simp) (by simp) (by simp) (by simp) (by simp)) (by simp) (by simp) (by simp [hz]) ?_
  refine EW.region gs_nil ?_
  simp
  refine n3 _ ?_; clear n3 x3
  refine EW.ret ?_
  refine ⟨_, _, _, rfl, ?_, ?_, ?_, ?_, ?_⟩ <;> simp

end Go.Ev
end

section
set_option linter.all false
open Go Go.Ev Go.Proofs
namespace Go.Ev
set_option linter.unusedSimpArgs false
set_option linter.unusedVariables false

set_option maxRecDepth 100000
theorem rcheckPrice_ok (o : MOrd) (p : Int) (hz : szO o) : ACalls Tryz.prog 25 [.agg [.sl false false .U .no o.limits.length (eInts o.limits), .s (.int .i64 o.least), .s (.int .i64 o.most), .sl false false .U .no o.bins.length (eBins o.bins)], .s (.int .i64 p)] [] (.ret (.s (.int .i64 (priceErr o p))) [] []) := by
  refine acalls_of_ew Tryz.func25 rfl rfl (by simp [Tryz.f25]) (rs := [.tmp 4]) rfl ?_
  refine EW.seq fun Ψ0 n0 x0 => ?_
  refine EW.region gs_nil ?_
  simp
  refine n0 _ ?_; clear n0 x0
  refine EW.seq fun Ψ1 n1 x1 => ?_
  refine EW.seq fun Ψ2 n2 x2 => ?_
  refine EW.region (gs_cons (rcheck_ok' o hz) gs_nil) ?_
  simp
  refine n2 _ ?_; clear n2 x2
  refine EW.seq fun Ψ3 n3 x3 => ?_
  refine EW.region gs_nil ?_
  simp
  refine n3 _ ?_; clear n3 x3
  refine EW.cond (t := _) (by rfl) (fun hc9 => ?_) (fun hc9 => ?_)
  · have g1 : ¬ ordErr o = 0 := by simpa using hc9
    have hv : priceErr o p = ordErr o := by simp [priceErr, g1]
    refine EW.seq fun Ψ4 n4 x4 => ?_
    refine EW.region gs_nil ?_
    simp
    refine n4 _ ?_; clear n4 x4
    refine EW.ret ?_
    refine x1 _ _ rfl ?_; clear n1 x1
    refine ⟨_, _, _, rfl, ?_, ?_, ?_, ?_, ?_⟩ <;> simp [hv]
  · have g1 : ordErr o = 0 := by simpa using hc9
    refine EW.skip ?_
    refine n1 _ ?_; clear n1 x1
    refine EW.seq fun Ψ5 n5 x5 => ?_
    refine EW.seq fun Ψ6 n6 x6 => ?_
    cases q1 : inB p 0 300000000
    · skip
      refine EW.region (gI_ok gs_nil) ?_
      simp [q1]
      refine n6 _ ?_; clear n6 x6
      refine EW.cond (t := _) (by rfl) (fun hc13 => ?_) (fun hc13 => ?_)
      · simp at hc13
        have hv : priceErr o p = 1 := by simp [priceErr, g1, q1]
        refine EW.seq fun Ψ7 n7 x7 => ?_
        refine EW.region gs_nil ?_
        simp
        refine n7 _ ?_; clear n7 x7
        refine EW.ret ?_
        refine x5 _ _ rfl ?_; clear n5 x5
        refine ⟨_, _, _, rfl, ?_, ?_, ?_, ?_, ?_⟩ <;> simp [hv]
      · simp at hc13
    · skip
      refine EW.region (gI_ok gs_nil) ?_
      simp [q1]
      refine n6 _ ?_; clear n6 x6
      refine EW.cond (t := _) (by rfl) (fun hc13 => ?_) (fun hc13 => ?_)
      · simp at hc13
      · simp at hc13
        have hv : priceErr o p = 0 := by simp [priceErr, g1, q1]
        refine EW.skip ?_
        refine n5 _ ?_; clear n5 x5
        refine EW.seq fun Ψ8 n8 x8 => ?_
        refine EW.region gs_nil ?_
        simp
        refine n8 _ ?_; clear n8 x8
        refine EW.ret ?_
        refine ⟨_, _, _, rfl, ?_, ?_, ?_, ?_, ?_⟩ <;> simp [hv]


def rwS (o : MOrd) (p : Nat × List Int) : St :=
  St.lit 29 [(1, .ptr (.own 1) 0), (2, .ptr (.own 2) 0), (3, .ptr (.own 3) 0), (4, .s (.int .i64 p.1))] [(1, aOrdC o), (2, [AV.nilsl, AV.nilsl]), (3, [.sl true true .Z (.tok 15) p.1 (eInts (List.replicate p.1 0)), .sl true true .Z (.tok 25) p.1 (eInts p.2)])] [] [(15, (p.1, 1)), (25, (p.1, 1))]
attribute [simp] rwS

theorem rwhole_ok (o : MOrd) (hl : o.bins.length ≤ 20) : ACalls Tryz.prog 27 [.agg [.sl false false .U .no o.limits.length (eInts o.limits), .s (.int .i64 o.least), .s (.int .i64 o.most), .sl false false .U .no o.bins.length (eBins o.bins)]] [] (.ret (.agg [.sl true true .Z .no o.bins.length (eInts (List.replicate o.bins.length 0)), .sl true true .Z .no o.bins.length (eInts (o.bins.map (·.g)))]) [] []) := by
  refine acalls_of_ew Tryz.func27 rfl rfl (by simp [Tryz.f27]) (rs := [.cell 2 63]) rfl ?_
  refine EW.seq fun Ψ0 n0 x0 => ?_
  refine EW.region gs_nil ?_
  simp
  refine n0 _ ?_; clear n0 x0
  refine EW.seq fun Ψ1 n1 x1 => ?_
  refine EW.region gs_nil ?_
  simp
  refine n1 _ ?_; clear n1 x1
  refine EW.seq fun Ψ2 n2 x2 => ?_
  refine EW.seq fun Ψ3 n3 x3 => ?_
  refine EW.region gs_nil ?_
  simp
  refine n3 _ ?_; clear n3 x3
  refine EW.block ?_
  refine EW.loopA (rwS o) (fun p => p.1 ≤ o.bins.length ∧ p.2.length = p.1 ∧ p.2 ++ (o.bins.drop p.1).map (·.g) = o.bins.map (·.g)) (fun p => o.bins.length - p.1) (0, []) (St.le_lit rfl (by simp) (by simp) (by simp) (by simp) (by simp)) ?_ fun p hk => ?_
  · simp
  obtain ⟨k, b⟩ := p
  obtain ⟨hk, hb, hw⟩ := hk
  simp only at hk hb hw
  refine EW.seq fun Ψ4 n4 x4 => ?_
  refine EW.seq fun Ψ5 n5 x5 => ?_
  refine EW.region gs_nil ?_
  simp
  refine n5 _ ?_; clear n5 x5
  refine EW.cond (t := _) (by rfl) (fun hc9 => ?_) (fun hc9 => ?_)
  · simp at hc9
    have e1 : o.bins[k]? = some o.bins[k] := List.getElem?_eq_getElem hc9
    refine EW.skip ?_
    refine n4 _ ?_; clear n4 x4
    refine EW.seq fun Ψ6 n6 x6 => ?_
    refine EW.block ?_
    refine EW.hide fun Ψ7 n7 => ?_
    refine EW.drawn [(3, 5), (3, 7), (3, 11)] mixed gs_nil (by kernel_rfl) ?_
    simp [hc9, e1, hb, show (k + 1) * 8 ≤ 140737488355328 by omega]
    refine n7 _ _ ?_; clear n7
    refine n6 _ ?_; clear n6 x6
    refine EW.hide fun Ψ8 n8 => ?_
    refine EW.region gs_nil ?_
    simp
    refine n8 _ _ ?_; clear n8
    have e3 : IntKind.i64.wrap ((k : Int) + 1) = k + 1 := wr_small (by omega) (by omega)
    refine ⟨(k + 1, b ++ [o.bins[k].g]), (St.le_lit rfl (by simp [e3]) (by simp [List.replicate_succ']) (by simp) (by simp) (by simp)), ?_, ?_⟩
    · refine ⟨hc9, by simp [hb], ?_⟩
      rw [← hw, List.drop_eq_getElem_cons hc9, List.map_cons, List.append_assoc]; rfl
    · simp; omega
  · simp at hc9
    have hkl : k = o.bins.length := by omega
    subst hkl
    simp at hw
    subst hw
    refine EW.exit ?_
    refine x4 _ _ rfl ?_; clear n4 x4
    refine n2 _ ?_; clear n2 x2
    refine EW.seq fun Ψ9 n9 x9 => ?_
    refine EW.region gs_nil ?_
    simp
    refine n9 _ ?_; clear n9 x9
    refine EW.ret ?_
    refine ⟨_, _, _, rfl, ?_, ?_, ?_, ?_, ?_⟩ <;> simp


/-- What a box goes beyond a limit at the least. -/
def ovr (o : MOrd) (j : Nat) (b : MBin) : Int := IntKind.i64.wrap ((b.grams[j]?.getD (0, 0)).2 - o.limits[j]?.getD 0)
def rsL (o : MOrd) (lo hi : List Int) (j : Nat) : List MBin → Nat → Int → Int
  | [], _, s => s
  | b :: bs, i, s => rsL o lo hi j bs (i + 1) (IntKind.i64.wrap (s + IntKind.i64.wrap (IntKind.i64.wrap ((if ovr o j b < 0 then hi[i]?.getD 0 else lo[i]?.getD 0) * b.w) * ovr o j b)))
def rgtB (o : MOrd) (lo hi : List Int) (pr r a : Int) : Bool :=
  if r = 2 then decide ((weighL o.bins hi 0 0 0).1 < o.least)
  else if r = 3 then decide (o.most < (weighL o.bins lo 0 0 0).1)
  else if r = 5 then decide (pr ≤ (weighL o.bins lo 0 0 0).2)
  else decide (0 < rsL o lo hi a.toNat o.bins 0 0)
def rgS (o : MOrd) (lo hi : List Int) (r a c : Int) (p : Nat × Int) : St :=
  St.lit 92 [(4, .ptr (.own 4) 0), (5, .ptr (.own 5) 0), (7, .ptr (.own 7) 0), (9, .s (.int .i64 p.2)), (10, .s (.int .i64 p.1))] [(4, aOrdC o), (5, [.sl false false .U .no lo.length (eInts lo), .sl false false .U .no hi.length (eInts hi)]), (7, [.s (.int .i64 r), .s (.int .i64 a), .s (.int .i64 c)])] [] []
attribute [simp] rgS

set_option maxHeartbeats 2000000 in
theorem right_ok (o : MOrd) (lo hi : List Int) (pr r a c : Int) (h1 : lo.length = o.bins.length) (h2 : hi.length = o.bins.length) (hn : o.bins.length < 1000000) (hg : ∀ b ∈ o.bins, b.grams.length = o.limits.length) (ha : ¬ r = 2 → ¬ r = 3 → ¬ r = 5 → ∃ j : Nat, a = j ∧ j < o.limits.length) : ACalls Tryz.prog 52 [.agg [.sl false false .U .no o.limits.length (eInts o.limits), .s (.int .i64 o.least), .s (.int .i64 o.most), .sl false false .U .no o.bins.length (eBins o.bins)], .agg [.sl false false .U .no lo.length (eInts lo), .sl false false .U .no hi.length (eInts hi)], .s (.int .i64 pr), .agg [.s (.int .i64 r), .s (.int .i64 a), .s (.int .i64 c)]] [] (.ret (.s (.bool (rgtB o lo hi pr r a))) [] []) := by
  refine acalls_of_ew Tryz.func52 rfl rfl (by simp [Tryz.f52]) (rs := [.tmp 8]) rfl ?_
  refine EW.seq fun Ψ0 n0 x0 => ?_
  refine EW.region gs_nil ?_
  simp
  refine n0 _ ?_; clear n0 x0
  refine EW.seq fun Ψ1 n1 x1 => ?_
  refine EW.seq fun Ψ2 n2 x2 => ?_
  refine EW.region gs_nil ?_
  simp
  refine n2 _ ?_; clear n2 x2
  refine EW.block ?_
  refine EW.seq fun Ψ3 n3 x3 => ?_
  refine EW.region gs_nil ?_
  simp
  refine n3 _ ?_; clear n3 x3
  refine EW.cond (t := _) (by rfl) (fun hc15 => ?_) (fun hc15 => ?_)
  · have g1 : r = 2 := by simpa using hc15
    have hv : rgtB o lo hi pr r a = decide ((weighL o.bins hi 0 0 0).1 < o.least) := by rw [rgtB, if_pos g1]
    refine EW.seq fun Ψ4 n4 x4 => ?_
    refine EW.drawn [(3, 5)] mixed (gs_cons (rkilos_ok o hi (by omega) (by omega)) gs_nil) (by kernel_rfl) ?_
    simp
    refine n4 _ ?_; clear n4 x4
    refine EW.ret ?_
    refine x1 _ _ rfl ?_; clear n1 x1
    refine ⟨_, _, _, rfl, ?_, ?_, ?_, ?_, ?_⟩ <;> simp [hv]
  · have g1 : ¬ r = 2 := by simpa using hc15
    refine EW.seq fun Ψ5 n5 x5 => ?_
    refine EW.region gs_nil ?_
    simp
    refine n5 _ ?_; clear n5 x5
    refine EW.cond (t := _) (by rfl) (fun hc24 => ?_) (fun hc24 => ?_)
    · have g2 : r = 3 := by simpa using hc24
      have hv : rgtB o lo hi pr r a = decide (o.most < (weighL o.bins lo 0 0 0).1) := by rw [rgtB, if_neg g1, if_pos g2]
      refine EW.seq fun Ψ6 n6 x6 => ?_
      refine EW.drawn [(3, 5)] mixed (gs_cons (rkilos_ok o lo (by omega) (by omega)) gs_nil) (by kernel_rfl) ?_
      simp
      refine n6 _ ?_; clear n6 x6
      refine EW.ret ?_
      refine x1 _ _ rfl ?_; clear n1 x1
      refine ⟨_, _, _, rfl, ?_, ?_, ?_, ?_, ?_⟩ <;> simp [hv]
    · have g2 : ¬ r = 3 := by simpa using hc24
      refine EW.seq fun Ψ7 n7 x7 => ?_
      refine EW.region gs_nil ?_
      simp
      refine n7 _ ?_; clear n7 x7
      refine EW.cond (t := _) (by rfl) (fun hc33 => ?_) (fun hc33 => ?_)
      · have g3 : r = 5 := by simpa using hc33
        have hv : rgtB o lo hi pr r a = decide (pr ≤ (weighL o.bins lo 0 0 0).2) := by rw [rgtB, if_neg g1, if_neg g2, if_pos g3]
        refine EW.seq fun Ψ8 n8 x8 => ?_
        refine EW.region (gs_cons (rcost_ok o lo (by omega) (by omega)) gs_nil) ?_
        simp
        refine n8 _ ?_; clear n8 x8
        refine EW.ret ?_
        refine x1 _ _ rfl ?_; clear n1 x1
        refine ⟨_, _, _, rfl, ?_, ?_, ?_, ?_, ?_⟩ <;> simp [hv]
      · have g3 : ¬ r = 5 := by simpa using hc33
        obtain ⟨j, rfl, hjl⟩ := ha g1 g2 g3
        have e5 : o.limits[j]? = some o.limits[j] := List.getElem?_eq_getElem hjl
        have hv : rgtB o lo hi pr r (j : Int) = decide (0 < rsL o lo hi j o.bins 0 0) := by rw [rgtB, if_neg g1, if_neg g2, if_neg g3]; rfl
        refine EW.skip ?_
        refine n1 _ ?_; clear n1 x1
        refine EW.seq fun Ψ9 n9 x9 => ?_
        refine EW.region gs_nil ?_
        simp
        refine n9 _ ?_; clear n9 x9
        refine EW.seq fun Ψ10 n10 x10 => ?_
        refine EW.seq fun Ψ11 n11 x11 => ?_
        refine EW.region gs_nil ?_
        simp
        refine n11 _ ?_; clear n11 x11
        refine EW.block ?_
        refine EW.loopA (rgS o lo hi r j c) (fun p => p.1 ≤ o.bins.length ∧ rsL o lo hi j (o.bins.drop p.1) p.1 p.2 = rsL o lo hi j o.bins 0 0) (fun p => o.bins.length - p.1) (0, 0) (St.le_lit rfl (by simp) (by simp) (by simp) (by simp) (by simp)) ?_ fun p hk => ?_
        · simp
        obtain ⟨k, s⟩ := p
        obtain ⟨hk, hw⟩ := hk
        simp only at hk hw
        refine EW.seq fun Ψ12 n12 x12 => ?_
        refine EW.seq fun Ψ13 n13 x13 => ?_
        refine EW.region gs_nil ?_
        simp
        refine n13 _ ?_; clear n13 x13
        refine EW.cond (t := _) (by rfl) (fun hc45 => ?_) (fun hc45 => ?_)
        · simp at hc45
          have e2 : o.bins[k]? = some o.bins[k] := List.getElem?_eq_getElem hc45
          have hjg : j < o.bins[k].grams.length := by rw [hg _ (List.getElem_mem hc45)]; exact hjl
          have e4 : o.bins[k].grams[j]? = some o.bins[k].grams[j] := List.getElem?_eq_getElem hjg
          have k1 : k < lo.length := by omega
          have k2 : k < hi.length := by omega
          have e6 : lo[k]? = some lo[k] := List.getElem?_eq_getElem k1
          have e7 : hi[k]? = some hi[k] := List.getElem?_eq_getElem k2
          have ho : ovr o j o.bins[k] = IntKind.i64.wrap (o.bins[k].grams[j].2 - o.limits[j]) := by rw [ovr, e4, e5]; rfl
          refine EW.skip ?_
          refine n12 _ ?_; clear n12 x12
          refine EW.seq fun Ψ14 n14 x14 => ?_
          refine EW.block ?_
          refine EW.seq fun Ψ15 n15 x15 => ?_
          refine EW.drawn [] mixed gs_nil (by kernel_rfl) ?_
          simp [hc45, e2, e4, hjg, e5, hjl]
          refine n15 _ ?_; clear n15 x15
          refine EW.seq fun Ψ16 n16 x16 => ?_
          refine EW.region gs_nil ?_
          simp [k1, e6]
          refine n16 _ ?_; clear n16 x16
          refine EW.seq fun Ψ17 n17 x17 => ?_
          refine EW.seq fun Ψ18 n18 x18 => ?_
          refine EW.region gs_nil ?_
          simp
          refine n18 _ ?_; clear n18 x18
          refine EW.cond (t := _) (by rfl) (fun hc72 => ?_) (fun hc72 => ?_)
          · have hc72 : IntKind.i64.wrap (o.bins[k].grams[j].2 - o.limits[j]) < 0 := by simpa using hc72
            refine EW.region gs_nil ?_
            simp [k2, e7]
            refine n17 _ ?_; clear n17 x17
            refine EW.hide fun Ψ19 n19 => ?_
            refine EW.region gs_nil ?_
            simp [hc45, e2]
            refine n19 _ _ ?_; clear n19
            refine n14 _ ?_; clear n14 x14
            refine EW.hide fun Ψ20 n20 => ?_
            refine EW.region gs_nil ?_
            simp
            refine n20 _ _ ?_; clear n20
            have e3 : IntKind.i64.wrap ((k : Int) + 1) = k + 1 := wr_small (by omega) (by omega)
            refine ⟨(k + 1, IntKind.i64.wrap (s + IntKind.i64.wrap (IntKind.i64.wrap ((if IntKind.i64.wrap (o.bins[k].grams[j].2 - o.limits[j]) < 0 then hi[k] else lo[k]) * o.bins[k].w) * IntKind.i64.wrap (o.bins[k].grams[j].2 - o.limits[j])))), (St.le_lit rfl (by simp [e3, hc72]) (by simp) (by simp) (by simp) (by simp)), ?_, ?_⟩
            · refine ⟨hc45, ?_⟩
              rw [← hw, List.drop_eq_getElem_cons hc45, rsL, ho, e6, e7]; rfl
            · simp; omega
          · have hc72 : ¬ IntKind.i64.wrap (o.bins[k].grams[j].2 - o.limits[j]) < 0 := by simpa using hc72
            refine EW.skip ?_
            refine n17 _ ?_; clear n17 x17
            refine EW.hide fun Ψ21 n21 => ?_
            refine EW.region gs_nil ?_
            simp [hc45, e2]
            refine n21 _ _ ?_; clear n21
            refine n14 _ ?_; clear n14 x14
            refine EW.hide fun Ψ22 n22 => ?_
            refine EW.region gs_nil ?_
            simp
            refine n22 _ _ ?_; clear n22
            have e3 : IntKind.i64.wrap ((k : Int) + 1) = k + 1 := wr_small (by omega) (by omega)
            refine ⟨(k + 1, IntKind.i64.wrap (s + IntKind.i64.wrap (IntKind.i64.wrap ((if IntKind.i64.wrap (o.bins[k].grams[j].2 - o.limits[j]) < 0 then hi[k] else lo[k]) * o.bins[k].w) * IntKind.i64.wrap (o.bins[k].grams[j].2 - o.limits[j])))), (St.le_lit rfl (by simp [e3, hc72]) (by simp) (by simp) (by simp) (by simp)), ?_, ?_⟩
            · refine ⟨hc45, ?_⟩
              rw [← hw, List.drop_eq_getElem_cons hc45, rsL, ho, e6, e7]; rfl
            · simp; omega
        · simp at hc45
          have hkl : k = o.bins.length := by omega
          subst hkl
          simp [rsL] at hw
          rw [← hw] at hv
          refine EW.exit ?_
          refine x12 _ _ rfl ?_; clear n12 x12
          refine n10 _ ?_; clear n10 x10
          refine EW.seq fun Ψ23 n23 x23 => ?_
          refine EW.region gs_nil ?_
          simp
          refine n23 _ ?_; clear n23 x23
          refine EW.ret ?_
          refine ⟨_, _, _, rfl, ?_, ?_, ?_, ?_, ?_⟩ <;> simp [hv]

end Go.Ev
end

section
set_option linter.all false
open Go Go.Ev Go.Proofs
namespace Go.Ev
set_option linter.unusedSimpArgs false
set_option linter.unusedVariables false

set_option maxRecDepth 100000

/-- What is left of a proof: nothing, if there is an error. -/
def vlP (R : Int × List MBd) : List MBd := if R.1 = 0 then R.2 else []
theorem vlP_0 {R : Int × List MBd} (h : R.1 = 0) : vlP R = R.2 := by rw [vlP, if_pos h]
theorem vlP_n {R : Int × List MBd} (h : ¬ R.1 = 0) : vlP R = [] := by rw [vlP, if_neg h]

end Go.Ev
end
