/- Lemmas for the claims of this seat: an evaluator over abstract values, its soundness, and the contracts of the functions of melt that it walks; no premise beyond what each theorem states. -/
import Derived.Shelf.Strings.Builder1
import Derived.Shelf.Strings.BuilderF
import Derived.Shelf.Strings.BuilderK
import Derived.Shelf.Strconv.Itoa1
import Derived.Shelf.Strconv.Itoa2
import Derived.Shelf.Strconv.Itoa3
import Derived.Shelf.Strings.Split
import Derived.Test.YtdcelpomnboeoaaDoorProg
import Derived.WalkKit
import Derived.BigCall
import Derived.Test.YtdcelpomnboeoaaDoorGAI
import Derived.Test.YtdcelpomnboeoaaDoorGAJ
import Derived.Test.YtdcelpomnboeoaaDoorGAK
import Derived.Test.YtdcelpomnboeoaaDoorGAL
import Derived.Test.YtdcelpomnboeoaaDoorGAH

section
set_option linter.all false
open Go Go.Ev Go.Proofs
namespace Go.Ev
set_option linter.unusedSimpArgs false
set_option linter.all false

/-! ### What proofs prove -/
def sX (f : MBin → Int) : List MBin → List Int → Int
  | b :: bs, n :: l => n * f b + sX f bs l
  | _, _ => 0
theorem sX_nil (f : MBin → Int) (bs : List MBin) : sX f bs [] = 0 := by cases bs <;> rfl
theorem weighL_Z (bins : List MBin) (hb : ∀ b ∈ bins, (1 ≤ b.w ∧ b.w ≤ 10000) ∧ 0 ≤ b.c ∧ b.c ≤ 10000000) (h4 : bins.length ≤ 4) : ∀ (l : List Int) (i : Nat) (k c : Int), i + l.length ≤ bins.length → (∀ n ∈ l, 0 ≤ n ∧ n ≤ 6) → 0 ≤ k ∧ k ≤ 1000000000 * i → 0 ≤ c ∧ c ≤ 1000000000 * i →
    weighL bins l i k c = (k + sX (·.w) (bins.drop i) l, c + sX (·.c) (bins.drop i) l)
  | [], i, k, c, _, _, _, _ => by simp [weighL, sX_nil]
  | n :: l, i, k, c, hi, hn, hk, hc => by
    simp only [List.length_cons] at hi
    have hlt : i < bins.length := by omega
    obtain ⟨⟨w1, w2⟩, c1, c2⟩ := hb _ (List.getElem_mem hlt)
    obtain ⟨n1, n2⟩ := hn n (by simp)
    have m1 : 0 ≤ n * bins[i].w := Int.mul_nonneg n1 (by omega)
    have m2 : n * bins[i].w ≤ 6 * 10000 := Int.mul_le_mul n2 w2 (by omega) (by omega)
    have m3 : 0 ≤ n * bins[i].c := Int.mul_nonneg n1 c1
    have m4 : n * bins[i].c ≤ 6 * 10000000 := Int.mul_le_mul n2 c2 c1 (by omega)
    simp only [weighL, List.getElem?_eq_getElem hlt]
    rw [wr_small (n := n * bins[i].w) (by omega) (by omega), wr_small (n := n * bins[i].c) (by omega) (by omega), wr_small (n := k + _) (by omega) (by omega), wr_small (n := c + _) (by omega) (by omega),
      weighL_Z bins hb h4 l (i + 1) _ _ (by omega) (fun m hm => hn m (by simp [hm])) (by omega) (by omega), List.drop_eq_getElem_cons hlt]
    simp only [sX]
    rw [Int.add_assoc, Int.add_assoc]
section
variable {o : MOrd} (k : OkO o)
include k
theorem weighL_ok {l : List Int} (kb : okBl o l) : weighL o.bins l 0 0 0 = (sX (·.w) o.bins l, sX (·.c) o.bins l) := by
  have := weighL_Z o.bins (fun b hb => ⟨(k.bin b hb).w, (k.bin b hb).c⟩) k.nb l 0 0 0 (by have := kb.1; omega) (kb.pos k) (by omega) (by omega)
  simpa using this
end
/-- A box within an order, a blend within a box. -/
def okX : List MBin → List (Int × Int) → Prop
  | b :: bs, p :: x => (0 ≤ p.1 ∧ p.1 ≤ p.2 ∧ p.2 ≤ b.g) ∧ okX bs x
  | [], x => ∀ p ∈ x, p = (0, 0)
  | _ :: _, [] => False
def bX : List MBin → List (Int × Int) → List Int → Prop
  | _ :: bs, p :: x, n :: l => (p.1 ≤ n ∧ n ≤ p.2) ∧ bX bs x l
  | [], _, [] => True
  | _, _, _ => False
theorem bX_bl : ∀ {bs : List MBin} {x : List (Int × Int)} {l : List Int}, okX bs x → bX bs x l → l.length = bs.length ∧ ∀ (i : Nat) (h : i < bs.length) (h' : i < l.length), 0 ≤ l[i] ∧ l[i] ≤ bs[i].g
  | b :: bs, p :: x, n :: l, h, hi => by
    obtain ⟨e, f⟩ := bX_bl h.2 hi.2
    have h1 := h.1
    have h2 := hi.1
    refine ⟨by simp [e], fun i a c => ?_⟩
    cases i with
    | zero => simp only [List.getElem_cons_zero]; omega
    | succ i => simpa using f i (by simpa using a) (by simpa using c)
  | [], x, [], _, _ => ⟨rfl, fun i h => by simp at h⟩
  | [], x, _ :: _, _, hi => hi.elim
  | b :: bs, [], l, h, _ => h.elim
  | b :: bs, p :: x, [], _, hi => hi.elim
theorem bX_ok {o : MOrd} {x : List (Int × Int)} {l : List Int} (h : okX o.bins x) (hi : bX o.bins x l) : okBl o l := bX_bl h hi
def lowX : List MBin → List (Int × Int) → List Int
  | _ :: bs, p :: x => p.1 :: lowX bs x
  | _, _ => []
def highX : List MBin → List (Int × Int) → List Int
  | _ :: bs, p :: x => p.2 :: highX bs x
  | _, _ => []
theorem lowX_eq : ∀ (bs : List MBin) (x : List (Int × Int)), (x.take bs.length).map (·.1) = lowX bs x
  | b :: bs, p :: x => by simp [lowX, ← lowX_eq bs x]
  | [], x => by simp [lowX]
  | b :: bs, [] => by simp [lowX]
theorem highX_eq : ∀ (bs : List MBin) (x : List (Int × Int)), (x.take bs.length).map (·.2) = highX bs x
  | b :: bs, p :: x => by simp [highX, ← highX_eq bs x]
  | [], x => by simp [highX]
  | b :: bs, [] => by simp [highX]
theorem lowX_in : ∀ {bs : List MBin} {x : List (Int × Int)}, okX bs x → bX bs x (lowX bs x)
  | b :: bs, p :: x, h => ⟨⟨Int.le_refl _, h.1.2.1⟩, lowX_in h.2⟩
  | [], x, _ => trivial
  | b :: bs, [], h => h.elim
theorem highX_in : ∀ {bs : List MBin} {x : List (Int × Int)}, okX bs x → bX bs x (highX bs x)
  | b :: bs, p :: x, h => ⟨⟨h.1.2.1, Int.le_refl _⟩, highX_in h.2⟩
  | [], x, _ => trivial
  | b :: bs, [], h => h.elim
theorem sX_mono (f : MBin → Int) : ∀ {bs : List MBin} {x : List (Int × Int)} {l : List Int}, (∀ b ∈ bs, 0 ≤ f b) → bX bs x l → sX f bs (lowX bs x) ≤ sX f bs l ∧ sX f bs l ≤ sX f bs (highX bs x)
  | b :: bs, p :: x, n :: l, hf, hi => by
    obtain ⟨i1, i2⟩ := sX_mono f (fun c hc => hf c (by simp [hc])) hi.2
    have h0 := hf b (by simp)
    have h1 := Int.mul_le_mul_of_nonneg_right hi.1.1 h0
    have h2 := Int.mul_le_mul_of_nonneg_right hi.1.2 h0
    simp only [sX, lowX, highX]
    omega
  | [], x, [], _, _ => by simp [sX]
  | [], x, _ :: _, _, hi => hi.elim
  | b :: bs, [], l, _, h => by cases l <;> exact h.elim
  | b :: bs, p :: x, [], _, hi => hi.elim
def brkZ (lim : Int) (m : Nat) : List MBin → List (Int × Int) → Int
  | b :: bs, p :: x => (if 0 ≤ b.w * ((b.grams.getD m (0, 0)).2 - lim) then p.1 * (b.w * ((b.grams.getD m (0, 0)).2 - lim)) else p.2 * (b.w * ((b.grams.getD m (0, 0)).2 - lim))) + brkZ lim m bs x
  | _, _ => 0
theorem prod_in {a b A B : Int} (h1 : 0 ≤ a ∧ a ≤ A) (h2 : -B ≤ b ∧ b ≤ B) : -(A * B) ≤ a * b ∧ a * b ≤ A * B := by
  have hB : 0 ≤ B := by omega
  constructor
  · have q1 : a * (-B) ≤ a * b := Int.mul_le_mul_of_nonneg_left h2.1 h1.1
    have q2 : a * B ≤ A * B := Int.mul_le_mul_of_nonneg_right h1.2 hB
    rw [Int.mul_neg] at q1
    omega
  · have q1 : a * b ≤ a * B := Int.mul_le_mul_of_nonneg_left h2.2 h1.1
    have q2 : a * B ≤ A * B := Int.mul_le_mul_of_nonneg_right h1.2 hB
    omega
theorem brkL_Z (lim : Int) (hlim : 0 ≤ lim ∧ lim ≤ 1000000) (m nl : Nat) (x : List (Int × Int)) : ∀ (bs : List MBin) (i : Nat) (s : Int), (∀ b ∈ bs, OkB nl b) → okX bs (x.drop i) → i + bs.length ≤ 4 → -(1000000000000 * i) ≤ s ∧ s ≤ 1000000000000 * i → brkL lim m x bs i s = s + brkZ lim m bs (x.drop i)
  | [], i, s, _, _, _, _ => by simp [brkL, brkZ]
  | b :: bs, i, s, hb, hx, hi, hs => by
    simp only [List.length_cons] at hi
    cases hd : x.drop i with
    | nil => rw [hd] at hx; exact hx.elim
    | cons p y =>
      have e1 : x[i]? = some p := by
        have := List.getElem?_drop (xs := x) (i := i) (j := 0)
        rw [hd] at this
        simpa using this.symm
      have e2 : x.drop (i + 1) = y := by rw [← List.drop_drop, hd]; rfl
      rw [hd] at hx
      have kb := hb b (by simp)
      have gm := getD_in kb m
      have w := kb.w
      have hp := hx.1
      have hg := kb.g
      have t := prod_in (a := b.w) (b := (b.grams.getD m (0, 0)).2 - lim) (A := 10000) (B := 1000000) (by omega) (by omega)
      have hT : brkT lim m b = b.w * ((b.grams.getD m (0, 0)).2 - lim) := by
        unfold brkT
        rw [← List.getD_eq_getElem?_getD, wr_small (n := _ - lim) (by omega) (by omega), wr_small (by omega) (by omega)]
      generalize b.w * ((b.grams.getD m (0, 0)).2 - lim) = T at hT t
      have p1 := prod_in (a := p.1) (b := T) (A := 6) (B := 10000 * 1000000) (by omega) (by omega)
      have p2 := prod_in (a := p.2) (b := T) (A := 6) (B := 10000 * 1000000) (by omega) (by omega)
      have hT' : b.w * ((b.grams.getD m (0, 0)).2 - lim) = T := by rw [← hT]; unfold brkT; rw [← List.getD_eq_getElem?_getD, wr_small (n := _ - lim) (by omega) (by omega), wr_small]; all_goals (have := prod_in (a := b.w) (b := (b.grams.getD m (0, 0)).2 - lim) (A := 10000) (B := 1000000) (by omega) (by omega); omega)
      simp only [brkL, brkZ, hT, hT', e1, Option.getD_some]
      split
      · rw [wr_small (n := p.1 * T) (by omega) (by omega), wr_small (n := s + _) (by omega) (by omega), brkL_Z lim hlim m nl x bs (i + 1) _ (fun c hc => hb c (by simp [hc])) (by rw [e2]; exact hx.2) (by omega) (by omega), e2]
        omega
      · rw [wr_small (n := p.2 * T) (by omega) (by omega), wr_small (n := s + _) (by omega) (by omega), brkL_Z lim hlim m nl x bs (i + 1) _ (fun c hc => hb c (by simp [hc])) (by rw [e2]; exact hx.2) (by omega) (by omega), e2]
        omega
theorem brkZ_le (lim : Int) (m : Nat) : ∀ {bs : List MBin} {x : List (Int × Int)} {l : List Int}, bX bs x l → brkZ lim m bs x ≤ beyZ true m lim bs l
  | b :: bs, p :: x, n :: l, hi => by
    have ih := brkZ_le lim m hi.2
    have hi1 := hi.1
    simp only [brkZ, beyZ, endR, if_true]
    rw [Int.mul_assoc]
    generalize b.w * ((b.grams.getD m (0, 0)).2 - lim) = T
    split
    · rename_i h
      have := Int.mul_le_mul_of_nonneg_right hi1.1 h
      omega
    · rename_i h
      have h0 : 0 ≤ -T := by omega
      have := Int.mul_le_mul_of_nonneg_right hi1.2 h0
      rw [Int.mul_neg, Int.mul_neg] at this
      omega
  | [], x, [], _ => by simp [brkZ, beyZ]
  | [], x, _ :: _, hi => hi.elim
  | b :: bs, [], l, h => by cases l <;> exact h.elim
  | b :: bs, p :: x, [], hi => hi.elim
theorem brkZ_one (lim : Int) (m : Nat) : ∀ {bs : List MBin} {x : List (Int × Int)}, (∀ p ∈ x, p.1 = p.2) → okX bs x → brkZ lim m bs x = beyZ true m lim bs (lowX bs x)
  | b :: bs, p :: x, h1, h => by
    have ih := brkZ_one lim m (fun q hq => h1 q (by simp [hq])) h.2
    have e := h1 p (by simp)
    simp only [brkZ, beyZ, lowX, endR, if_true, ih]
    rw [Int.mul_assoc, ← e]
    simp
  | [], x, _, _ => by simp [brkZ, beyZ, lowX]
  | b :: bs, [], _, h => h.elim
theorem holdL_iff (q : Bool) (o : MOrd) (l : List Int) : ∀ (n j : Nat), holdL q o l n j = true ↔ ∀ i, i < n → ¬ 0 < beyL q o.limits o.bins (j + i) l 0 0
  | 0, j => by simp [holdL]
  | n + 1, j => by
    rw [holdL]
    split
    · rename_i h
      exact ⟨fun e => (by cases e), fun e => absurd h (e 0 (by omega))⟩
    · rename_i h
      rw [holdL_iff q o l n (j + 1)]
      constructor
      · intro h' i hi
        cases i with
        | zero => exact h
        | succ i => have := h' i (by omega); rwa [show j + 1 + i = j + (i + 1) by omega] at this
      · intro h' i hi
        have := h' (i + 1) (by omega)
        rwa [show j + (i + 1) = j + 1 + i by omega] at this
structure BX (o : MOrd) (x : List (Int × Int)) : Prop where
  ok : okX o.bins x
  len : x.length = 4
section
variable {o : MOrd} (k : OkO o) {x : List (Int × Int)} (bx : BX o x)
include k bx
theorem good_iff {l : List Int} (kb : okBl o l) : goodB o l = true ↔ (o.least ≤ sX (·.w) o.bins l ∧ sX (·.w) o.bins l ≤ o.most) ∧ ∀ (j : Nat) (h : j < o.limits.length), ¬ 0 < beyZ true j o.limits[j] o.bins l := by
  have e := holdL_iff true o l o.limits.length 0
  rw [← holdV] at e
  rw [goodB, decide_eq_true_eq, nW, weighL_ok k kb, keepV_1 k kb, e, and_assoc]
  refine and_congr_right fun _ => and_congr_right fun _ => ?_
  constructor
  · intro h j hj
    have := h j hj
    rwa [Nat.zero_add, bey_Z k kb true j hj] at this
  · intro h j hj
    have := h j hj
    rwa [Nat.zero_add, bey_Z k kb true j hj]
theorem low_bl : okBl o (lowX o.bins x) := bX_ok bx.ok (lowX_in bx.ok)
theorem high_bl : okBl o (highX o.bins x) := bX_ok bx.ok (highX_in bx.ok)
theorem lightB_iff : lightB o x = true ↔ sX (·.w) o.bins (highX o.bins x) < o.least := by
  rw [lightB, decide_eq_true_eq, highsB, highX_eq, weighL_ok k (high_bl k bx)]
theorem heavyB_iff : heavyB o x = true ↔ o.most < sX (·.w) o.bins (lowX o.bins x) := by
  rw [heavyB, decide_eq_true_eq, lowsB, lowX_eq, weighL_ok k (low_bl k bx)]
theorem dearB_iff (pr : Int) : dearB o pr x = true ↔ pr ≤ sX (·.c) o.bins (lowX o.bins x) := by
  rw [dearB, decide_eq_true_eq, lowsB, lowX_eq, weighL_ok k (low_bl k bx)]
theorem brkV_iff (j : Nat) (hj : j < o.limits.length) : brkV o x j = true ↔ 0 < brkZ o.limits[j] j o.bins x := by
  rw [brkV, decide_eq_true_eq, List.getElem?_eq_getElem hj, Option.getD_some, brkL_Z o.limits[j] (k.lim _ (List.getElem_mem hj)) j o.limits.length x o.bins 0 0 k.bin (by simpa using bx.ok) (by have := k.nb; omega) (by omega)]
  simp
/-- No blend of the box is good, and costs less than the price. -/
def noneB (o : MOrd) (pr : Int) (x : List (Int × Int)) : Prop := ∀ l, bX o.bins x l → goodB o l = true → ¬ cW o l < pr
theorem light_none (pr : Int) (h : lightB o x = true) : noneB o pr x := by
  intro l hl hg _
  have h1 := (lightB_iff k bx).1 h
  have h2 := ((good_iff k bx (bX_ok bx.ok hl)).1 hg).1.1
  have h3 := (sX_mono (·.w) (fun b hb => by have := (k.bin b hb).w; omega) hl).2
  omega
theorem heavy_none (pr : Int) (h : heavyB o x = true) : noneB o pr x := by
  intro l hl hg _
  have h1 := (heavyB_iff k bx).1 h
  have h2 := ((good_iff k bx (bX_ok bx.ok hl)).1 hg).1.2
  have h3 := (sX_mono (·.w) (fun b hb => by have := (k.bin b hb).w; omega) hl).1
  omega
theorem dear_none (pr : Int) (h : dearB o pr x = true) : noneB o pr x := by
  intro l hl hg hc
  have h1 := (dearB_iff k bx pr).1 h
  have h3 := (sX_mono (·.c) (fun b hb => by have := (k.bin b hb).c; omega) hl).1
  rw [cW, weighL_ok k (bX_ok bx.ok hl)] at hc
  simp only at hc
  omega
theorem brk_none (pr : Int) (j : Nat) (hj : j < o.limits.length) (h : brkV o x j = true) : noneB o pr x := by
  intro l hl hg _
  have h1 := (brkV_iff k bx j hj).1 h
  have h2 := ((good_iff k bx (bX_ok bx.ok hl)).1 hg).2 j hj
  have h3 := brkZ_le o.limits[j] j hl
  omega
end
theorem brokL_none (o : MOrd) (x : List (Int × Int)) : ∀ (n j : Nat), (brokL o x n j = none → ∀ i, i < n → brkV o x (j + i) = false) ∧ (∀ i, brokL o x n j = some i → j ≤ i ∧ i < j + n ∧ brkV o x i = true)
  | 0, j => by simp [brokL]
  | n + 1, j => by
    obtain ⟨a, b⟩ := brokL_none o x n (j + 1)
    rw [brokL]
    split
    · rename_i h
      exact ⟨fun e => (by cases e), fun i e => by cases e; exact ⟨by omega, by omega, h⟩⟩
    · rename_i h
      refine ⟨fun e i hi => ?_, fun i e => by have := b i e; exact ⟨by omega, by omega, this.2.2⟩⟩
      cases i with
      | zero => simpa using h
      | succ i => have := a e i (by omega); rwa [show j + 1 + i = j + (i + 1) by omega] at this
/-! cuts -/
theorem setHi_x : ∀ {bs : List MBin} {x : List (Int × Int)} {i : Nat} {p : Int × Int} {v : Int}, x[i]? = some p → okX bs x → i < bs.length → p.1 ≤ v → v ≤ p.2 → okX bs (setHi x i v) ∧ ∀ l, bX bs (setHi x i v) l → bX bs x l
  | b :: bs, q :: x, 0, p, v, h, hx, _, h1, h2 => by
    simp at h; subst h
    refine ⟨⟨⟨hx.1.1, h1, by have := hx.1; show v ≤ _; omega⟩, hx.2⟩, fun l hl => ?_⟩
    cases l with
    | nil => exact hl
    | cons n l => exact ⟨⟨hl.1.1, by have : n ≤ v := hl.1.2; omega⟩, hl.2⟩
  | b :: bs, q :: x, i + 1, p, v, h, hx, hi, h1, h2 => by
    obtain ⟨a, c⟩ := setHi_x (i := i) (by simpa using h) hx.2 (by simpa using hi) h1 h2
    refine ⟨⟨hx.1, a⟩, fun l hl => ?_⟩
    cases l with
    | nil => exact hl
    | cons n l => exact ⟨hl.1, c l hl.2⟩
  | [], x, i, p, v, _, _, hi, _, _ => by simp at hi
  | b :: bs, [], i, p, v, _, hx, _, _, _ => hx.elim
theorem setLo_x : ∀ {bs : List MBin} {x : List (Int × Int)} {i : Nat} {p : Int × Int} {v : Int}, x[i]? = some p → okX bs x → i < bs.length → p.1 ≤ v → v ≤ p.2 → okX bs (setLo x i v) ∧ ∀ l, bX bs (setLo x i v) l → bX bs x l
  | b :: bs, q :: x, 0, p, v, h, hx, _, h1, h2 => by
    simp at h; subst h
    refine ⟨⟨⟨by have := hx.1; show 0 ≤ v; omega, h2, hx.1.2.2⟩, hx.2⟩, fun l hl => ?_⟩
    cases l with
    | nil => exact hl
    | cons n l => exact ⟨⟨by have : v ≤ n := hl.1.1; omega, hl.1.2⟩, hl.2⟩
  | b :: bs, q :: x, i + 1, p, v, h, hx, hi, h1, h2 => by
    obtain ⟨a, c⟩ := setLo_x (i := i) (by simpa using h) hx.2 (by simpa using hi) h1 h2
    refine ⟨⟨hx.1, a⟩, fun l hl => ?_⟩
    cases l with
    | nil => exact hl
    | cons n l => exact ⟨hl.1, c l hl.2⟩
  | [], x, i, p, v, _, _, hi, _, _ => by simp at hi
  | b :: bs, [], i, p, v, _, hx, _, _, _ => hx.elim
theorem cut_x : ∀ {bs : List MBin} {x : List (Int × Int)} {l : List Int} (i : Nat) (v : Int), bX bs x l → bX bs (setHi x i v) l ∨ bX bs (setLo x i (v + 1)) l
  | b :: bs, q :: x, n :: l, 0, v, h => by
    have h1 := h.1
    by_cases hv : n ≤ v
    · exact .inl ⟨⟨h1.1, hv⟩, h.2⟩
    · exact .inr ⟨⟨by show v + 1 ≤ n; omega, h1.2⟩, h.2⟩
  | b :: bs, q :: x, n :: l, i + 1, v, h => by
    rcases cut_x i v h.2 with c | c
    · exact .inl ⟨h.1, c⟩
    · exact .inr ⟨h.1, c⟩
  | [], x, [], i, v, _ => .inl trivial
  | [], x, _ :: _, i, v, h => h.elim
  | b :: bs, [], l, i, v, h => by cases l <;> exact h.elim
  | b :: bs, p :: x, [], i, v, h => h.elim
theorem okX_get : ∀ {bs : List MBin} {x : List (Int × Int)} {i : Nat} {p : Int × Int}, okX bs x → x[i]? = some p → (i < bs.length → ∃ b ∈ bs, 0 ≤ p.1 ∧ p.1 ≤ p.2 ∧ p.2 ≤ b.g) ∧ (¬ i < bs.length → p = (0, 0))
  | b :: bs, q :: x, 0, p, h, hp => by
    simp at hp; subst hp
    exact ⟨fun _ => ⟨b, by simp, h.1⟩, fun e => absurd (by simp) e⟩
  | b :: bs, q :: x, i + 1, p, h, hp => by
    obtain ⟨a, c⟩ := okX_get (i := i) h.2 (by simpa using hp)
    refine ⟨fun hi => ?_, fun hi => c (by simpa using hi)⟩
    obtain ⟨b', hb', r⟩ := a (by simpa using hi)
    exact ⟨b', by simp [hb'], r⟩
  | [], x, i, p, h, hp => ⟨fun e => by simp at e, fun _ => h p (List.mem_of_getElem? hp)⟩
  | b :: bs, [], i, p, h, _ => h.elim
section
variable {o : MOrd} (k : OkO o)
include k
theorem BX.bx {x : List (Int × Int)} (b : BX o x) : okBx x := by
  intro p hp
  obtain ⟨i, hi⟩ := List.getElem?_of_mem hp
  obtain ⟨a, c⟩ := okX_get b.ok hi
  by_cases h : i < o.bins.length
  · obtain ⟨q, hq, r⟩ := a h
    have := (k.bin q hq).g
    omega
  · rw [c h]; exact ⟨Int.le_refl _, Int.le_refl _, by decide⟩
theorem BX.hi {x : List (Int × Int)} (b : BX o x) {i : Nat} {p : Int × Int} {v : Int} (hp : x[i]? = some p) (hi : i < o.bins.length) (h1 : p.1 ≤ v) (h2 : v ≤ p.2) : BX o (setHi x i v) := ⟨(setHi_x hp b.ok hi h1 h2).1, by rw [setHi_len, b.len]⟩
theorem BX.lo {x : List (Int × Int)} (b : BX o x) {i : Nat} {p : Int × Int} {v : Int} (hp : x[i]? = some p) (hi : i < o.bins.length) (h1 : p.1 ≤ v) (h2 : v ≤ p.2) : BX o (setLo x i v) := ⟨(setLo_x hp b.ok hi h1 h2).1, by rw [setLo_len, b.len]⟩
/-- What is right for Verify holds. -/
theorem ver_none (pr : Int) : ∀ (m : Nat) (x : List (Int × Int)) (r r' : List MBd), BX o x → verR o pr m x r = (0, r') → noneB o pr x
  | 0, x, r, r', _, h => by simp [verR] at h
  | m + 1, x, [], r', _, h => by simp [verR] at h
  | m + 1, x, b :: r, r', bx, h => by
    simp only [verR] at h
    have hn := k.nb
    split at h
    · split at h
      · cases h
      · rename_i h1 h2
        have h2 := inB_iff.1 (by simpa [-wr_def] using h2)
        rw [wr_small (by omega) (by omega)] at h2
        split at h
        · cases h
        · rename_i h3
          have hlen := bx.len
          obtain ⟨p, hp⟩ : ∃ p, x[b.a.toNat]? = some p := ⟨_, List.getElem?_eq_getElem (by omega)⟩
          have hpb := okBx_get (BX.bx k bx) hp
          rw [hp, Option.getD_some] at h3
          have h3 := inB_iff.1 (by simpa [-wr_def] using h3)
          rw [wr_small (by omega) (by omega)] at h3
          split at h
          · rename_i h4
            have b1 := BX.hi k bx hp (v := b.c) (by omega) (by omega) (by omega)
            rw [wr_small (n := b.c + 1) (by omega) (by omega)] at h
            have b2 := BX.lo k bx hp (v := b.c + 1) (by omega) (by omega) (by omega)
            have n1 := ver_none pr m _ r (verR o pr m (setHi x b.a.toNat b.c) r).2 b1 (by rw [← h4])
            have n2 := ver_none pr m _ _ _ b2 h
            intro l hl
            rcases cut_x b.a.toNat b.c hl with c | c
            · exact n1 l c
            · exact n2 l c
          · rename_i h4
            exact absurd (by rw [h]) h4
    · split at h
      · split at h
        · rename_i q; exact light_none k bx pr q
        · cases h
      · split at h
        · split at h
          · rename_i q; exact heavy_none k bx pr q
          · cases h
        · split at h
          · split at h
            · cases h
            · rename_i h2
              have h2 := inB_iff.1 (by simpa [-wr_def] using h2)
              have := k.nl
              rw [wr_small (by omega) (by omega)] at h2
              split at h
              · rename_i q; exact brk_none k bx pr b.a.toNat (by omega) q
              · cases h
          · split at h
            · split at h
              · rename_i q; exact dear_none k bx pr q
              · cases h
            · cases h
theorem one_good {x : List (Int × Int)} (bx : BX o x) (pr : Int) (h1 : x = oneB x) (g1 : ¬ lightB o x = true) (g2 : ¬ heavyB o x = true) (g3 : ¬ brokI o x = true) (g4 : ¬ dearB o pr x = true) : ∃ l, bX o.bins x l ∧ goodB o l = true ∧ cW o l < pr := by
  have hq : ∀ p ∈ x, p.1 = p.2 := by
    intro p hp
    rw [h1] at hp
    obtain ⟨q, _, rfl⟩ := List.mem_map.1 hp
    rfl
  have hlh : highX o.bins x = lowX o.bins x := by
    have : ∀ (bs : List MBin) (x : List (Int × Int)), (∀ p ∈ x, p.1 = p.2) → highX bs x = lowX bs x := by
      intro bs
      induction bs with
      | nil => intro x _; rfl
      | cons b bs ih =>
        intro x hx
        cases x with
        | nil => rfl
        | cons p x => simp only [highX, lowX]; rw [ih x fun q hq => hx q (by simp [hq]), hx p (by simp)]
    exact this _ _ hq
  have kb := low_bl k bx
  refine ⟨lowX o.bins x, lowX_in bx.ok, (good_iff k bx kb).2 ⟨⟨?_, ?_⟩, fun j hj => ?_⟩, ?_⟩
  · have := mt (lightB_iff k bx).2 g1; rw [hlh] at this; omega
  · have := mt (heavyB_iff k bx).2 g2; omega
  · have hb : brokV o x = none := by
      cases hb : brokV o x with
      | none => rfl
      | some i => exact absurd (by rw [brokI, hb]; rfl) g3
    have := (brokL_none o x o.limits.length 0).1 hb j hj
    rw [Nat.zero_add] at this
    have := mt (brkV_iff k bx j hj).2 (by rw [this]; simp)
    rwa [brkZ_one o.limits[j] j hq bx.ok] at this
  · have := mt (dearB_iff k bx pr).2 g4
    rw [cW, weighL_ok k kb]
    simp only
    omega
theorem plain_spec (pr : Int) : ∀ (n : Nat) (x : List (Int × Int)), BX o x → sizeBx x < n →
    (plainL o pr n x = none → ∃ l, bX o.bins x l ∧ goodB o l = true ∧ cW o l < pr) ∧
    ∀ p, plainL o pr n x = some p → ∀ (m : Nat) (rest : List MBd), p.length + rest.length < m → verR o pr m x (p ++ rest) = (0, rest)
  | 0, x, _, h => by omega
  | n + 1, x, bx, hs => by
    have hbx := BX.bx k bx
    have hn := k.nb
    rw [plainL]
    split
    · rename_i g1
      refine ⟨fun e => (by cases e), fun p e m rest hm => ?_⟩
      cases e
      obtain ⟨m, rfl⟩ : ∃ q, m = q + 1 := ⟨m - 1, by omega⟩
      simp [verR, g1]
    rename_i g1
    split
    · rename_i g2
      refine ⟨fun e => (by cases e), fun p e m rest hm => ?_⟩
      cases e
      obtain ⟨m, rfl⟩ : ∃ q, m = q + 1 := ⟨m - 1, by omega⟩
      simp [verR, g2]
    rename_i g2
    split
    · rename_i g3
      refine ⟨fun e => (by cases e), fun p e m rest hm => ?_⟩
      cases e
      obtain ⟨m, rfl⟩ : ∃ q, m = q + 1 := ⟨m - 1, by omega⟩
      have hb : ∃ i, brokV o x = some i := by
        cases hb : brokV o x with
        | none => rw [brokI, hb] at g3; cases g3
        | some i => exact ⟨i, rfl⟩
      obtain ⟨i, hi⟩ := hb
      obtain ⟨_, q1, q2⟩ := (brokL_none o x o.limits.length 0).2 i hi
      have hA : brokA o x = i := by rw [brokA, hi]
      have := k.nl
      have hin : inB (i : Int) 0 (wr (o.limits.length - 1)) = true := by
        rw [wr_small (by omega) (by omega)]
        exact inB_iff.2 (by omega)
      simp only [wr] at hin
      simp [verR, hA, hin, q2]
    rename_i g3
    split
    · rename_i g4
      refine ⟨fun e => (by cases e), fun p e m rest hm => ?_⟩
      cases e
      obtain ⟨m, rfl⟩ : ∃ q, m = q + 1 := ⟨m - 1, by omega⟩
      simp [verR, g4]
    rename_i g4
    split
    · rename_i g5
      exact ⟨fun _ => one_good k bx pr g5 g1 g2 g3 g4, fun p e => by cases e⟩
    rename_i g5
    obtain ⟨f1, p0, f2, f3⟩ := firstD_lt x g5
    have hp0 := okBx_get hbx f2
    have hlt : firstD x < o.bins.length := by
      rcases Nat.lt_or_ge (firstD x) o.bins.length with h | h
      · exact h
      · have := (okX_get bx.ok f2).2 (by omega)
        rw [this] at f3
        exact absurd rfl f3
    have hmid := midB_eq hbx f2
    have hm1 : p0.1 ≤ midB x := by omega
    have hm2 : midB x < p0.2 := by omega
    have hw : wr (midB x + 1) = midB x + 1 := wr_small (by omega) (by omega)
    obtain ⟨⟨_, z1⟩, _, z2⟩ := halves hbx g5
    rw [hw] at z2 ⊢
    have b1 := BX.hi k bx f2 hlt hm1 (by omega)
    have b2 := BX.lo k bx f2 (v := midB x + 1) hlt (by omega) (by omega)
    obtain ⟨i1, i2⟩ := plain_spec pr n _ b1 (by omega)
    obtain ⟨j1, j2⟩ := plain_spec pr n _ b2 (by omega)
    have back1 := (setHi_x f2 bx.ok hlt hm1 (by omega)).2
    have back2 := (setLo_x (v := midB x + 1) f2 bx.ok hlt (by omega) (by omega)).2
    cases hA : plainL o pr n (setHi x (firstD x) (midB x)) with
    | none =>
      refine ⟨fun _ => ?_, fun p e => by cases e⟩
      obtain ⟨l, q1, q2⟩ := i1 hA
      exact ⟨l, back1 l q1, q2⟩
    | some a =>
      cases hB : plainL o pr n (setLo x (firstD x) (midB x + 1)) with
      | none =>
        refine ⟨fun _ => ?_, fun p e => by cases e⟩
        obtain ⟨l, q1, q2⟩ := j1 hB
        exact ⟨l, back2 l q1, q2⟩
      | some b =>
        refine ⟨fun e => (by cases e), fun p e m rest hm => ?_⟩
        cases e
        obtain ⟨m, rfl⟩ : ∃ q, m = q + 1 := ⟨m - 1, by omega⟩
        simp only [List.length_cons, List.length_append] at hm
        have v1 := i2 a hA m (b ++ rest) (by simp; omega)
        have v2 := j2 b hB m rest (by omega)
        have hin : inB (firstD x : Int) 0 (wr (o.bins.length - 1)) = true := by
          rw [wr_small (by omega) (by omega)]
          exact inB_iff.2 (by omega)
        have hin2 : inB (midB x) p0.1 (wr (p0.2 - 1)) = true := by
          rw [wr_small (by omega) (by omega)]
          exact inB_iff.2 (by omega)
        rw [List.cons_append, List.append_assoc]
        simp only [verR, if_true]
        rw [if_neg (by rw [hin]; simp), Int.toNat_natCast, f2, Option.getD_some, if_neg (by rw [hin2]; simp), v1, hw]
        simp [v2]
theorem whole_X : BX o (wholeB o) := by
  refine ⟨?_, (whole_facts k).1⟩
  have hg := fun b hb => (k.bin b hb).g
  have hn := k.nb
  unfold wholeB
  generalize o.bins = bs at hg hn
  match bs, hn with
  | [], _ => intro p hp; simp [wholeL, bx0] at hp; exact hp
  | [a], _ =>
    have h1 := hg a (by simp)
    simp only [wholeL, setHi, bx0, okX]
    refine ⟨by simp; omega, ?_⟩
    simp
  | [a, b], _ =>
    have h1 := hg a (by simp); have h2 := hg b (by simp)
    simp only [wholeL, setHi, bx0, okX]
    refine ⟨by simp; omega, by simp; omega, ?_⟩
    simp
  | [a, b, c], _ =>
    have h1 := hg a (by simp); have h2 := hg b (by simp); have h3 := hg c (by simp)
    simp only [wholeL, setHi, bx0, okX]
    refine ⟨by simp; omega, by simp; omega, by simp; omega, ?_⟩
    simp
  | [a, b, c, d], _ =>
    have h1 := hg a (by simp); have h2 := hg b (by simp); have h3 := hg c (by simp); have h4 := hg d (by simp)
    simp only [wholeL, setHi, bx0, okX]
    refine ⟨by simp; omega, by simp; omega, by simp; omega, by simp; omega, ?_⟩
    simp
theorem whole_in {l : List Int} (kb : okBl o l) : bX o.bins (wholeB o) l := by
  have hn := k.nb
  obtain ⟨e, h⟩ := kb
  unfold wholeB
  generalize o.bins = bs at hn e h
  match bs, l, hn, e with
  | [], [], _, _ => trivial
  | [a], [n], _, _ =>
    have h1 := h 0 (by simp) (by simp)
    simp only [List.getElem_cons_zero] at h1
    exact ⟨h1, trivial⟩
  | [a, b], [n, m], _, _ =>
    have h1 := h 0 (by simp) (by simp); have h2 := h 1 (by simp) (by simp)
    simp only [List.getElem_cons_zero, List.getElem_cons_succ] at h1 h2
    exact ⟨h1, h2, trivial⟩
  | [a, b, c], [n, m, q], _, _ =>
    have h1 := h 0 (by simp) (by simp); have h2 := h 1 (by simp) (by simp); have h3 := h 2 (by simp) (by simp)
    simp only [List.getElem_cons_zero, List.getElem_cons_succ] at h1 h2 h3
    exact ⟨h1, h2, h3, trivial⟩
  | [a, b, c, d], [n, m, q, r], _, _ =>
    have h1 := h 0 (by simp) (by simp); have h2 := h 1 (by simp) (by simp); have h3 := h 2 (by simp) (by simp); have h4 := h 3 (by simp) (by simp)
    simp only [List.getElem_cons_zero, List.getElem_cons_succ] at h1 h2 h3 h4
    exact ⟨h1, h2, h3, h4, trivial⟩
end
end Go.Ev
end

section
set_option linter.all false
open Go Go.Ev Go.Proofs
namespace Go.Ev
set_option linter.unusedSimpArgs false
set_option linter.unusedVariables false

set_option maxRecDepth 100000

theorem check75_ok (o : MOrd) (pr : Int) (hl : o.bins.length ≤ 4) (hll : o.limits.length < 1000000) (hg : ∀ b ∈ o.bins, b.grams.length = o.limits.length) : ∀ (n : Nat) (x : List (Int × Int)) (r : List MBd), x.length = 4 → r.length < n →
    ACalls Tryd.prog 36 [.ptr (.ext 0) 0, .agg (bxA x)] [[.sl false false .U .no o.limits.length (eInts o.limits), .s (.int .i64 o.least), .s (.int .i64 o.most), .sl false false .U .no o.bins.length (eBins o.bins), .s (.int .i64 pr), .sl false false .U .no r.length (eBds r)]] (.ret (.s (.int .i64 (verR o pr n x r).1)) [[.sl false false .U .no o.limits.length (eInts o.limits), .s (.int .i64 o.least), .s (.int .i64 o.most), .sl false false .U .no o.bins.length (eBins o.bins), .s (.int .i64 pr), .sl false false .U .no (verR o pr n x r).2.length (eBds (verR o pr n x r).2)]] [])
  | 0, x, r, _, h => by omega
  | n + 1, x, [], hx, h => check75_nil o pr x hx
  | n + 1, x, b :: r, hx, h => check75_cons o pr n x b r hl hx (by simpa using h) hll hg fun y s hy hs => check75_ok o pr hl hll hg n y s hy hs
def verE (o : MOrd) (pr : Int) (p : List MBd) : Int :=
  if priceErr o pr = 0 then if 6000 < p.length then 6 else if (verR o pr (p.length + 1) (wholeB o) p).1 = 0 then (if 0 < (verR o pr (p.length + 1) (wholeB o) p).2.length then 2 else 0) else (verR o pr (p.length + 1) (wholeB o) p).1
  else priceErr o pr

theorem Verify_ok (o : MOrd) (pr : Int) (p : List MBd) (hz : szO o) : ACalls Tryd.prog 17 [.agg [.sl false false .U .no o.limits.length (eInts o.limits), .s (.int .i64 o.least), .s (.int .i64 o.most), .sl false false .U .no o.bins.length (eBins o.bins)], .s (.int .i64 pr), .sl false false .U .no p.length (eBds p)] [] (.ret (.s (.int .i64 (verE o pr p))) [] []) := by
  refine acalls_of_ew Tryd.func17 rfl rfl (by simp [Tryd.f17]) (rs := [.tmp 6]) rfl ?_
  refine EW.seq fun Ψ0 n0 x0 => ?_
  refine EW.region gs_nil ?_
  simp
  refine n0 _ ?_; clear n0 x0
  refine EW.seq fun Ψ1 n1 x1 => ?_
  refine EW.seq fun Ψ2 n2 x2 => ?_
  refine EW.region (gs_cons (checkPrice_ok o pr hz) gs_nil) ?_
  simp
  refine n2 _ ?_; clear n2 x2
  refine EW.seq fun Ψ3 n3 x3 => ?_
  refine EW.region gs_nil ?_
  simp
  refine n3 _ ?_; clear n3 x3
  refine EW.cond (t := _) (by rfl) (fun hc14 => ?_) (fun hc14 => ?_)
  · have g1 : ¬ priceErr o pr = 0 := by simpa using hc14
    have hv : verE o pr p = priceErr o pr := by rw [verE, if_neg g1]
    refine EW.seq fun Ψ4 n4 x4 => ?_
    refine EW.region gs_nil ?_
    simp
    refine n4 _ ?_; clear n4 x4
    refine EW.ret ?_
    refine x1 _ _ rfl ?_; clear n1 x1
    refine ⟨_, _, _, rfl, ?_, ?_, ?_, ?_, ?_⟩ <;> simp [hv]
  · have g1 : priceErr o pr = 0 := by simpa using hc14
    have k := ordErr_ok (priceErr_ord g1)
    have w4 := (whole_facts k).1
    have kn := k.nl
    refine EW.skip ?_
    refine n1 _ ?_; clear n1 x1
    refine EW.seq fun Ψ5 n5 x5 => ?_
    refine EW.seq fun Ψ6 n6 x6 => ?_
    refine EW.region gs_nil ?_
    simp
    refine n6 _ ?_; clear n6 x6
    refine EW.cond (t := _) (by rfl) (fun hc18 => ?_) (fun hc18 => ?_)
    · have g2 : 6000 < p.length := by simp at hc18; omega
      have hv : verE o pr p = 6 := by rw [verE, if_pos g1, if_pos g2]
      refine EW.seq fun Ψ7 n7 x7 => ?_
      refine EW.region gs_nil ?_
      simp
      refine n7 _ ?_; clear n7 x7
      refine EW.ret ?_
      refine x5 _ _ rfl ?_; clear n5 x5
      refine ⟨_, _, _, rfl, ?_, ?_, ?_, ?_, ?_⟩ <;> simp [hv]
    · have g2 : ¬ 6000 < p.length := by simp at hc18; omega
      have c1 := check75_ok o pr k.nb (by omega) (fun b hb => (k.bin b hb).len) (p.length + 1) (wholeB o) p w4 (by omega)
      obtain ⟨⟨e1, r1⟩, g3⟩ : ∃ q, q = verR o pr (p.length + 1) (wholeB o) p := ⟨_, rfl⟩
      rw [← g3] at c1
      simp only at c1
      refine EW.skip ?_
      refine n5 _ ?_; clear n5 x5
      refine EW.seq fun Ψ8 n8 x8 => ?_
      refine EW.region gs_nil ?_
      simp
      refine n8 _ ?_; clear n8 x8
      refine EW.seq fun Ψ9 n9 x9 => ?_
      refine EW.seq fun Ψ10 n10 x10 => ?_
      refine EW.region (gs_cons (whole_ok o k.nb) (gs_cons c1 gs_nil)) ?_
      simp [w4]
      refine n10 _ ?_; clear n10 x10
      refine EW.seq fun Ψ11 n11 x11 => ?_
      refine EW.region gs_nil ?_
      simp
      refine n11 _ ?_; clear n11 x11
      refine EW.cond (t := _) (by rfl) (fun hc30 => ?_) (fun hc30 => ?_)
      · have h4 : ¬ e1 = 0 := by simpa using hc30
        have hv : verE o pr p = e1 := by rw [verE, if_pos g1, if_neg g2, ← g3, if_neg h4]
        refine EW.seq fun Ψ12 n12 x12 => ?_
        refine EW.region gs_nil ?_
        simp
        refine n12 _ ?_; clear n12 x12
        refine EW.ret ?_
        refine x9 _ _ rfl ?_; clear n9 x9
        refine ⟨_, _, _, rfl, ?_, ?_, ?_, ?_, ?_⟩ <;> simp [hv]
      · have h4 : e1 = 0 := by simpa using hc30
        refine EW.skip ?_
        refine n9 _ ?_; clear n9 x9
        refine EW.seq fun Ψ13 n13 x13 => ?_
        refine EW.seq fun Ψ14 n14 x14 => ?_
        refine EW.region gs_nil ?_
        simp
        refine n14 _ ?_; clear n14 x14
        refine EW.cond (t := _) (by rfl) (fun hc37 => ?_) (fun hc37 => ?_)
        · have h5 : 0 < r1.length := by first | (simpa using hc37) | (simp at hc37; omega)
          have hv : verE o pr p = 2 := by rw [verE, if_pos g1, if_neg g2, ← g3, if_pos h4, if_pos h5]
          refine EW.seq fun Ψ15 n15 x15 => ?_
          refine EW.region gs_nil ?_
          simp
          refine n15 _ ?_; clear n15 x15
          refine EW.ret ?_
          refine x13 _ _ rfl ?_; clear n13 x13
          refine ⟨_, _, _, rfl, ?_, ?_, ?_, ?_, ?_⟩ <;> simp [hv]
        · have h5 : ¬ 0 < r1.length := by first | (simpa using hc37) | (simp at hc37; omega)
          have hv : verE o pr p = 0 := by rw [verE, if_pos g1, if_neg g2, ← g3, if_pos h4, if_neg h5]
          refine EW.skip ?_
          refine n13 _ ?_; clear n13 x13
          refine EW.seq fun Ψ16 n16 x16 => ?_
          refine EW.region gs_nil ?_
          simp
          refine n16 _ ?_; clear n16 x16
          refine EW.ret ?_
          refine ⟨_, _, _, rfl, ?_, ?_, ?_, ?_, ?_⟩ <;> simp [hv]


/-- How many blends a box has. -/
def volX : List (Int × Int) → Nat
  | [] => 1
  | p :: x => (p.2 - p.1 + 1).toNat * volX x
theorem volX_cut : ∀ (x : List (Int × Int)) (i : Nat) (p : Int × Int) (v : Int), x[i]? = some p → p.1 ≤ v → v < p.2 → volX (setHi x i v) + volX (setLo x i (v + 1)) = volX x
  | [], i, p, v, h, _, _ => by simp at h
  | q :: x, 0, p, v, h, h1, h2 => by
    simp at h; subst h
    simp only [setHi, setLo, volX]
    rw [← Nat.add_mul]
    congr 1
    omega
  | q :: x, i + 1, p, v, h, h1, h2 => by
    simp only [setHi, setLo, volX]
    rw [← Nat.mul_add, volX_cut x i p v (by simpa using h) h1 h2]
theorem volX_pos : ∀ (x : List (Int × Int)), okBx x → 1 ≤ volX x
  | [], _ => by simp [volX]
  | p :: x, h => by
    have h1 := h p (by simp)
    have h2 := volX_pos x fun q hq => h q (by simp [hq])
    simp only [volX]
    exact Nat.mul_pos (by omega) h2
theorem volX_le : ∀ (x : List (Int × Int)), (∀ p ∈ x, 0 ≤ p.1 ∧ p.2 ≤ 6) → volX x ≤ 7 ^ x.length
  | [], _ => by simp [volX]
  | p :: x, h => by
    have h1 := h p (by simp)
    have h2 := volX_le x fun q hq => h q (by simp [hq])
    simp only [volX, List.length_cons]
    rw [Nat.pow_succ, Nat.mul_comm]
    exact Nat.mul_le_mul h2 (by omega)
theorem plain_vol {o : MOrd} (k : OkO o) (pr : Int) : ∀ (n : Nat) (x : List (Int × Int)), BX o x → ∀ p, plainL o pr n x = some p → p.length + 1 ≤ 2 * volX x
  | 0, x, _, p, h => by simp [plainL] at h
  | n + 1, x, bx, p, h => by
    have hbx := BX.bx k bx
    have hv := volX_pos x hbx
    rw [plainL] at h
    split at h
    · cases h; simp; omega
    split at h
    · cases h; simp; omega
    split at h
    · cases h; simp; omega
    split at h
    · cases h; simp; omega
    split at h
    · cases h
    rename_i g5
    obtain ⟨f1, p0, f2, f3⟩ := firstD_lt x g5
    have hp0 := okBx_get hbx f2
    have hlt : firstD x < o.bins.length := by
      rcases Nat.lt_or_ge (firstD x) o.bins.length with h | h
      · exact h
      · have := (okX_get bx.ok f2).2 (by omega)
        rw [this] at f3
        exact absurd rfl f3
    have hmid := midB_eq hbx f2
    have hw : wr (midB x + 1) = midB x + 1 := wr_small (by omega) (by omega)
    rw [hw] at h
    have b1 := BX.hi k bx f2 (v := midB x) hlt (by omega) (by omega)
    have b2 := BX.lo k bx f2 (v := midB x + 1) hlt (by omega) (by omega)
    have hc := volX_cut x (firstD x) p0 (midB x) f2 (by omega) (by omega)
    split at h
    · rename_i a b hA hB
      cases h
      have := plain_vol k pr n _ b1 a hA
      have := plain_vol k pr n _ b2 b hB
      simp only [List.length_cons, List.length_append]
      omega
    · cases h
theorem whole_vol {o : MOrd} (k : OkO o) : volX (wholeB o) ≤ 2401 := by
  have bx := whole_X k
  have h := volX_le (wholeB o) fun p hp => by
    obtain ⟨i, hi⟩ := List.getElem?_of_mem hp
    obtain ⟨a, c⟩ := okX_get bx.ok hi
    by_cases h : i < o.bins.length
    · obtain ⟨q, hq, r⟩ := a h
      have := (k.bin q hq).g
      omega
    · rw [c h]; exact ⟨Int.le_refl _, by decide⟩
  rw [bx.len] at h
  exact h
theorem allB_of : ∀ {bs : List MBin} {l r : List Int}, okR bs r → l ++ r ∈ allB bs l
  | [], l, [], _ => by simp [allB]
  | [], l, _ :: _, h => h.elim
  | b :: bs, l, [], h => h.elim
  | b :: bs, l, n :: r, h => by
    rw [allB]
    have key : ∀ (m k : Nat) (j : Nat), k ≤ j → j < k + m → ∀ x ∈ allB bs (l ++ [(j : Int)]), x ∈ catN (fun k => allB bs (l ++ [(k : Int)])) m k := by
      intro m
      induction m with
      | zero => intro k j h1 h2; omega
      | succ m ih =>
        intro k j h1 h2 x hx
        rw [catN, List.mem_append]
        by_cases e : j = k
        · subst e; exact .inl hx
        · exact .inr (ih (k + 1) j (by omega) (by omega) x hx)
    have hn := h.1
    have := allB_of (l := l ++ [n]) h.2
    refine key _ 0 n.toNat (by omega) (by omega) _ ?_
    rw [show ((n.toNat : Nat) : Int) = n by omega]
    simpa using this
theorem okR_of : ∀ {bs : List MBin} {l : List Int}, l.length = bs.length → (∀ (i : Nat) (h : i < bs.length) (h' : i < l.length), 0 ≤ l[i] ∧ l[i] ≤ bs[i].g) → okR bs l
  | [], [], _, _ => trivial
  | [], _ :: _, e, _ => by simp at e
  | _ :: _, [], e, _ => by simp at e
  | b :: bs, n :: l, e, h => ⟨h 0 (by simp) (by simp), okR_of (by simpa using e) fun i a c => h (i + 1) (by simpa using a) (by simpa using c)⟩
theorem all_of {o : MOrd} {l : List Int} (h : okBl o l) : l ∈ allB o.bins [] := by simpa using allB_of (l := []) (okR_of h.1 h.2)
section
variable {o : MOrd} (k : OkO o)
include k
theorem cost_in {l : List Int} (kb : okBl o l) : 0 ≤ cW o l ∧ cW o l ≤ 240000000 := by
  rw [cW, weighL_ok k kb]
  have key : ∀ (bs : List MBin) (l : List Int), (∀ b ∈ bs, 0 ≤ b.c ∧ b.c ≤ 10000000) → (∀ n ∈ l, 0 ≤ n ∧ n ≤ 6) → 0 ≤ sX (·.c) bs l ∧ sX (·.c) bs l ≤ 60000000 * bs.length := by
    intro bs
    induction bs with
    | nil => intro l _ _; cases l <;> simp [sX]
    | cons b bs ih =>
      intro l hb hl
      cases l with
      | nil => simp only [sX, List.length_cons]; omega
      | cons n l =>
        have i := ih l (fun c hc => hb c (by simp [hc])) (fun m hm => hl m (by simp [hm]))
        have hb0 := hb b (by simp)
        have hn := hl n (by simp)
        have p1 : 0 ≤ n * b.c := Int.mul_nonneg hn.1 hb0.1
        have p2 : n * b.c ≤ 6 * 10000000 := Int.mul_le_mul hn.2 hb0.2 hb0.1 (by omega)
        simp only [sX, List.length_cons]
        omega
  have := key o.bins l (fun b hb => (k.bin b hb).c) (kb.pos k)
  have := k.nb
  simp only
  omega
theorem cheap_facts : (cheapE o = 13 ∧ cheapC o = 0 ∧ cheapB o = [] ∧ ∀ l, okBl o l → goodB o l = false) ∨
    (cheapE o = 0 ∧ (0 ≤ cheapC o ∧ cheapC o ≤ 240000000) ∧ (∃ l, okBl o l ∧ goodB o l = true ∧ cW o l = cheapC o) ∧ ∀ l, okBl o l → goodB o l = true → cheapC o ≤ cW o l) := by
  have e0 := ordErr_0 k
  simp only [cheapE, cheapC, cheapB, if_pos e0]
  rcases cheap_FS k with ⟨h, hn⟩ | ⟨h1, h2, h3, h4⟩
  · left
    rw [h]
    exact ⟨by simp, by simp, by simp, fun l hl => hn l (all_of hl)⟩
  · right
    have kb := all_ok h1
    have hne : ¬ (cheapR o).1.length = 0 := by
      rw [kb.1]; intro e; exact k.ne (List.length_eq_zero_iff.1 e)
    simp only [if_neg hne]
    refine ⟨by simp, by rw [h3]; exact cost_in k kb, ⟨_, kb, h2, h3.symm⟩, fun l hl hg => ?_⟩
    obtain ⟨i, hi, rfl⟩ := List.getElem_of_mem (all_of hl)
    exact (h4 i hi hg).1
theorem prove_facts (pr : Int) (hp : 0 ≤ pr ∧ pr ≤ 300000000) : (prvE o pr = 13 ∧ prvL o pr = [] ∧ ∃ l, okBl o l ∧ goodB o l = true ∧ cW o l < pr) ∨
    (prvE o pr = 0 ∧ verE o pr (prvL o pr) = 0 ∧ (prvL o pr).length ≤ 6000 ∧ ∀ l, okBl o l → goodB o l = true → ¬ cW o l < pr) := by
  have e0 := ordErr_0 k
  have ep : priceErr o pr = 0 := by rw [priceErr, if_pos e0, if_pos (inB_iff.2 hp)]
  have bx := whole_X k
  obtain ⟨s1, s2⟩ := plain_spec k pr 41 (wholeB o) bx (whole_facts k).2.2
  simp only [prvE, prvL, proveN, if_pos ep]
  have hq : plainL o pr 41 (wholeB o) = none ∨ ∃ p, plainL o pr 41 (wholeB o) = some p := by cases plainL o pr 41 (wholeB o) <;> simp
  rcases hq with hq | ⟨p, hq⟩
  · left
    obtain ⟨l, a, b⟩ := s1 hq
    simp only [hq]
    exact ⟨by simp, rfl, l, bX_ok bx.ok a, b⟩
  · right
    have hv := plain_vol k pr 41 _ bx p hq
    have hw := whole_vol k
    have hr := s2 p hq (p.length + 1) [] (by simp)
    rw [List.append_nil] at hr
    simp only [hq]
    refine ⟨by simp, ?_, by simp only [Option.getD_some]; omega, fun l hl hg => ver_none k pr _ _ _ _ bx hr l (whole_in k hl) hg⟩
    rw [verE, if_pos ep, Option.getD_some, if_neg (by omega), hr]
    rfl
end

end Go.Ev
end

section
set_option linter.all false
namespace Go.Proofs
open Go.Shelf Go.RowKit Go.Lib
def Tryd.lays169_ren : Go.Shelf.Ren := ⟨fun | 169 => 41 | n => n, fun | 70 => 90 | 9 => 9 | 0 => 0 | 72 => 93 | 37 => 91 | 127 => 127 | 3 => 3 | 5 => 5 | n => n, fun | n => n⟩
theorem Tryd.lays169 : Go.Proofs.Lays.n169 Tryd.prog Tryd.lays169_ren := {
  mixed := by kernel_rfl
  f169 := Tryd.func41.trans (congrArg some (by kernel_rfl))
  t0 := Tryd.underlying0
  a0 := Tryd.isAgg0
  z0 := Tryd.sizeOf0
  v0 := Tryd.zeroValue0
  t3 := Tryd.underlying3
  a3 := Tryd.isAgg3
  z3 := Tryd.sizeOf3
  v3 := Tryd.zeroValue3
  t9 := Tryd.underlying9
  a9 := Tryd.isAgg9
  z9 := Tryd.sizeOf9
  v9 := Tryd.zeroValue9
  t37 := Tryd.underlying91
  a37 := Tryd.isAgg91
  z37 := Tryd.sizeOf91
  v37 := Tryd.zeroValue91
  t70 := Tryd.underlying90
  a70 := Tryd.isAgg90
  z70 := Tryd.sizeOf90
  v70 := Tryd.zeroValue90
  t72 := Tryd.underlying93
  a72 := Tryd.isAgg93
  z72 := Tryd.sizeOf93
  v72 := Tryd.zeroValue93
  t127 := Tryd.underlying127
  a127 := Tryd.isAgg127
  z127 := Tryd.sizeOf127
  v127 := Tryd.zeroValue127 }
theorem Tryd.Builder_Extra_169 : Builder.Extra Tryd.prog Tryd.lays169_ren := {
  sizeBuilder := by kernel_rfl
  liesBuilder := by kernel_rfl
  t5 := Tryd.underlying5
  a5 := Tryd.isAgg5
  z5 := Tryd.sizeOf5
  v5 := Tryd.zeroValue5
  infoByte := by kernel_rfl
  cellsByte := by kernel_rfl
  sizeByte := by kernel_rfl
  neB5 := by decide }
theorem Tryd.Builder_String_any_k (B b : Nat) (l : List UInt8) (w : World) (h : Lib.IsBuilderF 93 5 B b (Lib.byteCells l) w) (hBw : B ≤ w.heap.size) :
    Calls Tryd.prog 41 #[.pointer (some ⟨b, 0, none⟩)] w fun e w' => e = .returned (.string ⟨l.toArray⟩) ∧ (Lib.IsBuilderF 93 5 B b (Lib.byteCells l) w' ∧ Below B w w' ∧ Lib.OthersKept 5 (some b) w w') := Any.Builder_String_any_k Tryd.lays169 Tryd.Builder_Extra_169 B b l w h hBw
def Tryd.lays171_ren : Go.Shelf.Ren := ⟨fun | 171 => 40 | 243 => 66 | 246 => 77 | 283 => 83 | 284 => 84 | 285 => 85 | 286 => 86 | 129 => 92 | 317 => 91 | 318 => 93 | 319 => 94 | 320 => 95 | 337 => 101 | 338 => 102 | n => n, fun | 3 => 3 | 9 => 9 | 2 => 2 | 4 => 4 | 171 => 142 | 0 => 0 | 53 => 101 | 37 => 91 | 5 => 5 | 173 => 145 | 212 => 152 | 51 => 153 | 20 => 20 | 213 => 154 | 46 => 109 | 232 => 163 | 233 => 164 | n => n, fun | 17 => 0 | 18 => 4 | 19 => 5 | n => n⟩
theorem Tryd.lays171 : Go.Proofs.Lays.n171 Tryd.prog Tryd.lays171_ren := {
  mixed := by kernel_rfl
  f129 := Tryd.func92.trans (congrArg some (by kernel_rfl))
  f171 := Tryd.func40.trans (congrArg some (by kernel_rfl))
  f243 := Tryd.func66.trans (congrArg some (by kernel_rfl))
  f246 := Tryd.func77.trans (congrArg some (by kernel_rfl))
  f283 := Tryd.func83.trans (congrArg some (by kernel_rfl))
  f284 := Tryd.func84.trans (congrArg some (by kernel_rfl))
  f285 := Tryd.func85.trans (congrArg some (by kernel_rfl))
  f286 := Tryd.func86.trans (congrArg some (by kernel_rfl))
  f317 := Tryd.func91.trans (congrArg some (by kernel_rfl))
  f318 := Tryd.func93.trans (congrArg some (by kernel_rfl))
  f319 := Tryd.func94.trans (congrArg some (by kernel_rfl))
  f320 := Tryd.func95.trans (congrArg some (by kernel_rfl))
  f337 := Tryd.func101.trans (congrArg some (by kernel_rfl))
  f338 := Tryd.func102.trans (congrArg some (by kernel_rfl))
  t0 := Tryd.underlying0
  a0 := Tryd.isAgg0
  z0 := Tryd.sizeOf0
  v0 := Tryd.zeroValue0
  t2 := Tryd.underlying2
  a2 := Tryd.isAgg2
  z2 := Tryd.sizeOf2
  v2 := Tryd.zeroValue2
  t3 := Tryd.underlying3
  a3 := Tryd.isAgg3
  z3 := Tryd.sizeOf3
  v3 := Tryd.zeroValue3
  t4 := Tryd.underlying4
  a4 := Tryd.isAgg4
  z4 := Tryd.sizeOf4
  v4 := Tryd.zeroValue4
  t5 := Tryd.underlying5
  a5 := Tryd.isAgg5
  z5 := Tryd.sizeOf5
  v5 := Tryd.zeroValue5
  t9 := Tryd.underlying9
  a9 := Tryd.isAgg9
  z9 := Tryd.sizeOf9
  v9 := Tryd.zeroValue9
  t20 := Tryd.underlying20
  a20 := Tryd.isAgg20
  z20 := Tryd.sizeOf20
  v20 := Tryd.zeroValue20
  t37 := Tryd.underlying91
  a37 := Tryd.isAgg91
  z37 := Tryd.sizeOf91
  v37 := Tryd.zeroValue91
  t46 := Tryd.underlying109
  a46 := Tryd.isAgg109
  z46 := Tryd.sizeOf109
  v46 := Tryd.zeroValue109
  t51 := Tryd.underlying153
  a51 := Tryd.isAgg153
  z51 := Tryd.sizeOf153
  v51 := Tryd.zeroValue153
  t53 := Tryd.underlying101
  a53 := Tryd.isAgg101
  z53 := Tryd.sizeOf101
  v53 := Tryd.zeroValue101
  t171 := Tryd.underlying142
  a171 := Tryd.isAgg142
  z171 := Tryd.sizeOf142
  v171 := Tryd.zeroValue142
  t173 := Tryd.underlying145
  a173 := Tryd.isAgg145
  z173 := Tryd.sizeOf145
  v173 := Tryd.zeroValue145
  t212 := Tryd.underlying152
  a212 := Tryd.isAgg152
  z212 := Tryd.sizeOf152
  v212 := Tryd.zeroValue152
  t213 := Tryd.underlying154
  a213 := Tryd.isAgg154
  z213 := Tryd.sizeOf154
  t232 := Tryd.underlying163
  a232 := Tryd.isAgg163
  z232 := Tryd.sizeOf163
  v232 := Tryd.zeroValue163
  t233 := Tryd.underlying164
  a233 := Tryd.isAgg164
  z233 := Tryd.sizeOf164
  v233 := Tryd.zeroValue164
  g17 := by kernel_rfl
  g18 := by kernel_rfl
  g19 := by kernel_rfl }
theorem Tryd.strconv_Itoa_small (i : Nat) (hi : i < 100) (w : World) :
    Calls Tryd.prog 40 #[.int .i64 i] w fun e w' => e = .returned (.string ⟨(Lib.decDigits i).toArray⟩) ∧ w' = w := Any.strconv_Itoa_small Tryd.lays171 i hi w
def Tryd.lays146_ren : Go.Shelf.Ren := ⟨fun | 146 => 49 | 221 => 71 | 268 => 80 | 138 => 81 | 143 => 82 | 195 => 87 | 197 => 88 | 218 => 89 | 219 => 90 | 260 => 96 | 217 => 97 | 225 => 98 | 224 => 99 | 267 => 100 | 266 => 103 | 314 => 104 | n => n, fun | 9 => 9 | 31 => 110 | 3 => 3 | 4 => 4 | 0 => 0 | 105 => 148 | 21 => 21 | 5 => 5 | 46 => 109 | 119 => 157 | 139 => 160 | 138 => 159 | 146 => 161 | 51 => 153 | n => n, fun | 1 => 1 | 3 => 2 | 4 => 3 | n => n⟩
theorem Tryd.lays146 : Go.Proofs.Lays.n146 Tryd.prog Tryd.lays146_ren := {
  mixed := by kernel_rfl
  f138 := Tryd.func81.trans (congrArg some (by kernel_rfl))
  f143 := Tryd.func82.trans (congrArg some (by kernel_rfl))
  f146 := Tryd.func49.trans (congrArg some (by kernel_rfl))
  f195 := Tryd.func87.trans (congrArg some (by kernel_rfl))
  f197 := Tryd.func88.trans (congrArg some (by kernel_rfl))
  f217 := Tryd.func97.trans (congrArg some (by kernel_rfl))
  f218 := Tryd.func89.trans (congrArg some (by kernel_rfl))
  f219 := Tryd.func90.trans (congrArg some (by kernel_rfl))
  f221 := Tryd.func71.trans (congrArg some (by kernel_rfl))
  f224 := Tryd.func99.trans (congrArg some (by kernel_rfl))
  f225 := Tryd.func98.trans (congrArg some (by kernel_rfl))
  f260 := Tryd.func96.trans (congrArg some (by kernel_rfl))
  f266 := Tryd.func103.trans (congrArg some (by kernel_rfl))
  f267 := Tryd.func100.trans (congrArg some (by kernel_rfl))
  f268 := Tryd.func80.trans (congrArg some (by kernel_rfl))
  f314 := Tryd.func104.trans (congrArg some (by kernel_rfl))
  t0 := Tryd.underlying0
  a0 := Tryd.isAgg0
  z0 := Tryd.sizeOf0
  v0 := Tryd.zeroValue0
  t3 := Tryd.underlying3
  a3 := Tryd.isAgg3
  z3 := Tryd.sizeOf3
  v3 := Tryd.zeroValue3
  t4 := Tryd.underlying4
  a4 := Tryd.isAgg4
  z4 := Tryd.sizeOf4
  v4 := Tryd.zeroValue4
  t5 := Tryd.underlying5
  a5 := Tryd.isAgg5
  z5 := Tryd.sizeOf5
  v5 := Tryd.zeroValue5
  t9 := Tryd.underlying9
  a9 := Tryd.isAgg9
  z9 := Tryd.sizeOf9
  v9 := Tryd.zeroValue9
  t21 := Tryd.underlying21
  a21 := Tryd.isAgg21
  z21 := Tryd.sizeOf21
  v21 := Tryd.zeroValue21
  t31 := Tryd.underlying110
  a31 := Tryd.isAgg110
  z31 := Tryd.sizeOf110
  v31 := Tryd.zeroValue110
  t46 := Tryd.underlying109
  a46 := Tryd.isAgg109
  z46 := Tryd.sizeOf109
  v46 := Tryd.zeroValue109
  t51 := Tryd.underlying153
  a51 := Tryd.isAgg153
  z51 := Tryd.sizeOf153
  v51 := Tryd.zeroValue153
  t105 := Tryd.underlying148
  a105 := Tryd.isAgg148
  z105 := Tryd.sizeOf148
  v105 := Tryd.zeroValue148
  t119 := Tryd.underlying157
  a119 := Tryd.isAgg157
  z119 := Tryd.sizeOf157
  t138 := Tryd.underlying159
  a138 := Tryd.isAgg159
  z138 := Tryd.sizeOf159
  v138 := Tryd.zeroValue159
  t139 := Tryd.underlying160
  a139 := Tryd.isAgg160
  z139 := Tryd.sizeOf160
  v139 := Tryd.zeroValue160
  t146 := Tryd.underlying161
  a146 := Tryd.isAgg161
  z146 := Tryd.sizeOf161
  v146 := Tryd.zeroValue161
  g1 := by kernel_rfl
  g3 := by kernel_rfl
  g4 := by kernel_rfl }
theorem Tryd.strings_Split (s sep : ByteArray) (m : Int) (w : World) (hs : s.size < 4294967281) (hm : w.cell? ⟨1, 0, none⟩ = some (.int .i64 m)) (h1 : 1 ≤ sep.size) :
    Calls Tryd.prog 49 #[.string s, .string sep] w fun e w' =>
      e = .returned (.slice (some ⟨w.heap.size, 0, none⟩) (Lib.countB s sep + 1) (Lib.countB s sep + 1)) ∧ w' = w.alloc (.cells ((Lib.splitB sep 0 (Lib.countB s sep) s).map Value.string).toArray 9) := Any.strings_Split Tryd.lays146 (by kernel_rfl) s sep m w hs hm h1
end Go.Proofs
end

section
set_option linter.all false
set_option linter.unusedVariables false
set_option linter.unusedSimpArgs false
namespace Go.Proofs
open Go.Shelf Go.RowKit Go.Lib

/-! ### The builder's writers at this program -/
set_option maxHeartbeats 1000000 in
set_option maxRecDepth 100000 in
theorem Tryd.bCheck_used (b : Nat) (w : World) (h0 : w.cell? ⟨b, 0, none⟩ = some (.pointer (some ⟨b, 0, none⟩))) :
    Calls Tryd.prog 65 #[.pointer (some ⟨b, 0, none⟩)] w fun e w' => e = .returned (.tuple #[]) ∧ w' = w := by
  obtain ⟨j, hj, _⟩ := Option.map_eq_some_iff.1 Tryd.Builder_Extra_169.sizeBuilder
  go_enter Tryd.func65, Tryd.ntmps65
  go_wp2
  rw [Lib.run_neq_ptr_same w _ Tryd.underlying90 hj]
  go_wp2
  go_end0
  exact ⟨rfl, rfl⟩
set_option maxHeartbeats 1000000 in
set_option maxRecDepth 100000 in
theorem Tryd.bCheck_fresh (b : Nat) (w : World) (h0 : w.cell? ⟨b, 0, none⟩ = some (.pointer none)) (hsh : w.shape? b = some (93, 2)) (hfz : w.frozen? ⟨b, 0, none⟩ = false) :
    Calls Tryd.prog 65 #[.pointer (some ⟨b, 0, none⟩)] w fun e w' => e = .returned (.tuple #[]) ∧ w' = w.setCell ⟨b, 0, none⟩ (.pointer (some ⟨b, 0, none⟩)) := by
  obtain ⟨j, hj, hjs⟩ := Option.map_eq_some_iff.1 Tryd.Builder_Extra_169.sizeBuilder
  go_enter Tryd.func65, Tryd.ntmps65
  go_wp2
  rw [Lib.run_to_unsafe w ⟨b, 0, none⟩ Tryd.underlying90 Tryd.underlying136 hj (by rw [hjs]; decide) hsh (Nat.zero_lt_succ 1)]
  simp only [Result.andThen]
  rw [Oper.upon_value]
  go_wp2
  rw [run_callFunc_extern Tryd.func76 (by kernel_rfl) (by kernel_rfl) (by kernel_rfl) (e := Extern.AbiNoEscape.same) (by kernel_rfl)]
  rw [Lib.run_noEscape]
  simp only [Result.andThen]
  rw [Oper.upon_value]
  go_wp2
  rw [Lib.run_from_unsafe w ⟨b, 0, none⟩ Tryd.underlying136 Tryd.underlying90 hj hsh Tryd.Builder_Extra_169.liesBuilder]
  simp only [Result.andThen]
  rw [Oper.upon_value]
  go_wp2
  go_end0
  exact ⟨rfl, rfl⟩
theorem Tryd.bCheck_k (B b : Nat) (bs : List Value) (w : World) (h : Lib.IsBuilderF 93 5 B b bs w) :
    Calls Tryd.prog 65 #[.pointer (some ⟨b, 0, none⟩)] w fun e w' => e = .returned (.tuple #[]) ∧ (Lib.BuilderAtF 93 5 B b (.pointer (some ⟨b, 0, none⟩)) bs w' ∧ Below B w w' ∧ Lib.OthersKept 5 (some b) w w') := by
  rcases h with h | h
  · refine (Tryd.bCheck_fresh b w h.cell0 h.shape h.frozen0).mono ?_
    rintro e w' ⟨rfl, rfl⟩
    exact ⟨rfl, h.used _, (Below.refl B w).setCell (p := ⟨b, 0, none⟩) h.1 _, (Lib.OthersKept.refl _ _ w).setCell ⟨b, 0, none⟩ rfl _⟩
  · refine (Tryd.bCheck_used b w h.cell0).mono ?_
    rintro e w' ⟨rfl, rfl⟩
    exact ⟨rfl, h, Below.refl B _, Lib.OthersKept.refl _ _ _⟩
set_option maxHeartbeats 2000000 in
set_option maxRecDepth 100000 in
theorem Tryd.bWrite_k (B b : Nat) (bs : List Value) (s : ByteArray) (w : World) (h : Lib.IsBuilderF 93 5 B b bs w) (hlen : bs.length + s.size ≤ 140737488355328) (hBw : B ≤ w.heap.size) :
    Calls Tryd.prog 39 #[.pointer (some ⟨b, 0, none⟩), .string s] w fun e w' => e = .returned (.tuple #[.int .i64 s.size, .nilIface]) ∧ (Lib.BuilderAtF 93 5 B b (.pointer (some ⟨b, 0, none⟩)) (bs ++ Lib.strCells s) w' ∧ Below B w w' ∧ Lib.OthersKept 5 (some b) w w') := by
  obtain ⟨i0, hi, hz0, hz1, hz2⟩ := info_parts Tryd.Builder_Extra_169.infoByte
  go_enter Tryd.func39, Tryd.ntmps39
  go_wp2_with (go_at_call 65; refine (Tryd.bCheck_k B b bs _ h).mono ?_)
  rintro e w1 ⟨rfl, h1, hb1, hk1⟩
  obtain ⟨hB, v, hbk, hown, hne⟩ := h1
  have c0 : w1.cell? ⟨b, 0, none⟩ = some (.pointer (some ⟨b, 0, none⟩)) := by rw [Lib.cell_of_heap hbk]; rfl
  have c1 : w1.cell? ⟨b, 1, none⟩ = some v := by rw [Lib.cell_of_heap hbk]; rfl
  go_wp2_with (at_builtin; refine Lib.wpList_append_own_stringF _ rfl _ _ 91 9 rfl B 5 i0 Tryd.underlying91 Tryd.underlying9 hi hz0 hz1 hz2 _ _ _ rfl hown s rfl ?c3 ?c4 ?c5 ?_)
  case c3 => unfold maxLen; omega
  case c4 => omega
  case c5 => have := hb1.size; omega
  intro v' w2 hown' hgrow _
  have hlt : b < w1.heap.size := by
    rcases Nat.lt_or_ge b w1.heap.size with h' | h'
    · exact h'
    · simp [Array.getElem?_eq_none h'] at hbk
  have hb2 : w2.heap[b]? = some (.cells #[.pointer (some ⟨b, 0, none⟩), v] 93 (0, 0)) := by
    rw [hgrow.block b hlt (fun e => hne e.symm)]
    exact hbk
  have d0 : w2.cell? ⟨b, 0, none⟩ = some (.pointer (some ⟨b, 0, none⟩)) := by rw [Lib.cell_of_heap hb2]; rfl
  have d1 : w2.cell? ⟨b, 1, none⟩ = some v := by rw [Lib.cell_of_heap hb2]; rfl
  have f1 : w2.frozen? ⟨b, 1, none⟩ = false := Lib.frozen_of_heap hb2 1
  obtain ⟨ao, n', cap, rfl⟩ : ∃ ao n' cap, v' = .slice ao n' cap := by
    rcases hown'.2 with ⟨hv, _⟩ | ⟨g, cap, cur, fz, hv, _⟩
    · exact ⟨_, _, _, hv⟩
    · exact ⟨_, _, _, hv⟩
  go_wp2
  go_ret2
  refine ⟨rfl, ?_, ?_, (hk1.grown hgrow (Lib.ownsRowF_kind hown)).setCell ⟨b, 1, none⟩ rfl _⟩
  · exact Lib.BuilderAtF.put (T := 93) (e := 5) hB hb2 (bs' := bs ++ Lib.strCells s) (by simpa [Lib.strCells_length] using hown') Tryd.Builder_Extra_169.neB5
  · exact (hb1.grown hgrow (by have := hb1.size; omega) (fun k hk => (hown.lt k hk).1)).setCell (p := ⟨b, 1, none⟩) hB _
end Go.Proofs
end

section
set_option linter.all false
open Go Go.Ev Go.Proofs
namespace Go.Ev
set_option linter.unusedSimpArgs false
set_option linter.unusedVariables false


/-- The error of a bound that is written. -/
def bndErr (b : MBd) : Int :=
  if b.r = 1 then (if (inB b.a 0 3 && inB b.c 0 6) = true then 0 else 1)
  else if b.r = 4 then (if (inB b.a 0 2 && inB b.c 0 0) = true then 0 else 1)
  else if b.r = 2 ∨ b.r = 3 ∨ b.r = 5 then (if (inB b.a 0 0 && inB b.c 0 0) = true then 0 else 1)
  else 8

set_option maxHeartbeats 4000000 in
theorem checkBound_ok (b : MBd) : ACalls Tryd.prog 38 [.agg [.s (.int .i64 b.r), .s (.int .i64 b.a), .s (.int .i64 b.c)]] [] (.ret (.s (.int .i64 (bndErr b))) [] []) := by
  refine acalls_of_ew Tryd.func38 rfl rfl (by simp [Tryd.f38]) (rs := [.tmp 2]) rfl ?_
  refine EW.seq fun Ψ0 n0 x0 => ?_
  refine EW.region gs_nil ?_
  simp
  refine n0 _ ?_; clear n0 x0
  refine EW.seq fun Ψ1 n1 x1 => ?_
  refine EW.region gs_nil ?_
  simp
  refine n1 _ ?_; clear n1 x1
  refine EW.seq fun Ψ2 n2 x2 => ?_
  refine EW.seq fun Ψ3 n3 x3 => ?_
  refine EW.region gs_nil ?_
  simp
  refine n3 _ ?_; clear n3 x3
  refine EW.block ?_
  refine EW.seq fun Ψ4 n4 x4 => ?_
  refine EW.block ?_
  refine EW.seq fun Ψ5 n5 x5 => ?_
  refine EW.block ?_
  refine EW.seq fun Ψ6 n6 x6 => ?_
  refine EW.block ?_
  refine EW.seq fun Ψ7 n7 x7 => ?_
  refine EW.block ?_
  refine EW.seq fun Ψ8 n8 x8 => ?_
  refine EW.seq fun Ψ9 n9 x9 => ?_
  refine EW.seq fun Ψ10 n10 x10 => ?_
  refine EW.region gs_nil ?_
  simp
  refine n10 _ ?_; clear n10 x10
  refine EW.cond (t := _) (by rfl) (fun hc7 => ?_) (fun hc7 => ?_)
  · have h1 : b.r = 1 := by simpa using hc7
    refine EW.exit ?_
    refine x9 _ _ rfl ?_; clear n9 x9
    refine x8 _ _ rfl ?_; clear n8 x8
    refine n7 _ ?_; clear n7 x7
    refine EW.seq fun Ψ11 n11 x11 => ?_
    refine EW.region gs_nil ?_
    simp
    refine n11 _ ?_; clear n11 x11
    refine EW.exit ?_
    refine x6 _ _ rfl ?_; clear n6 x6
    refine x5 _ _ rfl ?_; clear n5 x5
    refine x4 _ _ rfl ?_; clear n4 x4
    refine n2 _ ?_; clear n2 x2
    refine EW.seq fun Ψ12 n12 x12 => ?_
    refine EW.seq fun Ψ13 n13 x13 => ?_
    rcases bor2 (inB b.a 0 3) (inB b.c 0 6) with q1 | ⟨q1, q2⟩ | ⟨q1, q2⟩
    · skip
      refine EW.region (gI_ok gs_nil) ?_
      simp [q1]
      have hv : bndErr b = 1 := by simp [bndErr, h1, q1]
      refine n13 _ ?_; clear n13 x13
      refine EW.cond (t := _) (by rfl) (fun hc26 => ?_) (fun hc26 => ?_)
      · clear hc26
        refine EW.seq fun Ψ14 n14 x14 => ?_
        refine EW.region gs_nil ?_
        simp
        refine n14 _ ?_; clear n14 x14
        refine EW.ret ?_
        refine x12 _ _ rfl ?_; clear n12 x12
        refine ⟨_, _, _, rfl, ?_, ?_, ?_, ?_, ?_⟩ <;> simp [hv]
      · simp at hc26
    · skip
      refine EW.region (gI_ok gs_nil) ?_
      simp [q1, q2]
      have hv : bndErr b = 1 := by simp [bndErr, h1, q1, q2]
      refine n13 _ ?_; clear n13 x13
      refine EW.cond (t := _) (by rfl) (fun hc26 => ?_) (fun hc26 => ?_)
      · clear hc26
        refine EW.seq fun Ψ15 n15 x15 => ?_
        refine EW.region gs_nil ?_
        simp
        refine n15 _ ?_; clear n15 x15
        refine EW.ret ?_
        refine x12 _ _ rfl ?_; clear n12 x12
        refine ⟨_, _, _, rfl, ?_, ?_, ?_, ?_, ?_⟩ <;> simp [hv]
      · simp at hc26
    · skip
      refine EW.region (gI_ok gs_nil) ?_
      simp [q1, q2]
      have hv : bndErr b = 0 := by simp [bndErr, h1, q1, q2]
      refine n13 _ ?_; clear n13 x13
      refine EW.cond (t := _) (by rfl) (fun hc26 => ?_) (fun hc26 => ?_)
      · simp at hc26
      · clear hc26
        refine EW.skip ?_
        refine n12 _ ?_; clear n12 x12
        refine EW.seq fun Ψ16 n16 x16 => ?_
        refine EW.region gs_nil ?_
        simp
        refine n16 _ ?_; clear n16 x16
        refine EW.ret ?_
        refine ⟨_, _, _, rfl, ?_, ?_, ?_, ?_, ?_⟩ <;> simp [hv]
  · have h1 : ¬ b.r = 1 := by simpa using hc7
    refine EW.skip ?_
    refine n9 _ ?_; clear n9 x9
    refine EW.seq fun Ψ17 n17 x17 => ?_
    refine EW.seq fun Ψ18 n18 x18 => ?_
    refine EW.region gs_nil ?_
    simp
    refine n18 _ ?_; clear n18 x18
    refine EW.cond (t := _) (by rfl) (fun hc9 => ?_) (fun hc9 => ?_)
    · have h4 : b.r = 4 := by simpa using hc9
      refine EW.exit ?_
      refine x17 _ _ rfl ?_; clear n17 x17
      refine x8 _ _ rfl ?_; clear n8 x8
      refine x7 _ _ rfl ?_; clear n7 x7
      refine n6 _ ?_; clear n6 x6
      refine EW.hide fun Ψ19 n19 => ?_
      refine EW.region gs_nil ?_
      simp
      refine n19 _ _ ?_; clear n19
      refine n5 _ ?_; clear n5 x5
      refine EW.seq fun Ψ20 n20 x20 => ?_
      refine EW.region gs_nil ?_
      simp
      refine n20 _ ?_; clear n20 x20
      refine EW.exit ?_
      refine x4 _ _ rfl ?_; clear n4 x4
      refine n2 _ ?_; clear n2 x2
      refine EW.seq fun Ψ21 n21 x21 => ?_
      refine EW.seq fun Ψ22 n22 x22 => ?_
      rcases bor2 (inB b.a 0 2) (inB b.c 0 0) with q1 | ⟨q1, q2⟩ | ⟨q1, q2⟩
      · skip
        refine EW.region (gI_ok gs_nil) ?_
        simp [q1]
        have hv : bndErr b = 1 := by simp [bndErr, h1, h4, q1]
        refine n22 _ ?_; clear n22 x22
        refine EW.cond (t := _) (by rfl) (fun hc26 => ?_) (fun hc26 => ?_)
        · clear hc26
          refine EW.seq fun Ψ23 n23 x23 => ?_
          refine EW.region gs_nil ?_
          simp
          refine n23 _ ?_; clear n23 x23
          refine EW.ret ?_
          refine x21 _ _ rfl ?_; clear n21 x21
          refine ⟨_, _, _, rfl, ?_, ?_, ?_, ?_, ?_⟩ <;> simp [hv]
        · simp at hc26
      · skip
        refine EW.region (gI_ok gs_nil) ?_
        simp [q1, q2]
        have hv : bndErr b = 1 := by simp [bndErr, h1, h4, q1, q2]
        refine n22 _ ?_; clear n22 x22
        refine EW.cond (t := _) (by rfl) (fun hc26 => ?_) (fun hc26 => ?_)
        · clear hc26
          refine EW.seq fun Ψ24 n24 x24 => ?_
          refine EW.region gs_nil ?_
          simp
          refine n24 _ ?_; clear n24 x24
          refine EW.ret ?_
          refine x21 _ _ rfl ?_; clear n21 x21
          refine ⟨_, _, _, rfl, ?_, ?_, ?_, ?_, ?_⟩ <;> simp [hv]
        · simp at hc26
      · skip
        refine EW.region (gI_ok gs_nil) ?_
        simp [q1, q2]
        have hv : bndErr b = 0 := by simp [bndErr, h1, h4, q1, q2]
        refine n22 _ ?_; clear n22 x22
        refine EW.cond (t := _) (by rfl) (fun hc26 => ?_) (fun hc26 => ?_)
        · simp at hc26
        · clear hc26
          refine EW.skip ?_
          refine n21 _ ?_; clear n21 x21
          refine EW.seq fun Ψ25 n25 x25 => ?_
          refine EW.region gs_nil ?_
          simp
          refine n25 _ ?_; clear n25 x25
          refine EW.ret ?_
          refine ⟨_, _, _, rfl, ?_, ?_, ?_, ?_, ?_⟩ <;> simp [hv]
    · have h4 : ¬ b.r = 4 := by simpa using hc9
      refine EW.skip ?_
      refine n17 _ ?_; clear n17 x17
      refine EW.seq fun Ψ26 n26 x26 => ?_
      refine EW.seq fun Ψ27 n27 x27 => ?_
      refine EW.region gs_nil ?_
      simp
      refine n27 _ ?_; clear n27 x27
      refine EW.cond (t := _) (by rfl) (fun hc11 => ?_) (fun hc11 => ?_)
      · have h2 : b.r = 2 := by simpa using hc11
        refine EW.skip ?_
        refine n26 _ ?_; clear n26 x26
        refine EW.cond (t := _) (by rfl) (fun hc11 => ?_) (fun hc11 => ?_)
        · clear hc11
          refine EW.exit ?_
          refine x8 _ _ rfl ?_; clear n8 x8
          refine x7 _ _ rfl ?_; clear n7 x7
          refine x6 _ _ rfl ?_; clear n6 x6
          refine n5 _ ?_; clear n5 x5
          refine EW.seq fun Ψ28 n28 x28 => ?_
          refine EW.region gs_nil ?_
          simp
          refine n28 _ ?_; clear n28 x28
          refine EW.exit ?_
          refine x4 _ _ rfl ?_; clear n4 x4
          refine n2 _ ?_; clear n2 x2
          refine EW.seq fun Ψ29 n29 x29 => ?_
          refine EW.seq fun Ψ30 n30 x30 => ?_
          rcases bor2 (inB b.a 0 0) (inB b.c 0 0) with q1 | ⟨q1, q2⟩ | ⟨q1, q2⟩
          · skip
            refine EW.region (gI_ok gs_nil) ?_
            simp [q1]
            have hv : bndErr b = 1 := by simp [bndErr, h1, h4, h2, q1]
            refine n30 _ ?_; clear n30 x30
            refine EW.cond (t := _) (by rfl) (fun hc26 => ?_) (fun hc26 => ?_)
            · clear hc26
              refine EW.seq fun Ψ31 n31 x31 => ?_
              refine EW.region gs_nil ?_
              simp
              refine n31 _ ?_; clear n31 x31
              refine EW.ret ?_
              refine x29 _ _ rfl ?_; clear n29 x29
              refine ⟨_, _, _, rfl, ?_, ?_, ?_, ?_, ?_⟩ <;> simp [hv]
            · simp at hc26
          · skip
            refine EW.region (gI_ok gs_nil) ?_
            simp [q1, q2]
            have hv : bndErr b = 1 := by simp [bndErr, h1, h4, h2, q1, q2]
            refine n30 _ ?_; clear n30 x30
            refine EW.cond (t := _) (by rfl) (fun hc26 => ?_) (fun hc26 => ?_)
            · clear hc26
              refine EW.seq fun Ψ32 n32 x32 => ?_
              refine EW.region gs_nil ?_
              simp
              refine n32 _ ?_; clear n32 x32
              refine EW.ret ?_
              refine x29 _ _ rfl ?_; clear n29 x29
              refine ⟨_, _, _, rfl, ?_, ?_, ?_, ?_, ?_⟩ <;> simp [hv]
            · simp at hc26
          · skip
            refine EW.region (gI_ok gs_nil) ?_
            simp [q1, q2]
            have hv : bndErr b = 0 := by simp [bndErr, h1, h4, h2, q1, q2]
            refine n30 _ ?_; clear n30 x30
            refine EW.cond (t := _) (by rfl) (fun hc26 => ?_) (fun hc26 => ?_)
            · simp at hc26
            · clear hc26
              refine EW.skip ?_
              refine n29 _ ?_; clear n29 x29
              refine EW.seq fun Ψ33 n33 x33 => ?_
              refine EW.region gs_nil ?_
              simp
              refine n33 _ ?_; clear n33 x33
              refine EW.ret ?_
              refine ⟨_, _, _, rfl, ?_, ?_, ?_, ?_, ?_⟩ <;> simp [hv]
        · simp [h2] at hc11
      · have h2 : ¬ b.r = 2 := by simpa using hc11
        refine EW.seq fun Ψ34 n34 x34 => ?_
        refine EW.region gs_nil ?_
        simp
        refine n34 _ ?_; clear n34 x34
        refine EW.cond (t := _) (by rfl) (fun hc11 => ?_) (fun hc11 => ?_)
        · have h3 : b.r = 3 := by simpa using hc11
          refine EW.skip ?_
          refine n26 _ ?_; clear n26 x26
          refine EW.cond (t := _) (by rfl) (fun hc11 => ?_) (fun hc11 => ?_)
          · clear hc11
            refine EW.exit ?_
            refine x8 _ _ rfl ?_; clear n8 x8
            refine x7 _ _ rfl ?_; clear n7 x7
            refine x6 _ _ rfl ?_; clear n6 x6
            refine n5 _ ?_; clear n5 x5
            refine EW.seq fun Ψ35 n35 x35 => ?_
            refine EW.region gs_nil ?_
            simp
            refine n35 _ ?_; clear n35 x35
            refine EW.exit ?_
            refine x4 _ _ rfl ?_; clear n4 x4
            refine n2 _ ?_; clear n2 x2
            refine EW.seq fun Ψ36 n36 x36 => ?_
            refine EW.seq fun Ψ37 n37 x37 => ?_
            rcases bor2 (inB b.a 0 0) (inB b.c 0 0) with q1 | ⟨q1, q2⟩ | ⟨q1, q2⟩
            · skip
              refine EW.region (gI_ok gs_nil) ?_
              simp [q1]
              have hv : bndErr b = 1 := by simp [bndErr, h1, h4, h2, h3, q1]
              refine n37 _ ?_; clear n37 x37
              refine EW.cond (t := _) (by rfl) (fun hc26 => ?_) (fun hc26 => ?_)
              · clear hc26
                refine EW.seq fun Ψ38 n38 x38 => ?_
                refine EW.region gs_nil ?_
                simp
                refine n38 _ ?_; clear n38 x38
                refine EW.ret ?_
                refine x36 _ _ rfl ?_; clear n36 x36
                refine ⟨_, _, _, rfl, ?_, ?_, ?_, ?_, ?_⟩ <;> simp [hv]
              · simp at hc26
            · skip
              refine EW.region (gI_ok gs_nil) ?_
              simp [q1, q2]
              have hv : bndErr b = 1 := by simp [bndErr, h1, h4, h2, h3, q1, q2]
              refine n37 _ ?_; clear n37 x37
              refine EW.cond (t := _) (by rfl) (fun hc26 => ?_) (fun hc26 => ?_)
              · clear hc26
                refine EW.seq fun Ψ39 n39 x39 => ?_
                refine EW.region gs_nil ?_
                simp
                refine n39 _ ?_; clear n39 x39
                refine EW.ret ?_
                refine x36 _ _ rfl ?_; clear n36 x36
                refine ⟨_, _, _, rfl, ?_, ?_, ?_, ?_, ?_⟩ <;> simp [hv]
              · simp at hc26
            · skip
              refine EW.region (gI_ok gs_nil) ?_
              simp [q1, q2]
              have hv : bndErr b = 0 := by simp [bndErr, h1, h4, h2, h3, q1, q2]
              refine n37 _ ?_; clear n37 x37
              refine EW.cond (t := _) (by rfl) (fun hc26 => ?_) (fun hc26 => ?_)
              · simp at hc26
              · clear hc26
                refine EW.skip ?_
                refine n36 _ ?_; clear n36 x36
                refine EW.seq fun Ψ40 n40 x40 => ?_
                refine EW.region gs_nil ?_
                simp
                refine n40 _ ?_; clear n40 x40
                refine EW.ret ?_
                refine ⟨_, _, _, rfl, ?_, ?_, ?_, ?_, ?_⟩ <;> simp [hv]
          · simp [h3] at hc11
        · have h3 : ¬ b.r = 3 := by simpa using hc11
          refine EW.region gs_nil ?_
          simp
          refine n26 _ ?_; clear n26 x26
          refine EW.cond (t := _) (by rfl) (fun hc11 => ?_) (fun hc11 => ?_)
          · have h5 : b.r = 5 := by simpa using hc11
            refine EW.exit ?_
            refine x8 _ _ rfl ?_; clear n8 x8
            refine x7 _ _ rfl ?_; clear n7 x7
            refine x6 _ _ rfl ?_; clear n6 x6
            refine n5 _ ?_; clear n5 x5
            refine EW.seq fun Ψ41 n41 x41 => ?_
            refine EW.region gs_nil ?_
            simp
            refine n41 _ ?_; clear n41 x41
            refine EW.exit ?_
            refine x4 _ _ rfl ?_; clear n4 x4
            refine n2 _ ?_; clear n2 x2
            refine EW.seq fun Ψ42 n42 x42 => ?_
            refine EW.seq fun Ψ43 n43 x43 => ?_
            rcases bor2 (inB b.a 0 0) (inB b.c 0 0) with q1 | ⟨q1, q2⟩ | ⟨q1, q2⟩
            · skip
              refine EW.region (gI_ok gs_nil) ?_
              simp [q1]
              have hv : bndErr b = 1 := by simp [bndErr, h1, h4, h2, h3, h5, q1]
              refine n43 _ ?_; clear n43 x43
              refine EW.cond (t := _) (by rfl) (fun hc26 => ?_) (fun hc26 => ?_)
              · clear hc26
                refine EW.seq fun Ψ44 n44 x44 => ?_
                refine EW.region gs_nil ?_
                simp
                refine n44 _ ?_; clear n44 x44
                refine EW.ret ?_
                refine x42 _ _ rfl ?_; clear n42 x42
                refine ⟨_, _, _, rfl, ?_, ?_, ?_, ?_, ?_⟩ <;> simp [hv]
              · simp at hc26
            · skip
              refine EW.region (gI_ok gs_nil) ?_
              simp [q1, q2]
              have hv : bndErr b = 1 := by simp [bndErr, h1, h4, h2, h3, h5, q1, q2]
              refine n43 _ ?_; clear n43 x43
              refine EW.cond (t := _) (by rfl) (fun hc26 => ?_) (fun hc26 => ?_)
              · clear hc26
                refine EW.seq fun Ψ45 n45 x45 => ?_
                refine EW.region gs_nil ?_
                simp
                refine n45 _ ?_; clear n45 x45
                refine EW.ret ?_
                refine x42 _ _ rfl ?_; clear n42 x42
                refine ⟨_, _, _, rfl, ?_, ?_, ?_, ?_, ?_⟩ <;> simp [hv]
              · simp at hc26
            · skip
              refine EW.region (gI_ok gs_nil) ?_
              simp [q1, q2]
              have hv : bndErr b = 0 := by simp [bndErr, h1, h4, h2, h3, h5, q1, q2]
              refine n43 _ ?_; clear n43 x43
              refine EW.cond (t := _) (by rfl) (fun hc26 => ?_) (fun hc26 => ?_)
              · simp at hc26
              · clear hc26
                refine EW.skip ?_
                refine n42 _ ?_; clear n42 x42
                refine EW.seq fun Ψ46 n46 x46 => ?_
                refine EW.region gs_nil ?_
                simp
                refine n46 _ ?_; clear n46 x46
                refine EW.ret ?_
                refine ⟨_, _, _, rfl, ?_, ?_, ?_, ?_, ?_⟩ <;> simp [hv]
          · have h5 : ¬ b.r = 5 := by simpa using hc11
            have hv : bndErr b = 8 := by simp [bndErr, h1, h2, h3, h4, h5]
            refine EW.skip ?_
            refine n8 _ ?_; clear n8 x8
            refine EW.exit ?_
            refine x7 _ _ rfl ?_; clear n7 x7
            refine x6 _ _ rfl ?_; clear n6 x6
            refine x5 _ _ rfl ?_; clear n5 x5
            refine n4 _ ?_; clear n4 x4
            refine EW.seq fun Ψ47 n47 x47 => ?_
            refine EW.seq fun Ψ48 n48 x48 => ?_
            refine EW.region gs_nil ?_
            simp
            refine n48 _ ?_; clear n48 x48
            refine EW.ret ?_
            refine x47 _ _ rfl ?_; clear n47 x47
            refine x2 _ _ rfl ?_; clear n2 x2
            refine ⟨_, _, _, rfl, ?_, ?_, ?_, ?_, ?_⟩ <;> simp [hv]

end Go.Ev
end
