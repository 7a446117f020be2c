/- Lemmas for the claims of this seat: an evaluator over abstract values, its soundness, and the contracts of the functions of melt that it walks; no premise beyond what each theorem states. -/
import Derived.Test.YtdcelpomnboeoaaGreatDoorGAH
import Derived.Test.YtdcelpomnboeoaaGreatDoorGAI
import Derived.Test.YtdcelpomnboeoaaGreatDoorGAJ
import Derived.Test.YtdcelpomnboeoaaGreatDoorGAK
import Derived.Test.YtdcelpomnboeoaaGreatDoorGAL
import Derived.Test.YtdcelpomnboeoaaGreatDoorGAM

section
set_option linter.all false
open Go Go.Ev Go.Proofs
namespace Go.Ev
set_option linter.unusedSimpArgs false
set_option linter.unusedVariables false

/-! ### The reference's reasons are the program's -/
theorem rsL_Z {o : MOrd} {x : List (Int × Int)} (j : Nat) (lim : Int) (hj : o.limits[j]?.getD 0 = lim) (hlim : 0 ≤ lim ∧ lim ≤ 1000000) (nl : Nat) (h4 : o.bins.length ≤ 4) : ∀ (bs : List MBin) (i : Nat) (s : Int), (∀ b ∈ bs, OkB nl b) → okX bs (x.drop i) → i + bs.length = o.bins.length →
    -(1000000000000 * i) ≤ s ∧ s ≤ 1000000000000 * i → rsL o (lowX o.bins x) (highX o.bins x) j bs i s = s + brkZ lim j bs (x.drop i)
  | [], i, s, _, _, _, _ => by simp [rsL, brkZ]
  | b :: bs, i, s, hb, hx, hi, hs => by
    simp only [List.length_cons] at hi
    cases hd : x.drop i with
    | nil => rw [hd] at hx; exact hx.elim
    | cons p y =>
      have e1 : x[i]? = some p := by
        have := List.getElem?_drop (xs := x) (i := i) (j := 0)
        rw [hd] at this
        simpa using this.symm
      have e2 : x.drop (i + 1) = y := by rw [← List.drop_drop, hd]; rfl
      rw [hd] at hx
      have kb := hb b (by simp)
      have gm := getD_in kb j
      have w := kb.w
      have hp := hx.1
      have hg := kb.g
      have wz : ∀ n : Int, -1000000000000000 ≤ n → n ≤ 1000000000000000 → IntKind.i64.wrap n = n := fun n a b => wr_small (by omega) (by omega)
      have hV : ovr o j b = (b.grams.getD j (0, 0)).2 - lim := by
        unfold ovr
        rw [← List.getD_eq_getElem?_getD, hj, wz _ (by omega) (by omega)]
      have el := lowX_get (bs := o.bins) (by omega) e1
      have eh := highX_get (bs := o.bins) (by omega) e1
      simp only [rsL, brkZ, hV, el, eh, Option.getD_some]
      have hVb : -1000000 ≤ (b.grams.getD j (0, 0)).2 - lim ∧ (b.grams.getD j (0, 0)).2 - lim ≤ 1000000 := by omega
      generalize (b.grams.getD j (0, 0)).2 - lim = V at hVb
      have key : ∀ n : Int, 0 ≤ n ∧ n ≤ 6 → IntKind.i64.wrap (s + IntKind.i64.wrap (IntKind.i64.wrap (n * b.w) * V)) = s + n * (b.w * V) ∧ -(60000000000) ≤ n * (b.w * V) ∧ n * (b.w * V) ≤ 60000000000 := by
        intro n hn
        have t1 := prod_in (a := n) (b := b.w) (A := 6) (B := 10000) (by omega) (by omega)
        have t0 : 0 ≤ n * b.w := Int.mul_nonneg hn.1 (by omega)
        have t2 := prod_in (a := n * b.w) (b := V) (A := 60000) (B := 1000000) (by omega) (by omega)
        rw [← Int.mul_assoc, wz (n * b.w) (by omega) (by omega), wz (n * b.w * V) (by omega) (by omega), wz _ (by omega) (by omega)]
        omega
      by_cases hv : V < 0
      · have hneg : ¬ 0 ≤ b.w * V := by
          have := Int.mul_neg_of_pos_of_neg (show 0 < b.w by omega) hv
          omega
        obtain ⟨q1, q2, q3⟩ := key p.2 (by omega)
        rw [if_pos hv, if_neg hneg, q1, rsL_Z j lim hj hlim nl h4 bs (i + 1) _ (fun c hc => hb c (by simp [hc])) (by rw [e2]; exact hx.2) (by omega) (by omega), e2]
        omega
      · have hpos : 0 ≤ b.w * V := Int.mul_nonneg (by omega) (by omega)
        obtain ⟨q1, q2, q3⟩ := key p.1 (by omega)
        rw [if_neg hv, if_pos hpos, q1, rsL_Z j lim hj hlim nl h4 bs (i + 1) _ (fun c hc => hb c (by simp [hc])) (by rw [e2]; exact hx.2) (by omega) (by omega), e2]
        omega
set_option linter.unusedSectionVars false
section
variable {o : MOrd} (k : OkO o) {x : List (Int × Int)} (bx : BX o x)
include k bx
theorem rgt2 (pr a : Int) : rgtB o (lowX o.bins x) (highX o.bins x) pr 2 a = lightB o x := by
  rw [rgtB, if_pos rfl, lightB, highsB, highX_eq]
theorem rgt3 (pr a : Int) : rgtB o (lowX o.bins x) (highX o.bins x) pr 3 a = heavyB o x := by
  rw [rgtB, if_neg (by decide), if_pos rfl, heavyB, lowsB, lowX_eq]
theorem rgt5 (pr a : Int) : rgtB o (lowX o.bins x) (highX o.bins x) pr 5 a = dearB o pr x := by
  rw [rgtB, if_neg (by decide), if_neg (by decide), if_pos rfl, dearB, lowsB, lowX_eq]
theorem rgt4 (pr : Int) (j : Nat) (hj : j < o.limits.length) : rgtB o (lowX o.bins x) (highX o.bins x) pr 4 j = brkV o x j := by
  have e5 : o.limits[j]? = some o.limits[j] := List.getElem?_eq_getElem hj
  have hz := rsL_Z (x := x) j o.limits[j] (by rw [e5]; rfl) (k.lim _ (List.getElem_mem hj)) o.limits.length k.nb o.bins 0 0 k.bin (by simpa using bx.ok) (by simp) (by omega)
  rw [rgtB, if_neg (by decide), if_neg (by decide), if_neg (by decide), Int.toNat_natCast, hz]
  have := brkV_iff k bx j hj
  rw [Bool.eq_iff_iff, this]
  simp
end

theorem lowX_len {o : MOrd} {x : List (Int × Int)} (bx : BX o x) : (lowX o.bins x).length = o.bins.length := by
  have key : ∀ (bs : List MBin) (x : List (Int × Int)), okX bs x → (lowX bs x).length = bs.length := by
    intro bs
    induction bs with
    | nil => intro x _; cases x <;> rfl
    | cons b bs ih =>
      intro x h
      cases x with
      | nil => exact h.elim
      | cons p x => simp only [lowX, List.length_cons]; rw [ih x h.2]
  exact key _ _ bx.ok
theorem highX_len {o : MOrd} {x : List (Int × Int)} (bx : BX o x) : (highX o.bins x).length = o.bins.length := by
  have key : ∀ (bs : List MBin) (x : List (Int × Int)), okX bs x → (highX bs x).length = bs.length := by
    intro bs
    induction bs with
    | nil => intro x _; cases x <;> rfl
    | cons b bs ih =>
      intro x h
      cases x with
      | nil => exact h.elim
      | cons p x => simp only [highX, List.length_cons]; rw [ih x h.2]
  exact key _ _ bx.ok
end Go.Ev
end

section
set_option linter.all false
open Go Go.Ev Go.Proofs
namespace Go.Ev
set_option linter.unusedSimpArgs false
set_option linter.unusedVariables false

set_option maxRecDepth 100000
def rndV (a n : Int) : Int := if n < 2 then 0 else (IntKind.i64.wrap (a.tmod n + n)).tmod n

theorem round_ok (a n : Int) (hn : n < 1000000000) : ACalls Tryz.prog 37 [.s (.int .i64 a), .s (.int .i64 n)] [] (.ret (.s (.int .i64 (rndV a n))) [] []) := by
  refine acalls_of_ew Tryz.func37 rfl rfl (by simp [Tryz.f37]) (rs := [.tmp 4]) rfl ?_
  refine EW.seq fun Ψ0 n0 x0 => ?_
  refine EW.region gs_nil ?_
  simp
  refine n0 _ ?_; clear n0 x0
  refine EW.seq fun Ψ1 n1 x1 => ?_
  refine EW.seq fun Ψ2 n2 x2 => ?_
  refine EW.region gs_nil ?_
  simp
  refine n2 _ ?_; clear n2 x2
  refine EW.cond (t := _) (by rfl) (fun hc6 => ?_) (fun hc6 => ?_)
  · have g1 : n < 2 := by simpa using hc6
    refine EW.seq fun Ψ3 n3 x3 => ?_
    refine EW.region gs_nil ?_
    simp
    refine n3 _ ?_; clear n3 x3
    refine EW.ret ?_
    refine x1 _ _ rfl ?_; clear n1 x1
    refine ⟨_, _, _, rfl, ?_, ?_, ?_, ?_, ?_⟩ <;> simp [rndV, g1]
  · have g1 : ¬ n < 2 := by simp at hc6; omega
    have g0 : ¬ n = 0 := by omega
    refine EW.skip ?_
    refine n1 _ ?_; clear n1 x1
    refine EW.seq fun Ψ4 n4 x4 => ?_
    refine EW.region gs_nil ?_
    simp [q_rem _ _ _ _ _ _ g0]
    refine n4 _ ?_; clear n4 x4
    refine EW.ret ?_
    refine ⟨_, _, _, rfl, ?_, ?_, ?_, ?_, ?_⟩ <;> simp [rndV, g1]

end Go.Ev
end

section
set_option linter.all false
open Go Go.Ev Go.Proofs
namespace Go.Ev
set_option linter.unusedSimpArgs false
set_option linter.unusedVariables false

set_option maxRecDepth 100000

/-- The reasons that the reference tries, in its order. -/
def rs0 (k : Nat) : List MBd := [⟨2, 0, 0⟩, ⟨3, 0, 0⟩] ++ (List.range k).map fun j => ⟨4, (j : Int), 0⟩
def rsn (o : MOrd) : List MBd := rs0 o.limits.length ++ [⟨5, 0, 0⟩]
@[simp] theorem rs0_len (k : Nat) : (rs0 k).length = 2 + k := by simp [rs0]; omega
theorem rs0_succ (k : Nat) : rs0 (k + 1) = rs0 k ++ [⟨4, (k : Int), 0⟩] := by simp [rs0, List.range_succ]
theorem rsn_len (o : MOrd) : (rsn o).length = 3 + o.limits.length := by simp [rsn]; omega
theorem rsn_ok (o : MOrd) : ∀ b ∈ rsn o, ¬ b.r = 2 → ¬ b.r = 3 → ¬ b.r = 5 → ∃ j : Nat, b.a = j ∧ j < o.limits.length := by
  intro b hb
  simp only [rsn, rs0, List.mem_append, List.mem_cons, List.not_mem_nil, or_false, List.mem_map, List.mem_range] at hb
  rcases hb with ((rfl | rfl) | ⟨j, hj, rfl⟩) | rfl
  · intro h; exact absurd rfl h
  · intro _ h; exact absurd rfl h
  · intro _ _ _; exact ⟨j, rfl, hj⟩
  · intro _ _ h; exact absurd rfl h
@[simp] theorem eBds_fold (l : List MBd) (q a c : Int) : eBds l ++ [D.s (.int .i64 q), D.s (.int .i64 a), D.s (.int .i64 c)] = eBds (l ++ [⟨q, a, c⟩]) := by simp [eBds, eBd]
theorem eBds_tk : ∀ {l : List MBd} {i : Nat} {b : MBd}, l[i]? = some b → List.take 3 (List.drop (i * 3) (eBds l)) = eBd b
  | [], i, b, h => by simp at h
  | x :: l, 0, b, h => by simp at h; subst h; rfl
  | x :: l, i + 1, b, h => by
    rw [show (i + 1) * 3 = i * 3 + 1 + 1 + 1 by omega, eBds_cons]
    simp only [List.drop_succ_cons]
    exact eBds_tk (by simpa using h)
def rgb (o : MOrd) (lo hi : List Int) (pr : Int) (b : MBd) : Bool := rgtB o lo hi pr b.r b.a
theorem find_at {α : Type} {p : α → Bool} : ∀ {l : List α} {i : Nat} (h : i < l.length), (∀ (j : Nat) (hj : j < l.length), j < i → p l[j] = false) → p l[i] = true → l.find? p = some l[i]
  | [], i, h, _, _ => absurd h (by simp)
  | x :: l, 0, h, _, h2 => by simp only [List.getElem_cons_zero] at h2 ⊢; rw [List.find?_cons_of_pos h2]
  | x :: l, i + 1, h, h1, h2 => by
    have h0 := h1 0 (by simp) (by omega)
    simp only [List.getElem_cons_zero] at h0
    simp only [List.getElem_cons_succ] at h2 ⊢
    rw [List.find?_cons_of_neg (by rw [h0]; simp)]
    exact find_at (by simpa using h) (fun j hj hji => by have := h1 (j + 1) (by simpa using hj) (by omega); simpa using this) h2
theorem find_none {α : Type} {p : α → Bool} {l : List α} (h : ∀ (j : Nat) (hj : j < l.length), p l[j] = false) : l.find? p = none := by
  rw [List.find?_eq_none]
  intro x hx
  obtain ⟨j, hj, rfl⟩ := List.getElem_of_mem hx
  rw [h j hj]; simp
def pnE (r : List (Nat × AV)) : List (Nat × AV) := (3, .ptr (.own 3) 0) :: (4, .ptr (.own 4) 0) :: r
def pnO (o : MOrd) (lo hi : List Int) : List (Nat × List AV) := [(3, aOrdC o), (4, [.sl false false .U .no lo.length (eInts lo), .sl false false .U .no hi.length (eInts hi)])]
def pnS0 (o : MOrd) (lo hi : List Int) (pr : Int) (k : Nat) : St :=
  St.lit 117 (pnE [(2, .s (.int .i64 pr)), (8, .sl true true .E (.tok 31) (2 + k) (eBds (rs0 k))), (9, .s (.int .i64 k))]) (pnO o lo hi) [] [(31, (2 + k, 3))]
def pnS1 (o : MOrd) (lo hi : List Int) (pr : Int) (L : List MBd) (k : Nat) : St :=
  St.lit 117 (pnE [(2, .s (.int .i64 pr)), (8, .sl false false .U .no L.length (eBds L)), (10, .s (.int .i64 k))]) (pnO o lo hi) [] []
def pnS2 (o : MOrd) (lo hi : List Int) (pr : Int) (k : Nat) : St :=
  St.lit 117 (pnE [(2, .s (.int .i64 pr)), (11, .s (.int .i64 k))]) (pnO o lo hi) [] []
attribute [simp] pnE pnO pnS0 pnS1 pnS2
/-- The proof of a box, out of those of its halves. -/
def plnR (o : MOrd) (lo hi : List Int) (pr : Int) (i0 : Nat) (A B : List MBd × Bool) : List MBd × Bool :=
  match (rsn o).find? (rgb o lo hi pr) with
  | some b => ([b], true)
  | none => if i0 < o.bins.length then (⟨1, (i0 : Int), (lo[i0]?.getD 0 + hi[i0]?.getD 0).tdiv 2⟩ :: (A.1 ++ B.1), A.2 && B.2) else ([], false)

set_option maxHeartbeats 4000000 in
theorem rplain_step (o : MOrd) (pr : Int) (lo hi : List Int) (i0 : Nat) (A B R : List MBd × Bool) (hn : o.bins.length < 900) (hl : o.limits.length < 900) (h1 : lo.length = o.bins.length) (h2 : hi.length = o.bins.length) (hg : ∀ b ∈ o.bins, b.grams.length = o.limits.length)
    (hbd : ∀ (i : Nat) (h : i < lo.length) (h' : i < hi.length), 0 ≤ lo[i] ∧ lo[i] ≤ hi[i] ∧ hi[i] ≤ 1000) (hi0 : i0 ≤ o.bins.length) (hlt : ∀ (i : Nat), i < i0 → lo[i]? = hi[i]?) (hat : i0 < o.bins.length → ¬ lo[i0]? = hi[i0]?)
    (hN : ∀ (h : i0 < lo.length) (h' : i0 < hi.length), (rsn o).find? (rgb o lo hi pr) = none → A.1.length < 1000000 ∧ B.1.length < 1000000 ∧ ACalls Tryz.prog 26 [.agg [.sl false false .U .no o.limits.length (eInts o.limits), .s (.int .i64 o.least), .s (.int .i64 o.most), .sl false false .U .no o.bins.length (eBins o.bins)], .agg [.sl false false .U .no lo.length (eInts lo), .sl false false .U .no (hi.set i0 ((lo[i0] + hi[i0]).tdiv 2)).length (eInts (hi.set i0 ((lo[i0] + hi[i0]).tdiv 2)))], .s (.int .i64 pr)] [] (.ret (.tup [.sl false false .U .no A.1.length (eBds A.1), .s (.bool A.2)]) [] []) ∧ ACalls Tryz.prog 26 [.agg [.sl false false .U .no o.limits.length (eInts o.limits), .s (.int .i64 o.least), .s (.int .i64 o.most), .sl false false .U .no o.bins.length (eBins o.bins)], .agg [.sl false false .U .no (lo.set i0 (((lo[i0] + hi[i0]).tdiv 2) + 1)).length (eInts (lo.set i0 (((lo[i0] + hi[i0]).tdiv 2) + 1))), .sl false false .U .no hi.length (eInts hi)], .s (.int .i64 pr)] [] (.ret (.tup [.sl false false .U .no B.1.length (eBds B.1), .s (.bool B.2)]) [] []))
    (hR : R = plnR o lo hi pr i0 A B) : ACalls Tryz.prog 26 [.agg [.sl false false .U .no o.limits.length (eInts o.limits), .s (.int .i64 o.least), .s (.int .i64 o.most), .sl false false .U .no o.bins.length (eBins o.bins)], .agg [.sl false false .U .no lo.length (eInts lo), .sl false false .U .no hi.length (eInts hi)], .s (.int .i64 pr)] [] (.ret (.tup [.sl false false .U .no R.1.length (eBds R.1), .s (.bool R.2)]) [] []) := by
  refine acalls_of_ew Tryz.func26 rfl rfl (by simp [Tryz.f26]) (rs := [.tmp 6, .tmp 7]) rfl ?_
  refine EW.seq fun Ψ0 n0 x0 => ?_
  refine EW.region gs_nil ?_
  simp
  refine n0 _ ?_; clear n0 x0
  refine EW.seq fun Ψ1 n1 x1 => ?_
  refine EW.region gs_nil ?_
  simp
  refine n1 _ ?_; clear n1 x1
  refine EW.seq fun Ψ2 n2 x2 => ?_
  refine EW.seq fun Ψ3 n3 x3 => ?_
  refine EW.region gs_nil ?_
  simp
  refine n3 _ ?_; clear n3 x3
  refine EW.block ?_
  refine EW.loopA (pnS0 o lo hi pr) (fun k => k ≤ o.limits.length) (fun k => o.limits.length - k) 0 (St.le_lit rfl (by simp [rs0]) (by simp) (by simp) (by simp) (by simp)) ?_ fun p hk => ?_
  · simp
  rename Nat => k
  have hk : k ≤ o.limits.length := hk
  refine EW.seq fun Ψ4 n4 x4 => ?_
  refine EW.seq fun Ψ5 n5 x5 => ?_
  refine EW.region gs_nil ?_
  simp
  refine n5 _ ?_; clear n5 x5
  refine EW.cond (t := _) (by rfl) (fun hc24 => ?_) (fun hc24 => ?_)
  · simp at hc24
    refine EW.skip ?_
    refine n4 _ ?_; clear n4 x4
    refine EW.seq fun Ψ6 n6 x6 => ?_
    refine EW.block ?_
    refine EW.hide fun Ψ7 n7 => ?_
    refine EW.region gs_nil ?_
    simp [hc24, show (2 + (k + 1)) * 24 ≤ 140737488355328 by omega, show (2 + k + 1) * 24 ≤ 140737488355328 by omega]
    refine n7 _ _ ?_; clear n7
    refine n6 _ ?_; clear n6 x6
    refine EW.hide fun Ψ8 n8 => ?_
    refine EW.region gs_nil ?_
    simp
    refine n8 _ _ ?_; clear n8
    have e3 : IntKind.i64.wrap ((k : Int) + 1) = k + 1 := wr_small (by omega) (by omega)
    refine ⟨(k + 1), (St.le_lit rfl (by simp [e3, rs0_succ, Nat.add_assoc]) (by simp) (by simp) (by simp [Nat.add_assoc]) (by simp)), ?_, ?_⟩
    · exact hc24
    · show o.limits.length - (k + 1) < o.limits.length - k; omega
  · simp at hc24
    have hkl : k = o.limits.length := by omega
    subst hkl
    refine EW.exit ?_
    refine x4 _ _ rfl ?_; clear n4 x4
    refine n2 _ ?_; clear n2 x2
    refine EW.seq fun Ψ9 n9 x9 => ?_
    refine EW.region gs_nil ?_
    simp [show (2 + o.limits.length + 1) * 24 ≤ 140737488355328 by omega]
    refine n9 _ ?_; clear n9 x9
    refine EW.seq fun Ψ10 n10 x10 => ?_
    refine EW.seq fun Ψ11 n11 x11 => ?_
    refine EW.region gs_nil ?_
    simp
    refine n11 _ ?_; clear n11 x11
    refine EW.block ?_
    obtain ⟨L, hL⟩ : ∃ L, L = rsn o := ⟨_, rfl⟩
    have hLl : L.length = 3 + o.limits.length := by rw [hL, rsn_len]
    refine EW.loopA (pnS1 o lo hi pr L) (fun i => i ≤ L.length ∧ ∀ (j : Nat) (hj : j < L.length), j < i → rgb o lo hi pr L[j] = false) (fun i => L.length - i) 0 (St.le_lit rfl (by simp [hL, rsn, Nat.add_comm]) (by simp) (by simp) (by simp) (by simp)) ?_ fun p hk => ?_
    · simp
    rename Nat => i
    obtain ⟨hi1, hf⟩ := hk
    refine EW.seq fun Ψ12 n12 x12 => ?_
    refine EW.seq fun Ψ13 n13 x13 => ?_
    refine EW.region gs_nil ?_
    simp
    refine n13 _ ?_; clear n13 x13
    refine EW.cond (t := _) (by rfl) (fun hc39 => ?_) (fun hc39 => ?_)
    · simp at hc39
      have e4 : IntKind.i64.wrap ((i : Int) + 1) = i + 1 := wr_small (by omega) (by omega)
      have e1 : L[i]? = some L[i] := List.getElem?_eq_getElem hc39
      have cr := right_ok o lo hi pr L[i].r L[i].a L[i].c h1 h2 (by omega) hg (rsn_ok o _ (by rw [← hL]; exact List.getElem_mem hc39))
      refine EW.skip ?_
      refine n12 _ ?_; clear n12 x12
      refine EW.seq fun Ψ14 n14 x14 => ?_
      refine EW.block ?_
      refine EW.seq fun Ψ15 n15 x15 => ?_
      refine EW.drawn [] mixed (gs_cons cr gs_nil) (by kernel_rfl) ?_
      simp [hc39, e1, eBds_atm _ _ _ _ _ e1, show 3 ≤ L.length * 3 - i * 3 by omega]
      refine n15 _ ?_; clear n15 x15
      refine EW.cond (t := _) (by rfl) (fun hc49 => ?_) (fun hc49 => ?_)
      · have g1 : rgb o lo hi pr L[i] = true := by simpa [rgb] using hc49
        have hfs : (rsn o).find? (rgb o lo hi pr) = some L[i] := by rw [← hL]; exact find_at hc39 hf g1
        have hv : R = ([L[i]], true) := by rw [hR, plnR, hfs]
        have ht3 := eBds_tk e1
        refine EW.seq fun Ψ16 n16 x16 => ?_
        refine EW.region gs_nil ?_
        simp [hc39, e1, e4, show (i : Int) ≤ i + 1 by omega, show (i : Int) + 1 ≤ L.length by omega, show i + 1 ≤ L.length by omega, ht3, eBd]
        refine n16 _ ?_; clear n16 x16
        refine EW.ret ?_
        refine x14 _ _ rfl ?_; clear n14 x14
        refine x10 _ _ rfl ?_; clear n10 x10
        refine ⟨_, _, _, rfl, ?_, ?_, ?_, ?_, ?_⟩ <;> simp [hv] <;> omega
      · have g1 : ¬ rgb o lo hi pr L[i] = true := by simpa [rgb] using hc49
        refine EW.skip ?_
        refine n14 _ ?_; clear n14 x14
        refine EW.hide fun Ψ17 n17 => ?_
        refine EW.region gs_nil ?_
        simp
        refine n17 _ _ ?_; clear n17
        have e3 : IntKind.i64.wrap ((i : Int) + 1) = i + 1 := wr_small (by omega) (by omega)
        refine ⟨(i + 1), (St.le_lit rfl (by simp [e3]) (by simp) (by simp) (by simp) (by simp)), ?_, ?_⟩
        · refine ⟨hc39, fun j hj hji => ?_⟩
          rcases Nat.lt_or_ge j i with h | h
          · exact hf j hj h
          · obtain rfl : j = i := by omega
            exact Bool.not_eq_true _ ▸ g1
        · show L.length - (i + 1) < L.length - i; omega
    · simp at hc39
      have hfn : (rsn o).find? (rgb o lo hi pr) = none := by rw [← hL]; exact find_none fun j hj => hf j hj (by omega)
      refine EW.exit ?_
      refine x12 _ _ rfl ?_; clear n12 x12
      refine n10 _ ?_; clear n10 x10
      refine EW.seq fun Ψ18 n18 x18 => ?_
      refine EW.seq fun Ψ19 n19 x19 => ?_
      refine EW.region gs_nil ?_
      simp
      refine n19 _ ?_; clear n19 x19
      refine EW.block ?_
      refine EW.loopA (pnS2 o lo hi pr) (fun i => i ≤ i0) (fun i => i0 - i) 0 (St.le_lit rfl (by simp) (by simp) (by simp) (by simp) (by simp)) ?_ fun p hk => ?_
      · simp
      rename Nat => k
      have hk : k ≤ i0 := hk
      refine EW.seq fun Ψ20 n20 x20 => ?_
      refine EW.seq fun Ψ21 n21 x21 => ?_
      refine EW.region gs_nil ?_
      simp
      refine n21 _ ?_; clear n21 x21
      refine EW.cond (t := _) (by rfl) (fun hc59 => ?_) (fun hc59 => ?_)
      · simp at hc59
        have k1 : k < lo.length := by omega
        have k2 : k < hi.length := by omega
        have e1 : lo[k]? = some lo[k] := List.getElem?_eq_getElem k1
        have e2 : hi[k]? = some hi[k] := List.getElem?_eq_getElem k2
        have hb := hbd k k1 k2
        refine EW.skip ?_
        refine n20 _ ?_; clear n20 x20
        refine EW.seq fun Ψ22 n22 x22 => ?_
        refine EW.block ?_
        refine EW.seq fun Ψ23 n23 x23 => ?_
        refine EW.seq fun Ψ24 n24 x24 => ?_
        refine EW.drawn [] mixed gs_nil (by kernel_rfl) ?_
        simp [k1, k2, e1, e2]
        refine n24 _ ?_; clear n24 x24
        refine EW.cond (t := _) (by rfl) (fun hc72 => ?_) (fun hc72 => ?_)
        · have g1 : lo[k] = hi[k] := by simpa using hc72
          have hk0 : k < i0 := by
            rcases Nat.lt_or_ge k i0 with h | h
            · exact h
            · exfalso
              obtain rfl : k = i0 := by omega
              exact hat (by omega) (by rw [e1, e2, g1])
          refine EW.exit ?_
          refine x23 _ _ rfl ?_; clear n23 x23
          refine n22 _ ?_; clear n22 x22
          refine EW.hide fun Ψ25 n25 => ?_
          refine EW.region gs_nil ?_
          simp
          refine n25 _ _ ?_; clear n25
          have e3 : IntKind.i64.wrap ((k : Int) + 1) = k + 1 := wr_small (by omega) (by omega)
          refine ⟨(k + 1), (St.le_lit rfl (by simp [e3]) (by simp) (by simp) (by simp) (by simp)), ?_, ?_⟩
          · show k + 1 ≤ i0; omega
          · show i0 - (k + 1) < i0 - k; omega
        · have g1 : ¬ lo[k] = hi[k] := by simpa using hc72
          obtain rfl : k = i0 := by
            rcases Nat.lt_or_ge k i0 with h | h
            · exfalso
              have := hlt k h
              rw [e1, e2] at this
              exact g1 (Option.some.inj this)
            · omega
          obtain ⟨a1, a2, cA, cB⟩ := hN k1 k2 hfn
          have w1 : IntKind.i64.wrap (lo[k] + hi[k]) = lo[k] + hi[k] := wr_small (by omega) (by omega)
          have ht : ((lo[k] + hi[k]).tdiv 2) = (lo[k] + hi[k]) / 2 := Int.tdiv_eq_ediv_of_nonneg (by omega)
          have hm : 0 ≤ ((lo[k] + hi[k]).tdiv 2) ∧ ((lo[k] + hi[k]).tdiv 2) ≤ 1000 := by rw [ht]; omega
          have w2 : IntKind.i64.wrap ((lo[k] + hi[k]).tdiv 2) = ((lo[k] + hi[k]).tdiv 2) := wr_small (by omega) (by omega)
          have w3 : IntKind.i64.wrap (((lo[k] + hi[k]).tdiv 2) + 1) = ((lo[k] + hi[k]).tdiv 2) + 1 := wr_small (by omega) (by omega)
          have hv : R = (⟨1, (k : Int), ((lo[k] + hi[k]).tdiv 2)⟩ :: (A.1 ++ B.1), A.2 && B.2) := by rw [hR, plnR, hfn]; simp only [e1, e2, Option.getD_some]; exact if_pos hc59
          refine EW.skip ?_
          refine n23 _ ?_; clear n23 x23
          refine EW.seq fun Ψ26 n26 x26 => ?_
          refine EW.drawn [] mixed gs_nil (by kernel_rfl) ?_
          simp [k1, k2, e1, e2, w1, w2, q_quo]
          refine n26 _ ?_; clear n26 x26
          refine EW.seq fun Ψ27 n27 x27 => ?_
          refine EW.drawn [(0, 4)] mixed (gs_cons (first_ok lo hi k ((lo[k] + hi[k]).tdiv 2) k2 (by omega)) (gs_cons cA gs_nil)) (by kernel_rfl) ?_
          simp
          refine n27 _ ?_; clear n27 x27
          refine EW.seq fun Ψ28 n28 x28 => ?_
          refine EW.drawn [(0, 4)] mixed (gs_cons (second_ok lo hi k ((lo[k] + hi[k]).tdiv 2) k1 (by omega) w3) (gs_cons cB gs_nil)) (by kernel_rfl) ?_
          simp
          refine n28 _ ?_; clear n28 x28
          refine EW.seq fun Ψ29 n29 x29 => ?_
          cases hA2 : A.2
          · skip
            refine EW.region gs_nil ?_
            simp [hA2, show (1 + A.1.length) * 24 ≤ 140737488355328 by omega, show (1 + A.1.length + B.1.length) * 24 ≤ 140737488355328 by omega, show A.1.length * 3 + 1 + 1 + 1 = (1 + A.1.length) * 3 by omega]
            rw [hA2, Bool.false_and] at hv
            refine n29 _ ?_; clear n29 x29
            refine EW.ret ?_
            refine x22 _ _ rfl ?_; clear n22 x22
            refine x18 _ _ rfl ?_; clear n18 x18
            refine ⟨_, _, _, rfl, ?_, ?_, ?_, ?_, ?_⟩ <;> simp [hv] <;> omega
          · skip
            refine EW.region gs_nil ?_
            simp [hA2, show (1 + A.1.length) * 24 ≤ 140737488355328 by omega, show (1 + A.1.length + B.1.length) * 24 ≤ 140737488355328 by omega, show A.1.length * 3 + 1 + 1 + 1 = (1 + A.1.length) * 3 by omega]
            rw [hA2, Bool.true_and] at hv
            refine n29 _ ?_; clear n29 x29
            refine EW.ret ?_
            refine x22 _ _ rfl ?_; clear n22 x22
            refine x18 _ _ rfl ?_; clear n18 x18
            refine ⟨_, _, _, rfl, ?_, ?_, ?_, ?_, ?_⟩ <;> simp [hv] <;> omega
      · simp at hc59
        have hv : R = ([], false) := by rw [hR, plnR, hfn]; exact if_neg (by omega)
        refine EW.exit ?_
        refine x20 _ _ rfl ?_; clear n20 x20
        refine n18 _ ?_; clear n18 x18
        refine EW.seq fun Ψ30 n30 x30 => ?_
        refine EW.region gs_nil ?_
        simp
        refine n30 _ ?_; clear n30 x30
        refine EW.ret ?_
        refine ⟨_, _, _, rfl, ?_, ?_, ?_, ?_, ?_⟩ <;> simp [hv] <;> omega

end Go.Ev
end

section
set_option linter.all false
open Go Go.Ev Go.Proofs
namespace Go.Ev
set_option linter.unusedSimpArgs false
set_option linter.unusedVariables false
set_option linter.unusedSectionVars false

theorem firstD_eq : ∀ (x : List (Int × Int)) (i : Nat) (p : Int × Int), i < firstD x → x[i]? = some p → p.1 = p.2
  | [], i, p, h, _ => by simp [firstD] at h
  | q :: r, i, p, h, hp => by
    simp only [firstD] at h
    split at h
    · rename_i hq
      cases i with
      | zero => simp at hp; subst hp; exact hq
      | succ i => exact firstD_eq r i p (by omega) (by simpa using hp)
    · omega
theorem firstD_ne : ∀ (x : List (Int × Int)) (p : Int × Int), x[firstD x]? = some p → ¬ p.1 = p.2
  | [], p, h => by simp [firstD] at h
  | q :: r, p, h => by
    simp only [firstD] at h
    split at h
    · exact firstD_ne r p (by simpa using h)
    · rename_i hq; simp at h; subst h; exact hq
section
variable {o : MOrd} (k : OkO o) {x : List (Int × Int)} (bx : BX o x)
include k bx
theorem find_brok (pr : Int) : ∀ (n j : Nat), j + n ≤ o.limits.length → ((List.range' j n).map fun j : Nat => (⟨4, (j : Int), 0⟩ : MBd)).find? (rgb o (lowX o.bins x) (highX o.bins x) pr) = (brokL o x n j).map fun j : Nat => (⟨4, (j : Int), 0⟩ : MBd)
  | 0, j, _ => rfl
  | n + 1, j, h => by
    rw [List.range'_succ, List.map_cons, brokL]
    have e : rgb o (lowX o.bins x) (highX o.bins x) pr ⟨4, (j : Int), 0⟩ = brkV o x j := rgt4 k bx pr j (by omega)
    split
    · rename_i hb
      rw [List.find?_cons_of_pos (by rw [e]; exact hb)]
      rfl
    · rename_i hb
      rw [List.find?_cons_of_neg (by rw [e]; exact hb)]
      exact find_brok pr n (j + 1) (by omega)
theorem find_rsn (pr : Int) : (rsn o).find? (rgb o (lowX o.bins x) (highX o.bins x) pr) =
    if lightB o x = true then some ⟨2, 0, 0⟩ else if heavyB o x = true then some ⟨3, 0, 0⟩ else if brokI o x = true then some ⟨4, brokA o x, 0⟩ else if dearB o pr x = true then some ⟨5, 0, 0⟩ else none := by
  have e2 : rgb o (lowX o.bins x) (highX o.bins x) pr ⟨2, 0, 0⟩ = lightB o x := rgt2 k bx pr 0
  have e3 : rgb o (lowX o.bins x) (highX o.bins x) pr ⟨3, 0, 0⟩ = heavyB o x := rgt3 k bx pr 0
  have e5 : rgb o (lowX o.bins x) (highX o.bins x) pr ⟨5, 0, 0⟩ = dearB o pr x := rgt5 k bx pr 0
  have hb := find_brok k bx pr o.limits.length 0 (by omega)
  rw [← List.range_eq_range'] at hb
  rw [rsn, rs0, List.append_assoc]
  by_cases g1 : lightB o x = true
  · rw [if_pos g1, List.cons_append, List.find?_cons_of_pos (by rw [e2]; exact g1)]
  rw [if_neg g1, List.cons_append, List.find?_cons_of_neg (by rw [e2]; exact g1)]
  by_cases g2 : heavyB o x = true
  · rw [if_pos g2, List.cons_append, List.find?_cons_of_pos (by rw [e3]; exact g2)]
  rw [if_neg g2, List.cons_append, List.find?_cons_of_neg (by rw [e3]; exact g2), List.nil_append, List.find?_append, hb]
  have hV : brokL o x o.limits.length 0 = brokV o x := rfl
  rw [hV]
  cases hq : brokV o x with
  | some i =>
    have g3 : brokI o x = true := by rw [brokI, hq]; rfl
    have hA : brokA o x = i := by rw [brokA, hq]
    rw [if_pos g3, hA]; rfl
  | none =>
    have g3 : ¬ brokI o x = true := by rw [brokI, hq]; simp
    rw [if_neg g3]
    by_cases g4 : dearB o pr x = true
    · rw [if_pos g4, List.find?_cons_of_pos (by rw [e5]; exact g4)]; rfl
    · rw [if_neg g4, List.find?_cons_of_neg (by rw [e5]; exact g4)]; rfl
end

theorem rplain_ok {o : MOrd} (k : OkO o) (pr : Int) : ∀ (n : Nat) (x : List (Int × Int)), BX o x → sizeBx x < n → volX x ≤ 2401 → ∃ R : List MBd × Bool,
    ACalls Tryz.prog 26 [.agg [.sl false false .U .no o.limits.length (eInts o.limits), .s (.int .i64 o.least), .s (.int .i64 o.most), .sl false false .U .no o.bins.length (eBins o.bins)], .agg [.sl false false .U .no (lowX o.bins x).length (eInts (lowX o.bins x)), .sl false false .U .no (highX o.bins x).length (eInts (highX o.bins x))], .s (.int .i64 pr)] []
      (.ret (.tup [.sl false false .U .no R.1.length (eBds R.1), .s (.bool R.2)]) [] []) ∧ (∀ p, plainL o pr n x = some p → R = (p, true)) ∧ (plainL o pr n x = none → R.2 = false) ∧ R.1.length + 1 ≤ 2 * volX x
  | 0, x, _, h, _ => by omega
  | n + 1, x, bx, hs, hvx => by
    have hbx := BX.bx k bx
    have hv := volX_pos x hbx
    have hl := lowX_len bx
    have hh := highX_len bx
    have h4 := k.nb
    have h3 := k.nl
    have hx4 := bx.len
    have get : ∀ (i : Nat), i < o.bins.length → ∃ p, x[i]? = some p ∧ (lowX o.bins x)[i]? = some p.1 ∧ (highX o.bins x)[i]? = some p.2 ∧ 0 ≤ p.1 ∧ p.1 ≤ p.2 ∧ p.2 ≤ 6 := fun i hi => by
      have e : x[i]? = some (x[i]'(by omega)) := List.getElem?_eq_getElem (by omega)
      obtain ⟨b, hb, q1, q2, q3⟩ := (okX_get bx.ok e).1 hi
      have := (k.bin b hb).g
      exact ⟨_, e, lowX_get hi e, highX_get hi e, q1, q2, by omega⟩
    have hstep := fun i0 A B R q1 q2 q3 q4 q5 => rplain_step o pr (lowX o.bins x) (highX o.bins x) i0 A B R (by omega) (by omega) hl hh (fun b hb => (k.bin b hb).len) (fun i i1 i2 => by
      obtain ⟨p, _, el, eh, c1, c2, c3⟩ := get i (by omega)
      rw [List.getElem?_eq_getElem i1] at el
      rw [List.getElem?_eq_getElem i2] at eh
      have el := Option.some.inj el
      have eh := Option.some.inj eh
      omega) q1 q2 q3 q4 q5
    have hfind := find_rsn k bx pr
    have hlt0 : ∀ i, i < min (firstD x) o.bins.length → (lowX o.bins x)[i]? = (highX o.bins x)[i]? := fun i hi => by
      obtain ⟨p, e, el, eh, _⟩ := get i (by omega)
      rw [el, eh, firstD_eq x i p (by omega) e]
    have hat0 : min (firstD x) o.bins.length < o.bins.length → ¬ (lowX o.bins x)[min (firstD x) o.bins.length]? = (highX o.bins x)[min (firstD x) o.bins.length]? := fun hi => by
      have he : min (firstD x) o.bins.length = firstD x := by omega
      rw [he] at hi ⊢
      obtain ⟨p, e, el, eh, _⟩ := get _ hi
      rw [el, eh]
      intro h
      exact firstD_ne x p e (Option.some.inj h)
    by_cases hcut : (rsn o).find? (rgb o (lowX o.bins x) (highX o.bins x) pr) = none ∧ firstD x < o.bins.length
    · obtain ⟨hnone, hlt⟩ := hcut
      obtain ⟨p0, e0, el0, eh0, c1, c2, c3⟩ := get _ hlt
      have hne := firstD_ne x p0 e0
      have hmid := midB_eq hbx e0
      have he : min (firstD x) o.bins.length = firstD x := by omega
      rw [he] at hlt0 hat0
      have g5 : ¬ x = oneB x := fun h => by
        have := oneB_get x (firstD x)
        rw [← h, e0] at this
        have := Option.some.inj this
        rw [this] at hne
        exact hne rfl
      obtain ⟨⟨_, z1⟩, _, z2⟩ := halves hbx g5
      have hw : wr (midB x + 1) = midB x + 1 := wr_small (by omega) (by omega)
      have ht : (p0.1 + p0.2).tdiv 2 = (p0.1 + p0.2) / 2 := Int.tdiv_eq_ediv_of_nonneg (by omega)
      have hmt : (p0.1 + p0.2).tdiv 2 = midB x := by omega
      have b1 := BX.hi k bx (v := midB x) e0 hlt (by omega) (by omega)
      have b2 := BX.lo k bx (v := midB x + 1) e0 hlt (by omega) (by omega)
      have hvc := volX_cut x (firstD x) p0 (midB x) e0 (by omega) (by omega)
      have v1 := volX_pos _ (BX.bx k b1)
      have v2 := volX_pos _ (BX.bx k b2)
      rw [hw] at z2
      obtain ⟨RA, a1, a2, a3, a4⟩ := rplain_ok k pr n _ b1 (by omega) (by omega)
      obtain ⟨RB, d1, d2, d3, d4⟩ := rplain_ok k pr n _ b2 (by omega) (by omega)
      rw [lowX_hi, highX_hi] at a1
      rw [lowX_lo, highX_lo] at d1
      have hR : plnR o (lowX o.bins x) (highX o.bins x) pr (firstD x) RA RB = (⟨1, (firstD x : Int), midB x⟩ :: (RA.1 ++ RB.1), RA.2 && RB.2) := by
        rw [plnR, hnone]
        simp only [el0, eh0, Option.getD_some, hmt, if_pos hlt]
      refine ⟨plnR o (lowX o.bins x) (highX o.bins x) pr (firstD x) RA RB, hstep (firstD x) RA RB _ (by omega) hlt0 hat0 (fun i1 i2 _ => ?_) rfl, ?_, ?_, ?_⟩
      · rw [List.getElem?_eq_getElem i1] at el0
        rw [List.getElem?_eq_getElem i2] at eh0
        rw [Option.some.inj el0, Option.some.inj eh0, hmt]
        exact ⟨by omega, by omega, a1, d1⟩
      · intro p hp
        rw [hR]
        rw [hfind] at hnone
        simp only [plainL] at hp
        split at hnone
        · cases hnone
        split at hnone
        · cases hnone
        split at hnone
        · cases hnone
        split at hnone
        · cases hnone
        rename_i g1 g2 g3 g4
        rw [if_neg g1, if_neg g2, if_neg g3, if_neg g4, if_neg g5, hw] at hp
        split at hp
        · rename_i a b hA hB
          cases hp
          rw [a2 a hA, d2 b hB]; rfl
        · cases hp
      · intro hp
        rw [hR]
        rw [hfind] at hnone
        simp only [plainL] at hp
        split at hnone
        · cases hnone
        split at hnone
        · cases hnone
        split at hnone
        · cases hnone
        split at hnone
        · cases hnone
        rename_i g1 g2 g3 g4
        rw [if_neg g1, if_neg g2, if_neg g3, if_neg g4, if_neg g5, hw] at hp
        cases hA : plainL o pr n (setHi x (firstD x) (midB x)) with
        | none => simp only [a3 hA, Bool.false_and]
        | some a =>
          cases hB : plainL o pr n (setLo x (firstD x) (midB x + 1)) with
          | none => simp only [d3 hB, Bool.and_false]
          | some b => rw [hA, hB] at hp; cases hp
      · rw [hR]
        simp only [List.length_cons, List.length_append]
        omega
    · refine ⟨plnR o (lowX o.bins x) (highX o.bins x) pr (min (firstD x) o.bins.length) ([], false) ([], false), hstep _ ([], false) ([], false) _ (by omega) hlt0 hat0 (fun i1 i2 hf => ?_) rfl, ?_, ?_, ?_⟩
      · exact absurd ⟨hf, by omega⟩ hcut
      · intro p hp
        simp only [plainL] at hp
        rw [plnR, hfind]
        split at hp
        · rename_i g; cases hp; rw [if_pos g]
        rename_i g1
        rw [if_neg g1]
        split at hp
        · rename_i g; cases hp; rw [if_pos g]
        rename_i g2
        rw [if_neg g2]
        split at hp
        · rename_i g; cases hp; rw [if_pos g]
        rename_i g3
        rw [if_neg g3]
        split at hp
        · rename_i g; cases hp; rw [if_pos g]
        rename_i g4
        exfalso
        rw [hfind, if_neg g1, if_neg g2, if_neg g3, if_neg g4] at hcut
        split at hp
        · cases hp
        rename_i g5
        obtain ⟨f1, q, f2, f3⟩ := firstD_lt x g5
        refine hcut ⟨rfl, ?_⟩
        rcases Nat.lt_or_ge (firstD x) o.bins.length with h | h
        · exact h
        · have := (okX_get bx.ok f2).2 (by omega)
          rw [this] at f3
          exact absurd rfl f3
      · intro hp
        simp only [plainL] at hp
        rw [plnR, hfind]
        split at hp
        · cases hp
        rename_i g1
        split at hp
        · cases hp
        rename_i g2
        split at hp
        · cases hp
        rename_i g3
        split at hp
        · cases hp
        rename_i g4
        rw [if_neg g1, if_neg g2, if_neg g3, if_neg g4]
        simp only
        split <;> rfl
      · rw [plnR]
        split
        · simp; omega
        · split
          · rename_i hf hi
            exact absurd ⟨hf, by omega⟩ hcut
          · simp; omega
end Go.Ev
end

section
set_option linter.all false
open Go Go.Ev Go.Proofs
namespace Go.Ev
set_option linter.unusedSimpArgs false
set_option linter.unusedVariables false

set_option maxRecDepth 100000
theorem rProve_ok (o : MOrd) (pr : Int) (hz : szO o) : ACalls Tryz.prog 6 [.agg [.sl false false .U .no o.limits.length (eInts o.limits), .s (.int .i64 o.least), .s (.int .i64 o.most), .sl false false .U .no o.bins.length (eBins o.bins)], .s (.int .i64 pr)] [] (.ret (.tup [.sl false false .U .no (prvL o pr).length (eBds (prvL o pr)), .s (.int .i64 (prvE o pr))]) [] []) := by
  refine acalls_of_ew Tryz.func6 rfl rfl (by simp [Tryz.f6]) (rs := [.tmp 4, .tmp 5]) rfl ?_
  refine EW.seq fun Ψ0 n0 x0 => ?_
  refine EW.region gs_nil ?_
  simp
  refine n0 _ ?_; clear n0 x0
  refine EW.seq fun Ψ1 n1 x1 => ?_
  refine EW.seq fun Ψ2 n2 x2 => ?_
  refine EW.region (gs_cons (rcheckPrice_ok o pr hz) gs_nil) ?_
  simp
  refine n2 _ ?_; clear n2 x2
  refine EW.seq fun Ψ3 n3 x3 => ?_
  refine EW.region gs_nil ?_
  simp
  refine n3 _ ?_; clear n3 x3
  refine EW.cond (t := _) (by rfl) (fun hc13 => ?_) (fun hc13 => ?_)
  · have g1 : ¬ priceErr o pr = 0 := by simpa using hc13
    have hv1 : prvE o pr = priceErr o pr := by simp only [prvE, if_neg g1]
    have hv2 : prvL o pr = [] := by simp only [prvL, if_neg g1]
    refine EW.seq fun Ψ4 n4 x4 => ?_
    refine EW.region gs_nil ?_
    simp
    refine n4 _ ?_; clear n4 x4
    refine EW.ret ?_
    refine x1 _ _ rfl ?_; clear n1 x1
    refine ⟨_, _, _, rfl, ?_, ?_, ?_, ?_, ?_⟩ <;> simp [hv1, hv2]
  · have g1 : priceErr o pr = 0 := by simpa using hc13
    have k := ordErr_ok (priceErr_ord g1)
    have kb := k.nb
    obtain ⟨R, c1, r1, r2, r3⟩ := rplain_ok k pr 41 (wholeB o) (whole_X k) (whole_facts k).2.2 (whole_vol k)
    rw [low_whole k, high_whole k] at c1
    refine EW.skip ?_
    refine n1 _ ?_; clear n1 x1
    refine EW.seq fun Ψ5 n5 x5 => ?_
    refine EW.drawn [(0, 2)] mixed (gs_cons (rwhole_ok o (by omega)) (gs_cons c1 gs_nil)) (by kernel_rfl) ?_
    simp
    refine n5 _ ?_; clear n5 x5
    refine EW.seq fun Ψ6 n6 x6 => ?_
    refine EW.seq fun Ψ7 n7 x7 => ?_
    rcases hP : plainL o pr 41 (wholeB o) with _ | p
    · skip
      refine EW.region gs_nil ?_
      simp [r2 hP]
      refine n7 _ ?_; clear n7 x7
      refine EW.cond (t := _) (by rfl) (fun hc24 => ?_) (fun hc24 => ?_)
      · clear hc24
        have hv1 : prvE o pr = 13 := by simp only [prvE, proveN, if_pos g1, hP]; rfl
        have hv2 : prvL o pr = [] := by simp only [prvL, proveN, if_pos g1, hP]; rfl
        refine EW.seq fun Ψ8 n8 x8 => ?_
        refine EW.region gs_nil ?_
        simp
        refine n8 _ ?_; clear n8 x8
        refine EW.ret ?_
        refine x6 _ _ rfl ?_; clear n6 x6
        refine ⟨_, _, _, rfl, ?_, ?_, ?_, ?_, ?_⟩ <;> simp [hv1, hv2]
      · simp at hc24
    · skip
      refine EW.region gs_nil ?_
      simp [r1 _ hP]
      refine n7 _ ?_; clear n7 x7
      refine EW.cond (t := _) (by rfl) (fun hc24 => ?_) (fun hc24 => ?_)
      · simp at hc24
      · clear hc24
        have hv1 : prvE o pr = 0 := by simp only [prvE, proveN, if_pos g1, hP]; rfl
        have hv2 : prvL o pr = p := by simp only [prvL, proveN, if_pos g1, hP]; rfl
        refine EW.skip ?_
        refine n6 _ ?_; clear n6 x6
        refine EW.seq fun Ψ9 n9 x9 => ?_
        refine EW.region gs_nil ?_
        simp
        refine n9 _ ?_; clear n9 x9
        refine EW.ret ?_
        refine ⟨_, _, _, rfl, ?_, ?_, ?_, ?_, ?_⟩ <;> simp [hv1, hv2]

end Go.Ev
end
