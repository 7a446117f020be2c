/- Lemmas for the claims of this seat: an evaluator over abstract values, its soundness, and the contracts of the functions of melt that it walks; no premise beyond what each theorem states. -/
import Derived.Test.YtdcelpomnboeoaaLI

section
set_option linter.all false
open Go Go.Ev Go.Proofs
namespace Go.Ev
set_option linter.unusedSimpArgs false
set_option linter.unusedVariables false


/-- What each grab of a blend truly has. -/
def grabL : List (Int × Int) → Int → List Int
  | [], _ => []
  | r :: l, x => inV r.1 r.2 x :: grabL l (inS r.1 r.2 x)
def grabS : List (Int × Int) → Int → Int
  | [], x => x
  | r :: l, x => grabS l (inS r.1 r.2 x)
def repG (g : List (Int × Int)) : Nat → Int → List (List Int)
  | 0, _ => []
  | k + 1, x => grabL g x :: repG g k (grabS g x)
def repS (g : List (Int × Int)) : Nat → Int → Int
  | 0, x => x
  | k + 1, x => repS g k (grabS g x)
def gramL : List MBin → List Int → Int → List (List Int)
  | b :: bs, n :: l, x => repG b.grams n.toNat x ++ gramL bs l (repS b.grams n.toNat x)
  | _, _, _ => []
def gramS : List MBin → List Int → Int → Int
  | b :: bs, n :: l, x => gramS bs l (repS b.grams n.toNat x)
  | _, _, x => x
@[simp] theorem gramL_nil (bs : List MBin) (x : Int) : gramL bs [] x = [] := by cases bs <;> rfl
@[simp] theorem gramS_nil (bs : List MBin) (x : Int) : gramS bs [] x = x := by cases bs <;> rfl
@[simp] theorem grabL_len : ∀ (g : List (Int × Int)) (x : Int), (grabL g x).length = g.length
  | [], _ => rfl
  | r :: g, x => by simp [grabL, grabL_len g]
@[simp] theorem repG_len (g : List (Int × Int)) : ∀ (k : Nat) (x : Int), (repG g k x).length = k
  | 0, _ => rfl
  | k + 1, x => by simp [repG, repG_len g k]
theorem gramL_len : ∀ (bs : List MBin) (l : List Int) (x : Int), (gramL bs l x).length = (gwL bs l).length
  | b :: bs, n :: l, x => by simp [gramL, gwL, gramL_len bs l]
  | [], [], _ => rfl
  | [], _ :: _, _ => rfl
  | _ :: _, [], _ => rfl
def grE0 (l : List Int) (A : List (List Int)) (r : List (Nat × AV)) : List (Nat × AV) := (0, .ptr (.ext 0) 0) :: (2, .sl false false .U .no l.length (eInts l)) :: (4, .ptr (.own 4) 0) :: (7, .sl false false .Z (.tok 50) A.length (eLL A)) :: r
def grS0 (o : MOrd) (l : List Int) (p : Nat × List (List Int) × Int) : St :=
  St.lit 52 (grE0 l p.2.1 [(8, .s (.int .i64 p.1))]) [(4, aOrdC o)] [[.s (.int .u64 p.2.2)]] [(50, (p.2.1.length, 1))]
def grS1 (o : MOrd) (l : List Int) (i : Nat) (p : Nat × List (List Int) × Int) : St :=
  St.lit 52 (grE0 l p.2.1 [(8, .s (.int .i64 i)), (9, .s (.int .i64 p.1))]) [(4, aOrdC o)] [[.s (.int .u64 p.2.2)]] [(50, (p.2.1.length, 1))]
def grS2 (o : MOrd) (l : List Int) (i k : Nat) (A : List (List Int)) (p : Nat × List Int × Int) : St :=
  St.lit 52 (grE0 l A [(8, .s (.int .i64 i)), (9, .s (.int .i64 k)), (11, .s (.int .i64 p.1)), (10, .sl false false .Z (.tok 46) p.2.1.length (eInts p.2.1))]) [(4, aOrdC o)] [[.s (.int .u64 p.2.2)]] [(50, (A.length, 1)), (46, (p.2.1.length, 1))]
attribute [simp] grE0 grS0 grS1 grS2

set_option maxHeartbeats 2000000 in
theorem gramsOf_ok (o : MOrd) (l : List Int) (x : Int) (h1 : o.limits.length < 1000000000) (hb : l.length = o.bins.length) (h2 : l.length < 1000000000) (hn : ∀ n ∈ l, n < 1000000000) (hgl : (gwL o.bins l).length < 1000000000) (hG : ∀ b ∈ o.bins, b.grams.length = o.limits.length) : ACalls Try.prog 26 [.ptr (.ext 0) 0, .agg [.sl false false .U .no o.limits.length (eInts o.limits), .s (.int .i64 o.least), .s (.int .i64 o.most), .sl false false .U .no o.bins.length (eBins o.bins)], .sl false false .U .no l.length (eInts l)] [[.s (.int .u64 x)]] (.ret (.sl false false .Z .no (gramL o.bins l x).length (eLL (gramL o.bins l x))) [[.s (.int .u64 (gramS o.bins l x))]] []) := by
  refine acalls_of_ew Try.func26 rfl rfl (by simp [Try.f26]) (rs := [.tmp 6]) rfl ?_
  refine EW.seq fun Ψ0 n0 x0 => ?_
  refine EW.region gs_nil ?_
  simp
  refine n0 _ ?_; clear n0 x0
  refine EW.seq fun Ψ1 n1 x1 => ?_
  refine EW.region gs_nil ?_
  simp
  refine n1 _ ?_; clear n1 x1
  refine EW.seq fun Ψ2 n2 x2 => ?_
  refine EW.seq fun Ψ3 n3 x3 => ?_
  refine EW.region gs_nil ?_
  simp
  refine n3 _ ?_; clear n3 x3
  refine EW.block ?_
  refine EW.loopA (grS0 o l) (fun p => p.1 ≤ l.length ∧ p.2.1 ++ gramL (o.bins.drop p.1) (l.drop p.1) p.2.2 = gramL o.bins l x ∧ gramS (o.bins.drop p.1) (l.drop p.1) p.2.2 = gramS o.bins l x) (fun p => l.length - p.1) (0, [], x) (St.le_lit rfl (by simp) (by simp) (by simp) (by simp) (by simp)) ?_ fun p hk => ?_
  · simp
  obtain ⟨i, A, y⟩ := p
  obtain ⟨hk, wA, wS⟩ := hk
  simp only at hk wA wS
  refine EW.seq fun Ψ4 n4 x4 => ?_
  refine EW.seq fun Ψ5 n5 x5 => ?_
  refine EW.region gs_nil ?_
  simp
  refine n5 _ ?_; clear n5 x5
  refine EW.cond (t := _) (by rfl) (fun hc15 => ?_) (fun hc15 => ?_)
  · simp at hc15
    have hib : i < o.bins.length := by omega
    have e2 : o.bins[i]? = some o.bins[i] := List.getElem?_eq_getElem hib
    have e4 : l[i]? = some l[i] := List.getElem?_eq_getElem hc15
    have hni := hn l[i] (List.getElem_mem hc15)
    have hgl2 : o.bins[i].grams.length = o.limits.length := hG _ (List.getElem_mem hib)
    refine EW.skip ?_
    refine n4 _ ?_; clear n4 x4
    refine EW.seq fun Ψ6 n6 x6 => ?_
    refine EW.block ?_
    refine EW.seq fun Ψ7 n7 x7 => ?_
    refine EW.region gs_nil ?_
    simp
    refine n7 _ ?_; clear n7 x7
    refine EW.block ?_
    refine EW.loopA (grS1 o l i) (fun p => (p.1 : Int) ≤ max 0 l[i] ∧ p.2.1 ++ (repG o.bins[i].grams (l[i].toNat - p.1) p.2.2 ++ gramL (o.bins.drop (i + 1)) (l.drop (i + 1)) (repS o.bins[i].grams (l[i].toNat - p.1) p.2.2)) = gramL o.bins l x ∧ gramS (o.bins.drop (i + 1)) (l.drop (i + 1)) (repS o.bins[i].grams (l[i].toNat - p.1) p.2.2) = gramS o.bins l x) (fun p => l[i].toNat - p.1) (0, A, y) (St.le_lit rfl (by simp) (by simp) (by simp) (by simp) (by simp)) ?_ fun p hk => ?_
    · rw [List.drop_eq_getElem_cons hib, List.drop_eq_getElem_cons hc15] at wA wS; exact ⟨by simp; omega, by simpa [gramL] using wA, by simpa [gramS] using wS⟩
    obtain ⟨n, A2, y2⟩ := p
    obtain ⟨hk2, vA, vS⟩ := hk
    simp only at hk2 vA vS
    refine EW.seq fun Ψ8 n8 x8 => ?_
    refine EW.seq fun Ψ9 n9 x9 => ?_
    refine EW.region gs_nil ?_
    simp [hc15, e4]
    refine n9 _ ?_; clear n9 x9
    refine EW.cond (t := _) (by rfl) (fun hc23 => ?_) (fun hc23 => ?_)
    · simp at hc23
      have hr : l[i].toNat - n = (l[i].toNat - (n + 1)) + 1 := by omega
      have zA : A2.length < 1000000000 := by have := congrArg List.length vA; have z := gramL_len o.bins l x; simp at this; omega
      refine EW.skip ?_
      refine n8 _ ?_; clear n8 x8
      refine EW.seq fun Ψ10 n10 x10 => ?_
      refine EW.block ?_
      refine EW.seq fun Ψ11 n11 x11 => ?_
      refine EW.region gs_nil ?_
      simp
      refine n11 _ ?_; clear n11 x11
      refine EW.seq fun Ψ12 n12 x12 => ?_
      refine EW.seq fun Ψ13 n13 x13 => ?_
      refine EW.region gs_nil ?_
      simp
      refine n13 _ ?_; clear n13 x13
      refine EW.block ?_
      refine EW.loopA (grS2 o l i n A2) (fun p => p.1 ≤ o.limits.length ∧ p.2.1.length = p.1 ∧ p.2.1 ++ grabL (o.bins[i].grams.drop p.1) p.2.2 = grabL o.bins[i].grams y2 ∧ grabS (o.bins[i].grams.drop p.1) p.2.2 = grabS o.bins[i].grams y2) (fun p => o.limits.length - p.1) (0, [], y2) (St.le_lit rfl (by simp) (by simp) (by simp) (by simp) (by simp)) ?_ fun p hk => ?_
      · simp
      obtain ⟨j, a, z⟩ := p
      obtain ⟨hk3, na, ua, us⟩ := hk
      simp only at hk3 na ua us
      refine EW.seq fun Ψ14 n14 x14 => ?_
      refine EW.seq fun Ψ15 n15 x15 => ?_
      refine EW.region gs_nil ?_
      simp
      refine n15 _ ?_; clear n15 x15
      refine EW.cond (t := _) (by rfl) (fun hc30 => ?_) (fun hc30 => ?_)
      · simp at hc30
        have hjg : j < o.bins[i].grams.length := by omega
        have e5 : o.bins[i].grams[j]? = some o.bins[i].grams[j] := List.getElem?_eq_getElem hjg
        refine EW.skip ?_
        refine n14 _ ?_; clear n14 x14
        refine EW.seq fun Ψ16 n16 x16 => ?_
        refine EW.block ?_
        refine EW.hide fun Ψ17 n17 => ?_
        refine EW.region (gG_ok gs_nil) ?_
        simp [hib, hjg, e2, e5, na, eRngs_atm _ _ _ _ _ e5, show 2 ≤ o.bins[i].grams.length * 2 - j * 2 by omega, show (j + 1) * 8 ≤ 140737488355328 by omega]
        refine n17 _ _ ?_; clear n17
        refine n16 _ ?_; clear n16 x16
        refine EW.hide fun Ψ18 n18 => ?_
        refine EW.region gs_nil ?_
        simp
        refine n18 _ _ ?_; clear n18
        have e3 : IntKind.i64.wrap ((j : Int) + 1) = j + 1 := wr_small (by omega) (by omega)
        refine ⟨(j + 1, a ++ [inV o.bins[i].grams[j].1 o.bins[i].grams[j].2 z], inS o.bins[i].grams[j].1 o.bins[i].grams[j].2 z), (St.le_lit rfl (by simp [e3, na]) (by simp [na]) (by simp) (by simp [na]) (by simp [na])), ?_, ?_⟩
        · refine ⟨by omega, by simp [na], ?_, ?_⟩
          · rw [← ua, List.drop_eq_getElem_cons hjg, grabL, List.append_assoc]; rfl
          · rw [← us, List.drop_eq_getElem_cons hjg, grabS]
        · simp; omega
      · simp at hc30
        have hkl : j = o.limits.length := by omega
        have hd : o.bins[i].grams.drop j = [] := List.drop_eq_nil_of_le (by omega)
        rw [hd] at ua us
        simp [grabL, grabS] at ua us
        refine EW.exit ?_
        refine x14 _ _ rfl ?_; clear n14 x14
        refine n12 _ ?_; clear n12 x12
        refine EW.hide fun Ψ19 n19 => ?_
        refine EW.region gs_nil ?_
        simp [eLL_app1, show (A2.length + 1) * 24 ≤ 140737488355328 by omega]
        refine n19 _ _ ?_; clear n19
        refine n10 _ ?_; clear n10 x10
        refine EW.hide fun Ψ20 n20 => ?_
        refine EW.region gs_nil ?_
        simp
        refine n20 _ _ ?_; clear n20
        have e3 : IntKind.i64.wrap ((n : Int) + 1) = n + 1 := wr_small (by omega) (by omega)
        refine ⟨(n + 1, A2 ++ [grabL o.bins[i].grams y2], grabS o.bins[i].grams y2), (St.le_lit rfl (by simp [e3, ua]) (by simp) (by simp [us]) (by simp) (by simp)), ?_, ?_⟩
        · refine ⟨by omega, ?_, ?_⟩
          · rw [← vA, hr, repG, repS]; simp
          · rw [← vS, hr, repS]
        · simp; omega
    · simp at hc23
      have hkl : l[i].toNat - n = 0 := by omega
      rw [hkl] at vA vS
      simp only [repG, repS, List.nil_append] at vA vS
      refine EW.exit ?_
      refine x8 _ _ rfl ?_; clear n8 x8
      refine n6 _ ?_; clear n6 x6
      refine EW.hide fun Ψ21 n21 => ?_
      refine EW.region gs_nil ?_
      simp
      refine n21 _ _ ?_; clear n21
      have e3 : IntKind.i64.wrap ((i : Int) + 1) = i + 1 := wr_small (by omega) (by omega)
      refine ⟨(i + 1, A2, y2), (St.le_lit rfl (by simp [e3]) (by simp) (by simp) (by simp) (by simp)), ?_, ?_⟩
      · exact ⟨by omega, vA, vS⟩
      · simp; omega
  · simp at hc15
    have hkl : i = l.length := by omega
    subst hkl
    simp at wA wS
    refine EW.exit ?_
    refine x4 _ _ rfl ?_; clear n4 x4
    refine n2 _ ?_; clear n2 x2
    refine EW.seq fun Ψ22 n22 x22 => ?_
    refine EW.region gs_nil ?_
    simp
    refine n22 _ ?_; clear n22 x22
    refine EW.ret ?_
    refine ⟨_, _, _, rfl, ?_, ?_, ?_, ?_, ?_⟩ <;> simp [wA, wS]


theorem grab_in : ∀ (g : List (Int × Int)) (x : Int) (j : Nat), (∀ r ∈ g, 0 ≤ r.1 ∧ r.1 ≤ r.2 ∧ r.2 ≤ 1000000) → (g.getD j (0, 0)).1 ≤ (grabL g x).getD j 0 ∧ (grabL g x).getD j 0 ≤ (g.getD j (0, 0)).2
  | [], x, j, _ => by simp [grabL]
  | r :: g, x, 0, h => by
    have k := h r (by simp)
    have q := inV_in r.1 r.2 x k.2.1 (by omega) (by omega)
    rw [grabL, List.getD_cons_zero, List.getD_cons_zero]
    exact q
  | r :: g, x, j + 1, h => by
    have q := grab_in g (inS r.1 r.2 x) j fun s hs => h s (by simp [hs])
    rw [grabL, List.getD_cons_succ, List.getD_cons_succ]
    exact q
theorem repG_in (j : Nat) (g : List (Int × Int)) (h : ∀ r ∈ g, 0 ≤ r.1 ∧ r.1 ≤ r.2 ∧ r.2 ≤ 1000000) : ∀ (k : Nat) (x : Int), leG j (List.replicate k (g.map (endR false))) (repG g k x) ∧ leG j (repG g k x) (List.replicate k (g.map (endR true)))
  | 0, _ => ⟨trivial, trivial⟩
  | k + 1, x => by
    have a := grab_in g x j h
    have b := repG_in j g h k (grabS g x)
    rw [List.replicate_succ, List.replicate_succ, repG]
    refine ⟨⟨?_, b.1⟩, ⟨?_, b.2⟩⟩
    · rw [endR_getD]; exact a.1
    · rw [endR_getD]; exact a.2
theorem gramL_in (j nl : Nat) : ∀ (bs : List MBin) (l : List Int) (x : Int), (∀ b ∈ bs, OkB nl b) → leG j (endG false bs l) (gramL bs l x) ∧ leG j (gramL bs l x) (endG true bs l)
  | b :: bs, n :: l, x, h => by
    have a := repG_in j b.grams (h b (by simp)).rng n.toNat x
    have c := gramL_in j nl bs l (repS b.grams n.toNat x) fun c hc => h c (by simp [hc])
    exact ⟨leG_app a.1 c.1, leG_app a.2 c.2⟩
  | [], [], _, _ => ⟨trivial, trivial⟩
  | [], _ :: _, _, _ => ⟨trivial, trivial⟩
  | _ :: _, [], _, _ => by simp [leG]
theorem leG_sz {j : Nat} : ∀ {A B C : List (List Int)}, leG j A B → leG j B C → (∀ g ∈ A, 0 ≤ g.getD j 0) → (∀ g ∈ C, g.getD j 0 ≤ 1000000) → ∀ g ∈ B, 0 ≤ g.getD j 0 ∧ g.getD j 0 ≤ 1000000
  | [], [], _, _, _, _, _, g, hg => by cases hg
  | a :: A, b :: B, c :: C, h, h', ha, hc, g, hg => by
    rcases List.mem_cons.1 hg with rfl | hg
    · have := ha a (by simp); have := hc c (by simp); have := h.1; have := h'.1; omega
    · exact leG_sz h.2 h'.2 (fun x hx => ha x (by simp [hx])) (fun x hx => hc x (by simp [hx])) g hg
  | [], _ :: _, _, h, _, _, _, _, _ => h.elim
  | _ :: _, [], _, h, _, _, _, _, _ => h.elim
  | _ :: _, _ :: _, [], _, h', _, _, _, _ => h'.elim
theorem gramL_mem : ∀ (bs : List MBin) (l : List Int) (x : Int) (nl : Nat), (∀ b ∈ bs, OkB nl b) → ∀ g ∈ gramL bs l x, g.length = nl
  | b :: bs, n :: l, x, nl, h, g, hg => by
    rw [gramL, List.mem_append] at hg
    rcases hg with hg | hg
    · rw [rep_mem _ _ _ g hg]; exact (h b (by simp)).len
    · exact gramL_mem bs l _ nl (fun c hc => h c (by simp [hc])) g hg
  | [], [], _, _, _, g, hg => by simp at hg
  | [], _ :: _, _, _, _, g, hg => by simp [gramL] at hg
  | _ :: _, [], _, _, _, g, hg => by simp at hg
where rep_mem : ∀ (g : List (Int × Int)) (k : Nat) (x : Int), ∀ a ∈ repG g k x, a.length = g.length
  | g, 0, x, a, ha => by cases ha
  | g, k + 1, x, a, ha => by
    rcases List.mem_cons.1 ha with rfl | ha
    · simp
    · exact rep_mem g k _ a ha
theorem gram_in {o : MOrd} (k : OkO o) (l : List Int) (x : Int) : inG o l (gramL o.bins l x) where
  lo := fun j => (gramL_in j _ _ _ _ k.bin).1
  hi := fun j => (gramL_in j _ _ _ _ k.bin).2
  sz := fun j => leG_sz (gramL_in j _ _ _ _ k.bin).1 (gramL_in j _ _ _ _ k.bin).2 (fun g hg => (endG_sz false j _ _ _ k.bin g hg).1) (fun g hg => (endG_sz true j _ _ _ k.bin g hg).2)
theorem gram_gs {o : MOrd} (k : OkO o) (l : List Int) (x : Int) : okGs o l (gramL o.bins l x) := ⟨gramL_len _ _ _, gramL_mem _ _ _ _ k.bin⟩
def trS (o : MOrd) (l : List Int) (v : Int) (p : Nat × Int) : St :=
  St.lit 58 [(3, .ptr (.own 12006) 0), (4, .ptr (.own 4) 0), (5, .sl false false .U .no l.length (eInts l)), (6, .s (.int .i64 v)), (7, .s (.int .i64 0)), (8, .s (.int .i64 p.1))] [(12006, [.s (.int .u64 p.2)]), (4, aOrdC o)] [] []
attribute [simp] trS

set_option maxHeartbeats 4000000 in
theorem true_ok (nums : List Int) (hl : (nums.length : Int) < 9223372036854775807) (o : MOrd) (l : List Int) (ho : o = ordOf 4 3 5 (feedS nums)) (hbl : l = blendL o.bins (ordS 4 3 5 (feedS nums))) (k : OkO o) (kb : okBl o l)
  (e0 : blendErr o l = 0) (v1 : 1 ≤ keepV o l ∧ keepV o l ≤ 3) (hg : (gwL o.bins l).length < 1000000) : ACalls Try.prog 4 [.sl false false .U .no nums.length (eInts nums)] [] (.ret (.s (.bool true)) [] []) := by
  have c1 := orderOf_ok 4 3 5 (feedS nums) (by decide) (by decide)
  rw [← ho] at c1
  have c2 := blendOf_ok_ o (ordS 4 3 5 (feedS nums)) (by have := k.nb; omega)
  rw [← hbl] at c2
  have hlb := kb.1
  have hnb := k.nb
  have hnl := k.nl
  have hn : ∀ n ∈ l, n < 1000000000 := by
    intro n hn
    have := kb.pos k n hn
    omega
  have w1 : ¬ keepV o l < 1 := by omega
  have w2 : ¬ 3 < keepV o l := by omega
  refine acalls_of_ew Try.func4 rfl rfl (by simp [Try.f4]) (rs := [.tmp 2]) rfl ?_
  refine EW.seq fun Ψ0 n0 x0 => ?_
  refine EW.region gs_nil ?_
  simp
  refine n0 _ ?_; clear n0 x0
  refine EW.seq fun Ψ1 n1 x1 => ?_
  refine EW.region (gs_cons (feedOf_ok nums hl) gs_nil) ?_
  simp
  refine n1 _ ?_; clear n1 x1
  refine EW.seq fun Ψ2 n2 x2 => ?_
  refine EW.region (gs_cons c1 gs_nil) ?_
  simp
  refine n2 _ ?_; clear n2 x2
  refine EW.seq fun Ψ3 n3 x3 => ?_
  refine EW.region (gs_cons c2 gs_nil) ?_
  simp
  refine n3 _ ?_; clear n3 x3
  refine EW.seq fun Ψ4 n4 x4 => ?_
  refine EW.region (gs_cons (Keeps_ok o l k.sz (by omega)) gs_nil) ?_
  simp [e0]
  refine n4 _ ?_; clear n4 x4
  refine EW.seq fun Ψ5 n5 x5 => ?_
  refine EW.seq fun Ψ6 n6 x6 => ?_
  refine EW.region gs_nil ?_
  simp [e0, w1, w2]
  refine n6 _ ?_; clear n6 x6
  refine EW.cond (t := _) (by rfl) (fun hc32 => ?_) (fun hc32 => ?_)
  · simp at hc32
  · simp at hc32
    refine EW.skip ?_
    refine n5 _ ?_; clear n5 x5
    refine EW.seq fun Ψ7 n7 x7 => ?_
    refine EW.seq fun Ψ8 n8 x8 => ?_
    refine EW.region gs_nil ?_
    simp
    refine n8 _ ?_; clear n8 x8
    refine EW.block ?_
    refine EW.loopA (trS o l (keepV o l)) (fun p => p.1 ≤ 8) (fun p => 8 - p.1) (0, blendS o.bins (ordS 4 3 5 (feedS nums))) (St.le_lit rfl (by simp) (by simp) (by simp) (by simp) (by simp)) ?_ fun p hk => ?_
    · simp
    obtain ⟨r, y⟩ := p
    simp only at hk
    have gs := gram_gs k l y
    have gi := gram_in k l y
    refine EW.seq fun Ψ9 n9 x9 => ?_
    refine EW.seq fun Ψ10 n10 x10 => ?_
    refine EW.region gs_nil ?_
    simp
    refine n10 _ ?_; clear n10 x10
    refine EW.cond (t := _) (by rfl) (fun hc34 => ?_) (fun hc34 => ?_)
    · simp at hc34
      refine EW.skip ?_
      refine n9 _ ?_; clear n9 x9
      refine EW.seq fun Ψ11 n11 x11 => ?_
      refine EW.block ?_
      refine EW.seq fun Ψ12 n12 x12 => ?_
      refine EW.drawn [(0, 5)] mixed (gAlt_sound (f := 25) (gKp_ok o l (by omega) hlb (by omega) hn (by omega)) (gs_cons (gramsOf_ok o l y (by omega) hlb (by omega) hn (by omega) (fun b hb => (k.bin b hb).len)) gs_nil)) (by kernel_rfl) ?_
      simp [gs]
      refine n12 _ ?_; clear n12 x12
      refine EW.seq fun Ψ13 n13 x13 => ?_
      rcases (show keepV o l = 1 ∨ keepV o l = 2 ∨ keepV o l = 3 by omega) with hv | hv | hv
      · skip
        have q := kept_1 k kb gi hv
        refine EW.region gs_nil ?_
        simp [hv, q]
        refine n13 _ ?_; clear n13 x13
        refine EW.cond (t := _) (by rfl) (fun hc56 => ?_) (fun hc56 => ?_)
        · simp at hc56
        · simp at hc56
          refine EW.skip ?_
          refine n11 _ ?_; clear n11 x11
          refine EW.hide fun Ψ14 n14 => ?_
          refine EW.region gs_nil ?_
          simp
          refine n14 _ _ ?_; clear n14
          have e3 : IntKind.i64.wrap ((r : Int) + 1) = r + 1 := wr_small (by omega) (by omega)
          refine ⟨(r + 1, gramS o.bins l y), (St.le_lit rfl (by simp [e3, hv]) (by simp) (by simp) (by simp) (by simp)), ?_, ?_⟩
          · simp; omega
          · simp; omega
      · skip
        have q := kept_2 k kb gi hv
        refine EW.region gs_nil ?_
        simp [hv, q]
        refine n13 _ ?_; clear n13 x13
        refine EW.cond (t := _) (by rfl) (fun hc56 => ?_) (fun hc56 => ?_)
        · simp at hc56
        · simp at hc56
          refine EW.skip ?_
          refine n11 _ ?_; clear n11 x11
          refine EW.hide fun Ψ15 n15 => ?_
          refine EW.region gs_nil ?_
          simp
          refine n15 _ _ ?_; clear n15
          have e3 : IntKind.i64.wrap ((r : Int) + 1) = r + 1 := wr_small (by omega) (by omega)
          refine ⟨(r + 1, gramS o.bins l y), (St.le_lit rfl (by simp [e3, hv]) (by simp) (by simp) (by simp) (by simp)), ?_, ?_⟩
          · simp; omega
          · simp; omega
      · skip
        refine EW.region gs_nil ?_
        simp [hv]
        refine n13 _ ?_; clear n13 x13
        refine EW.cond (t := _) (by rfl) (fun hc56 => ?_) (fun hc56 => ?_)
        · simp at hc56
        · simp at hc56
          refine EW.skip ?_
          refine n11 _ ?_; clear n11 x11
          refine EW.hide fun Ψ16 n16 => ?_
          refine EW.region gs_nil ?_
          simp
          refine n16 _ _ ?_; clear n16
          have e3 : IntKind.i64.wrap ((r : Int) + 1) = r + 1 := wr_small (by omega) (by omega)
          refine ⟨(r + 1, gramS o.bins l y), (St.le_lit rfl (by simp [e3, hv]) (by simp) (by simp) (by simp) (by simp)), ?_, ?_⟩
          · simp; omega
          · simp; omega
    · simp at hc34
      refine EW.exit ?_
      refine x9 _ _ rfl ?_; clear n9 x9
      refine n7 _ ?_; clear n7 x7
      refine EW.seq fun Ψ17 n17 x17 => ?_
      refine EW.region (gs_cons alive_ok gs_nil) ?_
      simp
      refine n17 _ ?_; clear n17 x17
      refine EW.ret ?_
      refine ⟨_, _, _, rfl, ?_, ?_, ?_, ?_, ?_⟩ <;> simp


theorem MeltTrue_ok (nums : List Int) (hl : (nums.length : Int) < 9223372036854775807) : ACalls Try.prog 4 [.sl false false .U .no nums.length (eInts nums)] [] (.ret (.s (.bool true)) [] []) := by
  have k := (made 4 3 5 (feedS nums) (by decide) (by decide) (by decide)).ok (by decide) (by decide) (by decide)
  have kb := blendL_ok k (ordS 4 3 5 (feedS nums))
  exact true_ok nums hl _ _ rfl rfl k kb (blendErr_0 k kb) (keepL_in _ _ _ _ _ (Or.inl rfl)) (gw_lt k kb)

end Go.Ev
end
