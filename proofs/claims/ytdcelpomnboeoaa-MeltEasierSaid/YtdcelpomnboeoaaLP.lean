/- Lemmas for the claims of this seat: an evaluator over abstract values, its soundness, and the contracts of the functions of melt that it walks; no premise beyond what each theorem states. -/
import Derived.Test.YtdcelpomnboeoaaKE
import Derived.Test.YtdcelpomnboeoaaLA
import Derived.Test.YtdcelpomnboeoaaLG
import Derived.Test.YtdcelpomnboeoaaLH
import Derived.Test.YtdcelpomnboeoaaLO

section
set_option linter.all false
open Go Go.Ev Go.Proofs
namespace Go.Ev
set_option linter.unusedSimpArgs false
set_option linter.unusedVariables false
/-! ### Numbers in cells that are turned -/
def aInts (l : List Int) : List AV := l.map fun i => .s (.int .i64 i)
@[simp] theorem map_eInts (g f : Bool) (l : List Int) : (eInts l).map (D.av g f) = aInts l := by
  induction l with
  | nil => rfl
  | cons i l ih => simp only [eInts, aInts, List.map_cons] at ih ⊢; rw [ih]; rfl
@[simp] theorem aInts_len (l : List Int) : (aInts l).length = l.length := by simp [aInts]
@[simp] theorem aInts_empty (l : List Int) : (aInts l).isEmpty = l.isEmpty := by cases l <;> rfl
@[simp] theorem aInts_nil (l : List Int) : (aInts l = []) ↔ (l = []) := by cases l <;> simp [aInts]
@[simp] theorem mem_aInts {x : AV} {l : List Int} : x ∈ aInts l ↔ ∃ i, i ∈ l ∧ AV.s (.int .i64 i) = x := by simp [aInts]
@[simp high] theorem aInts_noMen (d : Nat) (l : List Int) : noMen d (aInts l) = true := by
  unfold noMen
  refine List.all_eq_true.2 fun x hx => ?_
  obtain ⟨i, _, rfl⟩ := List.mem_map.1 hx
  rfl
@[simp] theorem aInts_noMen' (d : Nat) (l : List Int) : ((aInts l).all fun x => !decide (Ref.own d ∈ x.refs)) = true := aInts_noMen d l
@[simp] theorem aInts_purge (d : Nat) (l : List Int) : (aInts l).map (purgeAV d) = aInts l := by
  unfold aInts
  rw [List.map_map]
  rfl
@[simp] theorem aInts_isCell (l : List Int) : (aInts l).all AV.isCell = true := by
  refine List.all_eq_true.2 fun x hx => ?_
  obtain ⟨i, _, rfl⟩ := List.mem_map.1 hx
  rfl
@[simp] theorem aInts_mapRef (ρ : Ref → Option Ref) (l : List Int) : mapRefL ρ (aInts l) = aInts l := by
  induction l with
  | nil => rfl
  | cons i l ih => simp only [aInts, List.map_cons, mapRefL] at ih ⊢; rw [ih]; rfl
@[simp] theorem aInts_asObj (l : List Int) : asObjL (aInts l) = aInts l := by
  induction l with
  | nil => rfl
  | cons i l ih => simp only [aInts, List.map_cons, asObjL] at ih ⊢; rw [ih]; rfl
@[simp] theorem aInts_asArg (l : List Int) : asArgL (aInts l) = aInts l := by
  induction l with
  | nil => rfl
  | cons i l ih => simp only [aInts, List.map_cons, asArgL] at ih ⊢; rw [ih]; rfl
@[simp] theorem aInts_refs (l : List Int) : refsL (aInts l) = [] := by
  induction l with
  | nil => rfl
  | cons i l ih => simp only [aInts, List.map_cons, refsL] at ih ⊢; rw [ih]; rfl
@[simp] theorem aInts_toDs (l : List Int) : toDs? (aInts l) = some (eInts l, true) := by
  induction l with
  | nil => rfl
  | cons i l ih => simp only [aInts, List.map_cons, toDs?] at ih ⊢; rw [ih]; rfl
@[simp] theorem aInts_okIn (R : Ref → Bool) (T : Nat → Bool) (l : List Int) : okInL R T (aInts l) = true := by
  induction l with
  | nil => rfl
  | cons i l ih => simp only [aInts, List.map_cons, okInL] at ih ⊢; rw [ih]; rfl
@[simp high] theorem aInts_put {l : List Int} {i : Nat} {v : Int} (h : i < l.length) : putAt (aInts l) i [.s (.int .i64 v)] = aInts (l.set i v) := by
  unfold aInts putAt
  rw [List.set_eq_take_append_cons_drop, if_pos h]
  simp

@[simp] theorem aInts_put' {l : List Int} {i : Nat} {v : Int} (h : i < l.length) : List.take i (aInts l) ++ AV.s (.int .i64 v) :: List.drop (i + 1) (aInts l) = aInts (l.set i v) := by
  rw [← aInts_put h]; simp [putAt]
theorem intsM_ok (l : List Int) (hl : (l.length : Int) < 1000000000) : ACalls Try.prog 30 [.sl false false .U .no l.length (eInts l)] [] (.ret (.sm (.own 5) l.length .no) [] [(5, aInts l)]) := by
  refine acalls_of_ew Try.func30 rfl rfl (by simp [Try.f30]) (rs := [.tmp 2]) rfl ?_
  refine EW.seq fun Ψ0 n0 x0 => ?_
  refine EW.region gs_nil ?_
  simp
  refine n0 _ ?_; clear n0 x0
  refine EW.seq fun Ψ1 n1 x1 => ?_
  refine EW.region (gs_mut (d := 5) (o := .pan undef) gs_nil) ?_
  simp [show l.length * 8 ≤ 140737488355328 by omega]
  refine n1 _ ?_; clear n1 x1
  refine EW.ret ?_
  refine ⟨_, _, _, rfl, ?_, ?_, ?_, ?_, ?_⟩ <;> simp
end Go.Ev
end

section
set_option linter.all false
open Go Go.Ev Go.Proofs
namespace Go.Ev
set_option linter.unusedSimpArgs false
set_option linter.unusedVariables false

set_option maxRecDepth 100000

/-- A proof of one reason, as the feed makes it, and the feed behind it. -/
def leafP (o : MOrd) (s : Int) : List MBd × Int :=
  if betV 2 5 s = 4 then ([⟨betV 2 5 s, belV o.limits.length (betS 2 5 s), 0⟩], belS o.limits.length (betS 2 5 s)) else ([⟨betV 2 5 s, 0, 0⟩], betS 2 5 s)

set_option maxHeartbeats 4000000 in
theorem any_step (o : MOrd) (pr s : Int) (lo hi : List Int) (i : Nat) (A B R : List MBd × Int) (hb : o.bins.length < 1000000) (hl : o.limits.length < 1000000) (hi1 : belV o.bins.length s = (i : Int)) (h1 : i < lo.length) (h2 : i < hi.length) (hll : lo.length < 1000) (hhl : hi.length < 1000)
    (g1 : 0 ≤ lo[i]) (g2 : lo[i] ≤ hi[i]) (g3 : hi[i] ≤ 6)
    (hN : ¬ lo[i] = hi[i] → ¬ belV 5 (belS o.bins.length s) < 2 → A.1.length < 100000 ∧ B.1.length < 100000 ∧ ACalls Try.prog 45 [.ptr (.ext 0) 0, .agg [.sl false false .U .no o.limits.length (eInts o.limits), .s (.int .i64 o.least), .s (.int .i64 o.most), .sl false false .U .no o.bins.length (eBins o.bins)], .sl false false .U .no lo.length (eInts lo), .sl false false .U .no (hi.set i (betV lo[i] (hi[i] - 1) (belS 5 (belS o.bins.length s)))).length (eInts (hi.set i (betV lo[i] (hi[i] - 1) (belS 5 (belS o.bins.length s))))), .s (.int .i64 pr)] [[.s (.int .u64 (betS lo[i] (hi[i] - 1) (belS 5 (belS o.bins.length s))))]] (.ret (.sl true true .E .no A.1.length (eBds A.1)) [[.s (.int .u64 A.2)]] []) ∧ ACalls Try.prog 45 [.ptr (.ext 0) 0, .agg [.sl false false .U .no o.limits.length (eInts o.limits), .s (.int .i64 o.least), .s (.int .i64 o.most), .sl false false .U .no o.bins.length (eBins o.bins)], .sl false false .U .no (lo.set i ((betV lo[i] (hi[i] - 1) (belS 5 (belS o.bins.length s))) + 1)).length (eInts (lo.set i ((betV lo[i] (hi[i] - 1) (belS 5 (belS o.bins.length s))) + 1))), .sl false false .U .no hi.length (eInts hi), .s (.int .i64 pr)] [[.s (.int .u64 A.2)]] (.ret (.sl true true .E .no B.1.length (eBds B.1)) [[.s (.int .u64 B.2)]] []))
    (hR : R = if lo[i] = hi[i] then leafP o (belS o.bins.length s) else if belV 5 (belS o.bins.length s) < 2 then leafP o (belS 5 (belS o.bins.length s)) else (⟨1, i, (betV lo[i] (hi[i] - 1) (belS 5 (belS o.bins.length s)))⟩ :: (A.1 ++ B.1), B.2)) :
    ACalls Try.prog 45 [.ptr (.ext 0) 0, .agg [.sl false false .U .no o.limits.length (eInts o.limits), .s (.int .i64 o.least), .s (.int .i64 o.most), .sl false false .U .no o.bins.length (eBins o.bins)], .sl false false .U .no lo.length (eInts lo), .sl false false .U .no hi.length (eInts hi), .s (.int .i64 pr)] [[.s (.int .u64 s)]] (.ret (.sl true true .E .no R.1.length (eBds R.1)) [[.s (.int .u64 R.2)]] []) := by
  have e1 : lo[i]? = some lo[i] := List.getElem?_eq_getElem h1
  have e2 : hi[i]? = some hi[i] := List.getElem?_eq_getElem h2
  have hz1 : ¬ lo = [] := by intro h; rw [h] at h1; simp at h1
  have hz2 : ¬ hi = [] := by intro h; rw [h] at h2; simp at h2
  refine acalls_of_ew Try.func45 rfl rfl (by simp [Try.f45]) (rs := [.tmp 10]) rfl ?_
  refine EW.seq fun Ψ0 n0 x0 => ?_
  refine EW.region gs_nil ?_
  simp
  refine n0 _ ?_; clear n0 x0
  refine EW.seq fun Ψ1 n1 x1 => ?_
  refine EW.region (gG_ok gs_nil) ?_
  simp [hi1, show (o.bins.length : Int) < 9223372036854775808 by omega]
  refine n1 _ ?_; clear n1 x1
  refine EW.seq fun Ψ2 n2 x2 => ?_
  refine EW.seq fun Ψ3 n3 x3 => ?_
  by_cases e0 : lo[i] = hi[i]
  · skip
    refine EW.drawn [] mixed (gG_ok gs_nil) (by kernel_rfl) ?_
    simp [h1, h2, e1, e2, e0]
    refine n3 _ ?_; clear n3 x3
    refine EW.cond (t := _) (by rfl) (fun hc33 => ?_) (fun hc33 => ?_)
    · clear hc33
      rw [if_pos e0] at hR
      refine EW.seq fun Ψ4 n4 x4 => ?_
      refine EW.region (gG_ok gs_nil) ?_
      simp
      refine n4 _ ?_; clear n4 x4
      refine EW.seq fun Ψ5 n5 x5 => ?_
      refine EW.seq fun Ψ6 n6 x6 => ?_
      refine EW.region gs_nil ?_
      simp
      refine n6 _ ?_; clear n6 x6
      refine EW.cond (t := _) (by rfl) (fun hc39 => ?_) (fun hc39 => ?_)
      · simp at hc39
        rw [leafP, if_pos hc39] at hR
        refine EW.region (gG_ok gs_nil) ?_
        simp [show (o.limits.length : Int) < 9223372036854775808 by omega]
        refine n5 _ ?_; clear n5 x5
        refine EW.seq fun Ψ7 n7 x7 => ?_
        refine EW.region gs_nil ?_
        simp
        refine n7 _ ?_; clear n7 x7
        refine EW.ret ?_
        refine x2 _ _ rfl ?_; clear n2 x2
        refine ⟨_, _, _, rfl, ?_, ?_, ?_, ?_, ?_⟩ <;> simp [hR] <;> omega
      · simp at hc39
        rw [leafP, if_neg hc39] at hR
        refine EW.skip ?_
        refine n5 _ ?_; clear n5 x5
        refine EW.seq fun Ψ8 n8 x8 => ?_
        refine EW.region gs_nil ?_
        simp
        refine n8 _ ?_; clear n8 x8
        refine EW.ret ?_
        refine x2 _ _ rfl ?_; clear n2 x2
        refine ⟨_, _, _, rfl, ?_, ?_, ?_, ?_, ?_⟩ <;> simp [hR] <;> omega
    · simp at hc33
  · skip
    refine EW.drawn [] mixed (gG_ok gs_nil) (by kernel_rfl) ?_
    simp [h1, h2, e1, e2, e0]
    refine n3 _ ?_; clear n3 x3
    refine EW.cond (t := _) (by rfl) (fun hc33 => ?_) (fun hc33 => ?_)
    · have g5 : belV 5 (belS o.bins.length s) < 2 := by simpa using hc33
      rw [if_neg e0, if_pos g5] at hR
      refine EW.seq fun Ψ9 n9 x9 => ?_
      refine EW.region (gG_ok gs_nil) ?_
      simp
      refine n9 _ ?_; clear n9 x9
      refine EW.seq fun Ψ10 n10 x10 => ?_
      refine EW.seq fun Ψ11 n11 x11 => ?_
      refine EW.region gs_nil ?_
      simp
      refine n11 _ ?_; clear n11 x11
      refine EW.cond (t := _) (by rfl) (fun hc39 => ?_) (fun hc39 => ?_)
      · simp at hc39
        rw [leafP, if_pos hc39] at hR
        refine EW.region (gG_ok gs_nil) ?_
        simp [show (o.limits.length : Int) < 9223372036854775808 by omega]
        refine n10 _ ?_; clear n10 x10
        refine EW.seq fun Ψ12 n12 x12 => ?_
        refine EW.region gs_nil ?_
        simp
        refine n12 _ ?_; clear n12 x12
        refine EW.ret ?_
        refine x2 _ _ rfl ?_; clear n2 x2
        refine ⟨_, _, _, rfl, ?_, ?_, ?_, ?_, ?_⟩ <;> simp [hR] <;> omega
      · simp at hc39
        rw [leafP, if_neg hc39] at hR
        refine EW.skip ?_
        refine n10 _ ?_; clear n10 x10
        refine EW.seq fun Ψ13 n13 x13 => ?_
        refine EW.region gs_nil ?_
        simp
        refine n13 _ ?_; clear n13 x13
        refine EW.ret ?_
        refine x2 _ _ rfl ?_; clear n2 x2
        refine ⟨_, _, _, rfl, ?_, ?_, ?_, ?_, ?_⟩ <;> simp [hR] <;> omega
    · have g5 : ¬ belV 5 (belS o.bins.length s) < 2 := by simp at hc33; omega
      rw [if_neg e0, if_neg g5] at hR
      obtain ⟨hA1, hB1, hA, hB⟩ := hN e0 g5
      have e3 : IntKind.i64.wrap (hi[i] - 1) = hi[i] - 1 := wr_small (by omega) (by omega)
      have hup := bet_in lo[i] (hi[i] - 1) (belS 5 (belS o.bins.length s)) (by omega) (by omega) (by omega)
      have e4 : IntKind.i64.wrap ((betV lo[i] (hi[i] - 1) (belS 5 (belS o.bins.length s))) + 1) = (betV lo[i] (hi[i] - 1) (belS 5 (belS o.bins.length s))) + 1 := wr_small (by omega) (by omega)
      have hne1 : ¬ eInts lo = eInts hi := by
        intro h
        have := congrArg (fun l => l[i]?) h
        simp [e1, e2, dI] at this
        exact e0 this
      have hne2 : ¬ eInts (lo.set i ((betV lo[i] (hi[i] - 1) (belS 5 (belS o.bins.length s))) + 1)) = eInts lo := by
        intro h
        have := congrArg (fun l => l[i]?) h
        simp [e1, h1, dI] at this
        omega
      refine EW.skip ?_
      refine n2 _ ?_; clear n2 x2
      refine EW.seq fun Ψ14 n14 x14 => ?_
      refine EW.drawn [] mixed (gG_ok gs_nil) (by kernel_rfl) ?_
      simp [h1, h2, e1, e2, e3]
      refine n14 _ ?_; clear n14 x14
      refine EW.seq fun Ψ15 n15 x15 => ?_
      refine EW.region (gs_cons (intsM_ok hi (by omega)) (gs_cons (intsM_ok lo (by omega)) gs_nil)) ?_
      simp [hne1]
      refine n15 _ ?_; clear n15 x15
      refine EW.seq fun Ψ16 n16 x16 => ?_
      refine EW.region gs_nil ?_
      simp [h1, h2, e4, show i + 1 ≤ hi.length by omega, show i + 1 ≤ lo.length by omega]
      refine n16 _ ?_; clear n16 x16
      refine EW.seq fun Ψ17 n17 x17 => ?_
      refine EW.freeze (k := 61005) (cs := aInts (hi.set i (betV lo[i] (hi[i] - 1) (belS 5 (belS o.bins.length s))))) (ds := eInts (hi.set i (betV lo[i] (hi[i] - 1) (belS 5 (belS o.bins.length s))))) (g := true) (nt := 90) (E := [(0, .ptr (.ext 0) 0), (2, .sl false false .U .no lo.length (eInts lo)), (3, .sl false false .U .no hi.length (eInts hi)), (4, .s (.int .i64 pr)), (6, .ptr (.own 6) 0), (10, AV.nilsl), (11, .s (.int .i64 i)), (13, .s (.int .i64 (betV lo[i] (hi[i] - 1) (belS 5 (belS o.bins.length s))))), (15, .sm (.own 63005) lo.length .no)]) (O := [(6, [.sl false false .U .no o.limits.length (eInts o.limits), .s (.int .i64 o.least), .s (.int .i64 o.most), .sl false false .U .no o.bins.length (eBins o.bins)]), (63005, aInts (lo.set i ((betV lo[i] (hi[i] - 1) (belS 5 (belS o.bins.length s))) + 1)))]) (X := [[.s (.int .u64 (betS lo[i] (hi[i] - 1) (belS 5 (belS o.bins.length s))))]]) (T := []) [(14, hi.length)] (by simp) (by simp) (St.le_lit rfl (by simp) (by simp) (by simp) (by simp) (by simp)) (by simp) (by simp [hz2]) ?_
      refine EW.freeze (k := 63005) (cs := aInts (lo.set i ((betV lo[i] (hi[i] - 1) (belS 5 (belS o.bins.length s))) + 1))) (ds := eInts (lo.set i ((betV lo[i] (hi[i] - 1) (belS 5 (belS o.bins.length s))) + 1))) (g := true) (nt := 90) (E := [(0, .ptr (.ext 0) 0), (2, .sl false false .U .no lo.length (eInts lo)), (3, .sl false false .U .no hi.length (eInts hi)), (4, .s (.int .i64 pr)), (6, .ptr (.own 6) 0), (10, AV.nilsl), (11, .s (.int .i64 i)), (13, .s (.int .i64 (betV lo[i] (hi[i] - 1) (belS 5 (belS o.bins.length s))))), (14, .sl true true .U .no hi.length (eInts (hi.set i (betV lo[i] (hi[i] - 1) (belS 5 (belS o.bins.length s))))))]) (O := [(6, [.sl false false .U .no o.limits.length (eInts o.limits), .s (.int .i64 o.least), .s (.int .i64 o.most), .sl false false .U .no o.bins.length (eBins o.bins)])]) (X := [[.s (.int .u64 (betS lo[i] (hi[i] - 1) (belS 5 (belS o.bins.length s))))]]) (T := []) [(15, lo.length)] (by simp) (by simp) (St.le_lit rfl (by simp) (by simp) (by simp) (by simp) (by simp)) (by simp) (by simp [hz1]) ?_
      refine EW.drawn [(2, 5), (2, 12), (9, 12), (10, 12)] mixed (gs_cons (cutB_ok i (betV lo[i] (hi[i] - 1) (belS 5 (belS o.bins.length s)))) (gs_cons hA (gs_cons hB gs_nil))) (by kernel_rfl) ?_
      simp [hne2, show (1 + A.1.length) * 24 ≤ 140737488355328 by omega, show (1 + A.1.length + B.1.length) * 24 ≤ 140737488355328 by omega, show A.1.length * 3 + 1 + 1 + 1 = (1 + A.1.length) * 3 by omega]
      refine n17 _ ?_; clear n17 x17
      refine EW.ret ?_
      refine ⟨_, _, _, rfl, ?_, ?_, ?_, ?_, ?_⟩ <;> simp [hR] <;> omega

end Go.Ev
end
