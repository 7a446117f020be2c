/- Lemmas for the claims of this seat: an evaluator over abstract values, its soundness, and the contracts of the functions of melt that it walks; no premise beyond what each theorem states. -/
import Derived.Test.YtdcelpomnboeoaaLA

section
set_option linter.all false
open Go Go.Ev Go.Proofs
namespace Go.Ev
set_option linter.unusedSimpArgs false
set_option linter.unusedVariables false


def eqIntsS (a b : List Int) (p : Nat × Bool) : St :=
  St.lit 31 [(0, .sl false false .U .no a.length (eInts a)), (1, .sl false false .U .no b.length (eInts b)), (5, .s (.bool p.2)), (6, .s (.int .i64 p.1))] [] [] []
attribute [simp] eqIntsS

theorem eqInts_ok (a b : List Int) (hl : (a.length : Int) < 9223372036854775807) : ACalls Try.prog 21 [.sl false false .U .no a.length (eInts a), .sl false false .U .no b.length (eInts b)] [] (.ret (.s (.bool (decide (a = b)))) [] []) := by
  refine acalls_of_ew Try.func21 rfl rfl (by simp [Try.f21]) (rs := [.tmp 4]) rfl ?_
  refine EW.seq fun Ψ0 n0 x0 => ?_
  refine EW.region gs_nil ?_
  simp
  refine n0 _ ?_; clear n0 x0
  refine EW.seq fun Ψ1 n1 x1 => ?_
  refine EW.region gs_nil ?_
  simp
  refine n1 _ ?_; clear n1 x1
  refine EW.seq fun Ψ2 n2 x2 => ?_
  refine EW.seq fun Ψ3 n3 x3 => ?_
  refine EW.region gs_nil ?_
  simp
  refine n3 _ ?_; clear n3 x3
  refine EW.block ?_
  refine EW.loopA (eqIntsS a b) (fun p => p.1 ≤ a.length ∧ (p.2 = true → a.length = b.length ∧ a.take p.1 = b.take p.1) ∧ (p.2 = false → a ≠ b)) (fun p => a.length - p.1) (0, decide (a.length = b.length)) (St.le_lit rfl (by simp; omega) (by simp) (by simp) (by simp) (by simp)) ?_ fun p hk => ?_
  · exact ⟨Nat.zero_le _, fun h => by simpa using h, fun h e => by subst e; simp at h⟩
  obtain ⟨k, y⟩ := p
  obtain ⟨hk, hw, hn⟩ := hk
  simp only at hk hw hn
  refine EW.seq fun Ψ4 n4 x4 => ?_
  refine EW.seq fun Ψ5 n5 x5 => ?_
  cases y
  · skip
    refine EW.region gs_nil ?_
    simp
    refine n5 _ ?_; clear n5 x5
    refine EW.cond (t := _) (by rfl) (fun hc18 => ?_) (fun hc18 => ?_)
    · simp at hc18
    · simp at hc18
      have hab : a ≠ b := hn rfl
      refine EW.exit ?_
      refine x4 _ _ rfl ?_; clear n4 x4
      refine n2 _ ?_; clear n2 x2
      refine EW.seq fun Ψ6 n6 x6 => ?_
      refine EW.region gs_nil ?_
      simp
      refine n6 _ ?_; clear n6 x6
      refine EW.ret ?_
      refine ⟨_, _, _, rfl, ?_, ?_, ?_, ?_, ?_⟩ <;> simp [hab]
  · skip
    refine EW.region gs_nil ?_
    simp
    refine n5 _ ?_; clear n5 x5
    refine EW.cond (t := _) (by rfl) (fun hc18 => ?_) (fun hc18 => ?_)
    · simp at hc18
      obtain ⟨h18, h19⟩ := hw rfl
      have hkb : k < b.length := by omega
      have e1 : a[k]? = some a[k] := List.getElem?_eq_getElem hc18
      have e2 : b[k]? = some b[k] := List.getElem?_eq_getElem hkb
      refine EW.skip ?_
      refine n4 _ ?_; clear n4 x4
      refine EW.seq fun Ψ7 n7 x7 => ?_
      refine EW.block ?_
      refine EW.hide fun Ψ8 n8 => ?_
      refine EW.drawn [] mixed gs_nil (by kernel_rfl) ?_
      simp [hc18, hkb, e1, e2]
      refine n8 _ _ ?_; clear n8
      refine n7 _ ?_; clear n7 x7
      refine EW.hide fun Ψ9 n9 => ?_
      refine EW.region gs_nil ?_
      simp
      refine n9 _ _ ?_; clear n9
      have e3 : IntKind.i64.wrap ((k : Int) + 1) = k + 1 := wr_small (by omega) (by omega)
      refine ⟨(k + 1, decide (a[k] = b[k])), (St.le_lit rfl (by simp [e3]) (by simp) (by simp) (by simp) (by simp)), ?_, ?_⟩
      · refine ⟨hc18, fun h => ⟨h18, ?_⟩, fun h e => ?_⟩
        · rw [List.take_add_one, List.take_add_one, e1, e2, h19, of_decide_eq_true h]
        · subst e; simp at h
      · simp; omega
    · simp at hc18
      obtain ⟨h18, h19⟩ := hw rfl
      have hab : a = b := by rw [List.take_of_length_le (by omega), List.take_of_length_le (by omega)] at h19; exact h19
      refine EW.exit ?_
      refine x4 _ _ rfl ?_; clear n4 x4
      refine n2 _ ?_; clear n2 x2
      refine EW.seq fun Ψ10 n10 x10 => ?_
      refine EW.region gs_nil ?_
      simp
      refine n10 _ ?_; clear n10 x10
      refine EW.ret ?_
      refine ⟨_, _, _, rfl, ?_, ?_, ?_, ?_, ?_⟩ <;> simp [hab]


def eqRngsS (a b : List (Int × Int)) (p : Nat × Bool) : St :=
  St.lit 31 [(0, .sl false false .U .no a.length (eRngs a)), (1, .sl false false .U .no b.length (eRngs b)), (5, .s (.bool p.2)), (6, .s (.int .i64 p.1))] [] [] []
attribute [simp] eqRngsS

theorem eqRngs_ok (a b : List (Int × Int)) (hl : (a.length : Int) < 9223372036854775807) : ACalls Try.prog 59 [.sl false false .U .no a.length (eRngs a), .sl false false .U .no b.length (eRngs b)] [] (.ret (.s (.bool (decide (a = b)))) [] []) := by
  refine acalls_of_ew Try.func59 rfl rfl (by simp [Try.f59]) (rs := [.tmp 4]) rfl ?_
  refine EW.seq fun Ψ0 n0 x0 => ?_
  refine EW.region gs_nil ?_
  simp
  refine n0 _ ?_; clear n0 x0
  refine EW.seq fun Ψ1 n1 x1 => ?_
  refine EW.region gs_nil ?_
  simp
  refine n1 _ ?_; clear n1 x1
  refine EW.seq fun Ψ2 n2 x2 => ?_
  refine EW.seq fun Ψ3 n3 x3 => ?_
  refine EW.region gs_nil ?_
  simp
  refine n3 _ ?_; clear n3 x3
  refine EW.block ?_
  refine EW.loopA (eqRngsS a b) (fun p => p.1 ≤ a.length ∧ (p.2 = true → a.length = b.length ∧ a.take p.1 = b.take p.1) ∧ (p.2 = false → a ≠ b)) (fun p => a.length - p.1) (0, decide (a.length = b.length)) (St.le_lit rfl (by simp; omega) (by simp) (by simp) (by simp) (by simp)) ?_ fun p hk => ?_
  · exact ⟨Nat.zero_le _, fun h => by simpa using h, fun h e => by subst e; simp at h⟩
  obtain ⟨k, y⟩ := p
  obtain ⟨hk, hw, hn⟩ := hk
  simp only at hk hw hn
  refine EW.seq fun Ψ4 n4 x4 => ?_
  refine EW.seq fun Ψ5 n5 x5 => ?_
  cases y
  · skip
    refine EW.region gs_nil ?_
    simp
    refine n5 _ ?_; clear n5 x5
    refine EW.cond (t := _) (by rfl) (fun hc18 => ?_) (fun hc18 => ?_)
    · simp at hc18
    · simp at hc18
      have hab : a ≠ b := hn rfl
      refine EW.exit ?_
      refine x4 _ _ rfl ?_; clear n4 x4
      refine n2 _ ?_; clear n2 x2
      refine EW.seq fun Ψ6 n6 x6 => ?_
      refine EW.region gs_nil ?_
      simp
      refine n6 _ ?_; clear n6 x6
      refine EW.ret ?_
      refine ⟨_, _, _, rfl, ?_, ?_, ?_, ?_, ?_⟩ <;> simp [hab]
  · skip
    refine EW.region gs_nil ?_
    simp
    refine n5 _ ?_; clear n5 x5
    refine EW.cond (t := _) (by rfl) (fun hc18 => ?_) (fun hc18 => ?_)
    · simp at hc18
      obtain ⟨h18, h19⟩ := hw rfl
      have hkb : k < b.length := by omega
      have e1 : a[k]? = some a[k] := List.getElem?_eq_getElem hc18
      have e2 : b[k]? = some b[k] := List.getElem?_eq_getElem hkb
      refine EW.skip ?_
      refine n4 _ ?_; clear n4 x4
      refine EW.seq fun Ψ7 n7 x7 => ?_
      refine EW.block ?_
      refine EW.hide fun Ψ8 n8 => ?_
      refine EW.drawn [] mixed gs_nil (by kernel_rfl) ?_
      simp [hc18, hkb, e1, e2, eRngs_atm _ _ _ _ _ e1, eRngs_atm _ _ _ _ _ e2, show 2 ≤ a.length * 2 - k * 2 by omega, show 2 ≤ b.length * 2 - k * 2 by omega]
      refine n8 _ _ ?_; clear n8
      refine n7 _ ?_; clear n7 x7
      refine EW.hide fun Ψ9 n9 => ?_
      refine EW.region gs_nil ?_
      simp
      refine n9 _ _ ?_; clear n9
      have e3 : IntKind.i64.wrap ((k : Int) + 1) = k + 1 := wr_small (by omega) (by omega)
      refine ⟨(k + 1, decide (a[k] = b[k])), (St.le_lit rfl (by simp [e3, Prod.ext_iff]) (by simp) (by simp) (by simp) (by simp)), ?_, ?_⟩
      · refine ⟨hc18, fun h => ⟨h18, ?_⟩, fun h e => ?_⟩
        · rw [List.take_add_one, List.take_add_one, e1, e2, h19, of_decide_eq_true h]
        · subst e; simp at h
      · simp; omega
    · simp at hc18
      obtain ⟨h18, h19⟩ := hw rfl
      have hab : a = b := by rw [List.take_of_length_le (by omega), List.take_of_length_le (by omega)] at h19; exact h19
      refine EW.exit ?_
      refine x4 _ _ rfl ?_; clear n4 x4
      refine n2 _ ?_; clear n2 x2
      refine EW.seq fun Ψ10 n10 x10 => ?_
      refine EW.region gs_nil ?_
      simp
      refine n10 _ ?_; clear n10 x10
      refine EW.ret ?_
      refine ⟨_, _, _, rfl, ?_, ?_, ?_, ?_, ?_⟩ <;> simp [hab]


def eqBdsS (a b : List MBd) (p : Nat × Bool) : St :=
  St.lit 31 [(0, .sl false false .U .no a.length (eBds a)), (1, .sl false false .U .no b.length (eBds b)), (5, .s (.bool p.2)), (6, .s (.int .i64 p.1))] [] [] []
attribute [simp] eqBdsS

theorem eqBds_ok (a b : List MBd) (hl : (a.length : Int) < 9223372036854775807) : ACalls Try.prog 40 [.sl false false .U .no a.length (eBds a), .sl false false .U .no b.length (eBds b)] [] (.ret (.s (.bool (decide (a = b)))) [] []) := by
  refine acalls_of_ew Try.func40 rfl rfl (by simp [Try.f40]) (rs := [.tmp 4]) rfl ?_
  refine EW.seq fun Ψ0 n0 x0 => ?_
  refine EW.region gs_nil ?_
  simp
  refine n0 _ ?_; clear n0 x0
  refine EW.seq fun Ψ1 n1 x1 => ?_
  refine EW.region gs_nil ?_
  simp
  refine n1 _ ?_; clear n1 x1
  refine EW.seq fun Ψ2 n2 x2 => ?_
  refine EW.seq fun Ψ3 n3 x3 => ?_
  refine EW.region gs_nil ?_
  simp
  refine n3 _ ?_; clear n3 x3
  refine EW.block ?_
  refine EW.loopA (eqBdsS a b) (fun p => p.1 ≤ a.length ∧ (p.2 = true → a.length = b.length ∧ a.take p.1 = b.take p.1) ∧ (p.2 = false → a ≠ b)) (fun p => a.length - p.1) (0, decide (a.length = b.length)) (St.le_lit rfl (by simp; omega) (by simp) (by simp) (by simp) (by simp)) ?_ fun p hk => ?_
  · exact ⟨Nat.zero_le _, fun h => by simpa using h, fun h e => by subst e; simp at h⟩
  obtain ⟨k, y⟩ := p
  obtain ⟨hk, hw, hn⟩ := hk
  simp only at hk hw hn
  refine EW.seq fun Ψ4 n4 x4 => ?_
  refine EW.seq fun Ψ5 n5 x5 => ?_
  cases y
  · skip
    refine EW.region gs_nil ?_
    simp
    refine n5 _ ?_; clear n5 x5
    refine EW.cond (t := _) (by rfl) (fun hc18 => ?_) (fun hc18 => ?_)
    · simp at hc18
    · simp at hc18
      have hab : a ≠ b := hn rfl
      refine EW.exit ?_
      refine x4 _ _ rfl ?_; clear n4 x4
      refine n2 _ ?_; clear n2 x2
      refine EW.seq fun Ψ6 n6 x6 => ?_
      refine EW.region gs_nil ?_
      simp
      refine n6 _ ?_; clear n6 x6
      refine EW.ret ?_
      refine ⟨_, _, _, rfl, ?_, ?_, ?_, ?_, ?_⟩ <;> simp [hab]
  · skip
    refine EW.region gs_nil ?_
    simp
    refine n5 _ ?_; clear n5 x5
    refine EW.cond (t := _) (by rfl) (fun hc18 => ?_) (fun hc18 => ?_)
    · simp at hc18
      obtain ⟨h18, h19⟩ := hw rfl
      have hkb : k < b.length := by omega
      have e1 : a[k]? = some a[k] := List.getElem?_eq_getElem hc18
      have e2 : b[k]? = some b[k] := List.getElem?_eq_getElem hkb
      refine EW.skip ?_
      refine n4 _ ?_; clear n4 x4
      refine EW.seq fun Ψ7 n7 x7 => ?_
      refine EW.block ?_
      refine EW.hide fun Ψ8 n8 => ?_
      refine EW.drawn [] mixed gs_nil (by kernel_rfl) ?_
      simp [hc18, hkb, e1, e2, eBd, eBds_atm _ _ _ _ _ e1, eBds_atm _ _ _ _ _ e2, show 3 ≤ a.length * 3 - k * 3 by omega, show 3 ≤ b.length * 3 - k * 3 by omega]
      refine n8 _ _ ?_; clear n8
      refine n7 _ ?_; clear n7 x7
      refine EW.hide fun Ψ9 n9 => ?_
      refine EW.region gs_nil ?_
      simp
      refine n9 _ _ ?_; clear n9
      have e3 : IntKind.i64.wrap ((k : Int) + 1) = k + 1 := wr_small (by omega) (by omega)
      refine ⟨(k + 1, decide (a[k] = b[k])), (St.le_lit rfl (by simp [e3, MBd.ext_iff]) (by simp) (by simp) (by simp) (by simp)), ?_, ?_⟩
      · refine ⟨hc18, fun h => ⟨h18, ?_⟩, fun h e => ?_⟩
        · rw [List.take_add_one, List.take_add_one, e1, e2, h19, of_decide_eq_true h]
        · subst e; simp at h
      · simp; omega
    · simp at hc18
      obtain ⟨h18, h19⟩ := hw rfl
      have hab : a = b := by rw [List.take_of_length_le (by omega), List.take_of_length_le (by omega)] at h19; exact h19
      refine EW.exit ?_
      refine x4 _ _ rfl ?_; clear n4 x4
      refine n2 _ ?_; clear n2 x2
      refine EW.seq fun Ψ10 n10 x10 => ?_
      refine EW.region gs_nil ?_
      simp
      refine n10 _ ?_; clear n10 x10
      refine EW.ret ?_
      refine ⟨_, _, _, rfl, ?_, ?_, ?_, ?_, ?_⟩ <;> simp [hab]

end Go.Ev
end

section
set_option linter.all false
open Go Go.Ev Go.Proofs
namespace Go.Ev
set_option linter.unusedSimpArgs false
set_option linter.unusedVariables false


/-- The blend that the feed makes, and the feed behind it. -/
def blendL : List MBin → Int → List Int
  | [], _ => []
  | b :: l, x => belV (wr (b.g + 1)) x :: blendL l (belS (wr (b.g + 1)) x)
def blendS : List MBin → Int → Int
  | [], x => x
  | b :: l, x => blendS l (belS (wr (b.g + 1)) x)
@[simp] theorem blendL_len : ∀ (l : List MBin) (x : Int), (blendL l x).length = l.length
  | [], _ => rfl
  | b :: l, x => by simp [blendL, blendL_len l]
def blendOfS (o : MOrd) (p : Nat × List Int × Int) : St :=
  St.lit 27 [(0, .ptr (.ext 0) 0), (3, .ptr (.own 3) 0), (5, .sl true true .Z (.tok 25) p.2.1.length (eInts p.2.1)), (6, .s (.int .i64 p.1))] [(3, aOrdC o)] [[.s (.int .u64 p.2.2)]] [(25, (p.2.1.length, 1))]
attribute [simp] blendOfS

theorem blendOf_ok (o : MOrd) (x : Int) (hl : o.bins.length < 1000000000) : ACalls Try.prog 23 [.ptr (.ext 0) 0, .agg [.sl false false .U .no o.limits.length (eInts o.limits), .s (.int .i64 o.least), .s (.int .i64 o.most), .sl false false .U .no o.bins.length (eBins o.bins)]] [[.s (.int .u64 x)]] (.ret (.sl true true .Z .no o.bins.length (eInts (blendL o.bins x))) [[.s (.int .u64 (blendS o.bins x))]] []) := by
  refine acalls_of_ew Try.func23 rfl rfl (by simp [Try.f23]) (rs := [.tmp 4]) rfl ?_
  refine EW.seq fun Ψ0 n0 x0 => ?_
  refine EW.region gs_nil ?_
  simp
  refine n0 _ ?_; clear n0 x0
  refine EW.seq fun Ψ1 n1 x1 => ?_
  refine EW.region gs_nil ?_
  simp
  refine n1 _ ?_; clear n1 x1
  refine EW.seq fun Ψ2 n2 x2 => ?_
  refine EW.seq fun Ψ3 n3 x3 => ?_
  refine EW.region gs_nil ?_
  simp
  refine n3 _ ?_; clear n3 x3
  refine EW.block ?_
  refine EW.loopA (blendOfS o) (fun p => p.1 ≤ o.bins.length ∧ p.2.1.length = p.1 ∧ p.2.1 ++ blendL (o.bins.drop p.1) p.2.2 = blendL o.bins x ∧ blendS (o.bins.drop p.1) p.2.2 = blendS o.bins x) (fun p => o.bins.length - p.1) (0, [], x) (St.le_lit rfl (by simp) (by simp) (by simp) (by simp) (by simp)) ?_ fun p hk => ?_
  · simp
  obtain ⟨k, acc, y⟩ := p
  obtain ⟨hk, hn, hw, hz⟩ := hk
  simp only at hk hn hw hz
  refine EW.seq fun Ψ4 n4 x4 => ?_
  refine EW.seq fun Ψ5 n5 x5 => ?_
  refine EW.region gs_nil ?_
  simp
  refine n5 _ ?_; clear n5 x5
  refine EW.cond (t := _) (by rfl) (fun hc11 => ?_) (fun hc11 => ?_)
  · simp at hc11
    have e1 : o.bins[k]? = some o.bins[k] := List.getElem?_eq_getElem hc11
    refine EW.skip ?_
    refine n4 _ ?_; clear n4 x4
    refine EW.seq fun Ψ6 n6 x6 => ?_
    refine EW.block ?_
    refine EW.hide fun Ψ7 n7 => ?_
    refine EW.region (gG_ok gs_nil) ?_
    simp [hc11, e1, hn, show (k + 1) * 8 ≤ 140737488355328 by omega]
    refine n7 _ _ ?_; clear n7
    refine n6 _ ?_; clear n6 x6
    refine EW.hide fun Ψ8 n8 => ?_
    refine EW.region gs_nil ?_
    simp
    refine n8 _ _ ?_; clear n8
    have e3 : IntKind.i64.wrap ((k : Int) + 1) = k + 1 := wr_small (by omega) (by omega)
    refine ⟨(k + 1, acc ++ [belV (wr (o.bins[k].g + 1)) y], belS (wr (o.bins[k].g + 1)) y), (St.le_lit rfl (by simp [e3, hn]) (by simp) (by simp) (by simp [hn]) (by simp)), ?_, ?_⟩
    · refine ⟨by omega, by simp [hn], ?_, ?_⟩
      · rw [← hw, List.drop_eq_getElem_cons hc11]; simp [blendL]
      · rw [← hz, List.drop_eq_getElem_cons hc11]; simp [blendS]
    · simp; omega
  · simp at hc11
    have hkl : k = o.bins.length := by omega
    subst hkl
    simp [blendL, blendS] at hw hz
    refine EW.exit ?_
    refine x4 _ _ rfl ?_; clear n4 x4
    refine n2 _ ?_; clear n2 x2
    refine EW.seq fun Ψ9 n9 x9 => ?_
    refine EW.region gs_nil ?_
    simp
    refine n9 _ ?_; clear n9 x9
    refine EW.ret ?_
    refine ⟨_, _, _, rfl, ?_, ?_, ?_, ?_, ?_⟩ <;> simp [hw, hz, hn]

end Go.Ev
end

section
set_option linter.all false
open Go Go.Ev Go.Proofs
namespace Go.Ev
set_option linter.unusedSimpArgs false
set_option linter.unusedVariables false


def copyS (o : MOrd) (p : Nat × List MBin) : St :=
  St.lit 35 [(1, .ptr (.own 1) 0), (2, .ptr (.own 2) 0), (3, .ptr (.own 3) 0), (4, .s (.int .i64 p.1))] [(1, aOrdC o), (2, [AV.nilsl, .s (.int .i64 0), .s (.int .i64 0), AV.nilsl]),
    (3, [.sl false false .E .no o.limits.length (eInts o.limits), .s (.int .i64 o.least), .s (.int .i64 o.most), .sl false false .Z (.tok 32) p.2.length (eBins p.2)])] [] [(32, (p.2.length, 4))]
attribute [simp] copyS

theorem copyOrder_ok (o : MOrd) (h1 : (o.limits.length : Int) < 1000000000) (h2 : o.bins.length < 1000000000) (h3 : ∀ b ∈ o.bins, (b.grams.length : Int) < 1000000000) : ACalls Try.prog 18 [.agg [.sl false false .U .no o.limits.length (eInts o.limits), .s (.int .i64 o.least), .s (.int .i64 o.most), .sl false false .U .no o.bins.length (eBins o.bins)]] [] (.ret (.agg [.sl false false .E .no o.limits.length (eInts o.limits), .s (.int .i64 o.least), .s (.int .i64 o.most), .sl false false .Z .no o.bins.length (eBins o.bins)]) [] []) := by
  refine acalls_of_ew Try.func18 rfl rfl (by simp [Try.f18]) (rs := [.cell 2 25]) rfl ?_
  refine EW.seq fun Ψ0 n0 x0 => ?_
  refine EW.region gs_nil ?_
  simp
  refine n0 _ ?_; clear n0 x0
  refine EW.seq fun Ψ1 n1 x1 => ?_
  refine EW.region gs_nil ?_
  simp
  refine n1 _ ?_; clear n1 x1
  refine EW.seq fun Ψ2 n2 x2 => ?_
  refine EW.region (gs_cons (ints_ok o.limits h1) gs_nil) ?_
  simp
  refine n2 _ ?_; clear n2 x2
  refine EW.seq fun Ψ3 n3 x3 => ?_
  refine EW.seq fun Ψ4 n4 x4 => ?_
  refine EW.region gs_nil ?_
  simp
  refine n4 _ ?_; clear n4 x4
  refine EW.block ?_
  refine EW.loopA (copyS o) (fun p => p.1 ≤ o.bins.length ∧ p.2.length = p.1 ∧ p.2 ++ o.bins.drop p.1 = o.bins) (fun p => o.bins.length - p.1) (0, []) (St.le_lit rfl (by simp) (by simp) (by simp) (by simp) (by simp)) ?_ fun p hk => ?_
  · simp
  obtain ⟨k, acc⟩ := p
  obtain ⟨hk, hn, hw⟩ := hk
  simp only at hk hn hw
  refine EW.seq fun Ψ5 n5 x5 => ?_
  refine EW.seq fun Ψ6 n6 x6 => ?_
  refine EW.region gs_nil ?_
  simp
  refine n6 _ ?_; clear n6 x6
  refine EW.cond (t := _) (by rfl) (fun hc16 => ?_) (fun hc16 => ?_)
  · simp at hc16
    have e1 : o.bins[k]? = some o.bins[k] := List.getElem?_eq_getElem hc16
    have h4 := h3 o.bins[k] (List.getElem_mem hc16)
    refine EW.skip ?_
    refine n5 _ ?_; clear n5 x5
    refine EW.seq fun Ψ7 n7 x7 => ?_
    refine EW.block ?_
    refine EW.seq fun Ψ8 n8 x8 => ?_
    refine EW.region gs_nil ?_
    simp [hc16, e1, eBins_atm _ _ _ _ _ e1, show 4 ≤ o.bins.length * 4 - k * 4 by omega]
    refine n8 _ ?_; clear n8 x8
    refine EW.seq fun Ψ9 n9 x9 => ?_
    refine EW.region (gs_cons (ranges_ok o.bins[k].grams h4) gs_nil) ?_
    simp
    refine n9 _ ?_; clear n9 x9
    refine EW.hide fun Ψ10 n10 => ?_
    refine EW.region gs_nil ?_
    simp [hn, show (k + 1) * 48 ≤ 140737488355328 by omega]
    refine n10 _ _ ?_; clear n10
    refine n7 _ ?_; clear n7 x7
    refine EW.hide fun Ψ11 n11 => ?_
    refine EW.region gs_nil ?_
    simp
    refine n11 _ _ ?_; clear n11
    have e3 : IntKind.i64.wrap ((k : Int) + 1) = k + 1 := wr_small (by omega) (by omega)
    refine ⟨(k + 1, acc ++ [o.bins[k]]), (St.le_lit rfl (by simp [e3, hn]) (by simp [hn]) (by simp) (by simp [hn]) (by simp)), ?_, ?_⟩
    · refine ⟨by omega, by simp [hn], ?_⟩
      rw [List.append_assoc, List.singleton_append, ← List.drop_eq_getElem_cons]; exact hw
    · simp; omega
  · simp at hc16
    have hkl : k = o.bins.length := by omega
    subst hkl
    simp at hw
    refine EW.exit ?_
    refine x5 _ _ rfl ?_; clear n5 x5
    refine n3 _ ?_; clear n3 x3
    refine EW.seq fun Ψ12 n12 x12 => ?_
    refine EW.region gs_nil ?_
    simp
    refine n12 _ ?_; clear n12 x12
    refine EW.ret ?_
    refine ⟨_, _, _, rfl, ?_, ?_, ?_, ?_, ?_⟩ <;> simp [hw, hn]

end Go.Ev
end

section
set_option linter.all false
open Go Go.Ev Go.Proofs
namespace Go.Ev
set_option linter.unusedSimpArgs false
set_option linter.unusedVariables false


theorem five (p1 p2 p3 p4 : Prop) : (¬ p1) ∨ (p1 ∧ ¬ p2) ∨ (p1 ∧ p2 ∧ ¬ p3) ∨ (p1 ∧ p2 ∧ p3 ∧ ¬ p4) ∨ (p1 ∧ p2 ∧ p3 ∧ p4) := by
  by_cases h1 : p1 <;> by_cases h2 : p2 <;> by_cases h3 : p3 <;> by_cases h4 : p4 <;> simp [h1, h2, h3, h4]
def eqHd (a b : MOrd) : Prop := a.limits = b.limits ∧ a.least = b.least ∧ a.most = b.most ∧ a.bins.length = b.bins.length
instance (a b : MOrd) : Decidable (eqHd a b) := by unfold eqHd; infer_instance
def eqOS (a b : MOrd) (p : Nat × Bool) : St :=
  St.lit 84 [(2, .ptr (.own 2) 0), (3, .ptr (.own 3) 0), (5, .s (.bool p.2)), (6, .s (.int .i64 p.1))] [(2, aOrdC a), (3, aOrdC b)] [] []
def eqOJ (a b : MOrd) (p : Bool) : St :=
  St.lit 84 [(2, .ptr (.own 2) 0), (3, .ptr (.own 3) 0), (5, .s (.bool p))] [(2, aOrdC a), (3, aOrdC b)] [] []
attribute [simp] eqOS eqOJ

set_option maxHeartbeats 2000000 in
theorem eqOrds_ok (a b : MOrd) (h1 : (a.limits.length : Int) < 9223372036854775807) (hl : (a.bins.length : Int) < 9223372036854775807) (h3 : ∀ b ∈ a.bins, (b.grams.length : Int) < 9223372036854775807) : ACalls Try.prog 22 [.agg [.sl false false .U .no a.limits.length (eInts a.limits), .s (.int .i64 a.least), .s (.int .i64 a.most), .sl false false .U .no a.bins.length (eBins a.bins)], .agg [.sl false false .U .no b.limits.length (eInts b.limits), .s (.int .i64 b.least), .s (.int .i64 b.most), .sl false false .U .no b.bins.length (eBins b.bins)]] [] (.ret (.s (.bool (decide (a = b)))) [] []) := by
  refine acalls_of_ew Try.func22 rfl rfl (by simp [Try.f22]) (rs := [.tmp 4]) rfl ?_
  refine EW.seq fun Ψ0 n0 x0 => ?_
  refine EW.region gs_nil ?_
  simp
  refine n0 _ ?_; clear n0 x0
  refine EW.seqJ (eqOJ a b) (fun p => p = decide (eqHd a b)) (fun p hp => ?_) ?_
  rotate_left
  · skip
    refine EW.hide fun Ψ n => ?_
    refine EW.region (gs_cons (eqInts_ok a.limits b.limits h1) gs_nil) ?_
    rcases five (a.limits = b.limits) (a.least = b.least) (a.most = b.most) ((a.bins.length : Int) = b.bins.length) with q1 | ⟨q1, q2⟩ | ⟨q1, q2, q3⟩ | ⟨q1, q2, q3, q4⟩ | ⟨q1, q2, q3, q4⟩
    · skip
      simp [q1]
      exact n _ _ ⟨false, by simp [eqHd, q1], St.le_lit rfl (by simp) (by simp [q1]) (by simp) (by simp) (by simp)⟩
    · skip
      simp [q1, q2]
      exact n _ _ ⟨false, by simp [eqHd, q1, q2], St.le_lit rfl (by simp) (by simp [q1, q2]) (by simp) (by simp) (by simp)⟩
    · skip
      simp [q1, q2, q3]
      exact n _ _ ⟨false, by simp [eqHd, q1, q2, q3], St.le_lit rfl (by simp) (by simp [q1, q2, q3]) (by simp) (by simp) (by simp)⟩
    · skip
      have q5 : ¬ a.bins.length = b.bins.length := by omega
      simp [q1, q2, q3, q4]
      exact n _ _ ⟨false, by simp [eqHd, q1, q2, q3, q4, q5], St.le_lit rfl (by simp) (by simp [q1, q2, q3, q4]) (by simp) (by simp) (by simp)⟩
    · skip
      have q5 : a.bins.length = b.bins.length := by omega
      simp [q1, q2, q3, q4]
      exact n _ _ ⟨true, by simp [eqHd, q1, q2, q3, q4, q5], St.le_lit rfl (by simp) (by simp [q1, q2, q3, q4]) (by simp) (by simp) (by simp)⟩
  subst hp
  refine EW.seq fun Ψ2 n2 x2 => ?_
  refine EW.seq fun Ψ3 n3 x3 => ?_
  refine EW.region gs_nil ?_
  simp
  refine n3 _ ?_; clear n3 x3
  refine EW.block ?_
  refine EW.loopA (eqOS a b) (fun p => p.1 ≤ a.bins.length ∧ (p.2 = true → eqHd a b ∧ a.bins.take p.1 = b.bins.take p.1) ∧ (p.2 = false → a ≠ b)) (fun p => a.bins.length - p.1) (0, decide (eqHd a b)) (St.le_lit rfl (by simp) (by simp) (by simp) (by simp) (by simp)) ?_ fun p hk => ?_
  · exact ⟨Nat.zero_le _, fun h => ⟨of_decide_eq_true h, rfl⟩, fun h e => by subst e; simp [eqHd] at h⟩
  obtain ⟨k, y⟩ := p
  obtain ⟨hk, hw, hn⟩ := hk
  simp only at hk hw hn
  refine EW.seq fun Ψ4 n4 x4 => ?_
  refine EW.seq fun Ψ5 n5 x5 => ?_
  cases y
  · skip
    refine EW.region gs_nil ?_
    simp
    refine n5 _ ?_; clear n5 x5
    refine EW.cond (t := _) (by rfl) (fun hc44 => ?_) (fun hc44 => ?_)
    · simp at hc44
    · simp at hc44
      have hab : a ≠ b := hn rfl
      refine EW.exit ?_
      refine x4 _ _ rfl ?_; clear n4 x4
      refine n2 _ ?_; clear n2 x2
      refine EW.seq fun Ψ6 n6 x6 => ?_
      refine EW.region gs_nil ?_
      simp
      refine n6 _ ?_; clear n6 x6
      refine EW.ret ?_
      refine ⟨_, _, _, rfl, ?_, ?_, ?_, ?_, ?_⟩ <;> simp [hab]
  · skip
    refine EW.region gs_nil ?_
    simp
    refine n5 _ ?_; clear n5 x5
    refine EW.cond (t := _) (by rfl) (fun hc44 => ?_) (fun hc44 => ?_)
    · simp at hc44
      obtain ⟨h18, h19⟩ := hw rfl
      have hkb : k < b.bins.length := by have := h18.2.2.2; omega
      have e1 : a.bins[k]? = some a.bins[k] := List.getElem?_eq_getElem hc44
      have e2 : b.bins[k]? = some b.bins[k] := List.getElem?_eq_getElem hkb
      have h4 := h3 a.bins[k] (List.getElem_mem hc44)
      refine EW.skip ?_
      refine n4 _ ?_; clear n4 x4
      refine EW.seq fun Ψ7 n7 x7 => ?_
      refine EW.block ?_
      refine EW.seq fun Ψ8 n8 x8 => ?_
      refine EW.drawn [(1, 10), (4, 10), (6, 10), (9, 10), (1, 11), (4, 11), (6, 11), (9, 11), (10, 11), (6, 12), (9, 12)] mixed gs_nil (by kernel_rfl) ?_
      simp [hc44, hkb, e1, e2, eBins_atm _ _ _ _ _ e1, eBins_atm _ _ _ _ _ e2, show 4 ≤ a.bins.length * 4 - k * 4 by omega, show 4 ≤ b.bins.length * 4 - k * 4 by omega]
      refine n8 _ ?_; clear n8 x8
      refine EW.hide fun Ψ9 n9 => ?_
      rcases five (a.bins[k].grams = b.bins[k].grams) (a.bins[k].w = b.bins[k].w) (a.bins[k].c = b.bins[k].c) (a.bins[k].g = b.bins[k].g) with q1 | ⟨q1, q2⟩ | ⟨q1, q2, q3⟩ | ⟨q1, q2, q3, q4⟩ | ⟨q1, q2, q3, q4⟩
      · skip
        refine EW.region (gs_cons (eqRngs_ok a.bins[k].grams b.bins[k].grams h4) gs_nil) ?_
        simp [q1]
        have q : decide (a.bins[k] = b.bins[k]) = false := by simp [MBin.ext_iff, q1]
        refine n9 _ _ ?_; clear n9
        refine n7 _ ?_; clear n7 x7
        refine EW.hide fun Ψ10 n10 => ?_
        refine EW.region gs_nil ?_
        simp
        refine n10 _ _ ?_; clear n10
        have e3 : IntKind.i64.wrap ((k : Int) + 1) = k + 1 := wr_small (by omega) (by omega)
        refine ⟨(k + 1, decide (a.bins[k] = b.bins[k])), (St.le_lit rfl (by simp [e3, q]) (by simp) (by simp) (by simp) (by simp)), ?_, ?_⟩
        · refine ⟨hc44, fun h => ⟨h18, ?_⟩, fun h e => ?_⟩
          · rw [List.take_add_one, List.take_add_one, e1, e2, h19, of_decide_eq_true h]
          · subst e; simp at h
        · simp; omega
      · skip
        refine EW.region (gs_cons (eqRngs_ok a.bins[k].grams b.bins[k].grams h4) gs_nil) ?_
        simp [q1, q2]
        have q : decide (a.bins[k] = b.bins[k]) = false := by simp [MBin.ext_iff, q1, q2]
        refine n9 _ _ ?_; clear n9
        refine n7 _ ?_; clear n7 x7
        refine EW.hide fun Ψ11 n11 => ?_
        refine EW.region gs_nil ?_
        simp
        refine n11 _ _ ?_; clear n11
        have e3 : IntKind.i64.wrap ((k : Int) + 1) = k + 1 := wr_small (by omega) (by omega)
        refine ⟨(k + 1, decide (a.bins[k] = b.bins[k])), (St.le_lit rfl (by simp [e3, q]) (by simp) (by simp) (by simp) (by simp)), ?_, ?_⟩
        · refine ⟨hc44, fun h => ⟨h18, ?_⟩, fun h e => ?_⟩
          · rw [List.take_add_one, List.take_add_one, e1, e2, h19, of_decide_eq_true h]
          · subst e; simp at h
        · simp; omega
      · skip
        refine EW.region (gs_cons (eqRngs_ok a.bins[k].grams b.bins[k].grams h4) gs_nil) ?_
        simp [q1, q2, q3]
        have q : decide (a.bins[k] = b.bins[k]) = false := by simp [MBin.ext_iff, q1, q2, q3]
        refine n9 _ _ ?_; clear n9
        refine n7 _ ?_; clear n7 x7
        refine EW.hide fun Ψ12 n12 => ?_
        refine EW.region gs_nil ?_
        simp
        refine n12 _ _ ?_; clear n12
        have e3 : IntKind.i64.wrap ((k : Int) + 1) = k + 1 := wr_small (by omega) (by omega)
        refine ⟨(k + 1, decide (a.bins[k] = b.bins[k])), (St.le_lit rfl (by simp [e3, q]) (by simp) (by simp) (by simp) (by simp)), ?_, ?_⟩
        · refine ⟨hc44, fun h => ⟨h18, ?_⟩, fun h e => ?_⟩
          · rw [List.take_add_one, List.take_add_one, e1, e2, h19, of_decide_eq_true h]
          · subst e; simp at h
        · simp; omega
      · skip
        refine EW.region (gs_cons (eqRngs_ok a.bins[k].grams b.bins[k].grams h4) gs_nil) ?_
        simp [q1, q2, q3, q4]
        have q : decide (a.bins[k] = b.bins[k]) = false := by simp [MBin.ext_iff, q1, q2, q3, q4]
        refine n9 _ _ ?_; clear n9
        refine n7 _ ?_; clear n7 x7
        refine EW.hide fun Ψ13 n13 => ?_
        refine EW.region gs_nil ?_
        simp
        refine n13 _ _ ?_; clear n13
        have e3 : IntKind.i64.wrap ((k : Int) + 1) = k + 1 := wr_small (by omega) (by omega)
        refine ⟨(k + 1, decide (a.bins[k] = b.bins[k])), (St.le_lit rfl (by simp [e3, q]) (by simp) (by simp) (by simp) (by simp)), ?_, ?_⟩
        · refine ⟨hc44, fun h => ⟨h18, ?_⟩, fun h e => ?_⟩
          · rw [List.take_add_one, List.take_add_one, e1, e2, h19, of_decide_eq_true h]
          · subst e; simp at h
        · simp; omega
      · skip
        refine EW.region (gs_cons (eqRngs_ok a.bins[k].grams b.bins[k].grams h4) gs_nil) ?_
        simp [q1, q2, q3, q4]
        have q : decide (a.bins[k] = b.bins[k]) = true := by simp [MBin.ext_iff, q1, q2, q3, q4]
        refine n9 _ _ ?_; clear n9
        refine n7 _ ?_; clear n7 x7
        refine EW.hide fun Ψ14 n14 => ?_
        refine EW.region gs_nil ?_
        simp
        refine n14 _ _ ?_; clear n14
        have e3 : IntKind.i64.wrap ((k : Int) + 1) = k + 1 := wr_small (by omega) (by omega)
        refine ⟨(k + 1, decide (a.bins[k] = b.bins[k])), (St.le_lit rfl (by simp [e3, q]) (by simp) (by simp) (by simp) (by simp)), ?_, ?_⟩
        · refine ⟨hc44, fun h => ⟨h18, ?_⟩, fun h e => ?_⟩
          · rw [List.take_add_one, List.take_add_one, e1, e2, h19, of_decide_eq_true h]
          · subst e; simp at h
        · simp; omega
    · simp at hc44
      obtain ⟨h18, h19⟩ := hw rfl
      have hab : a = b := by
        obtain ⟨g1, g2, g3, g4⟩ := h18
        rw [List.take_of_length_le (by omega), List.take_of_length_le (by omega)] at h19
        exact MOrd.ext g1 g2 g3 h19
      refine EW.exit ?_
      refine x4 _ _ rfl ?_; clear n4 x4
      refine n2 _ ?_; clear n2 x2
      refine EW.seq fun Ψ15 n15 x15 => ?_
      refine EW.region gs_nil ?_
      simp
      refine n15 _ ?_; clear n15 x15
      refine EW.ret ?_
      refine ⟨_, _, _, rfl, ?_, ?_, ?_, ?_, ?_⟩ <;> simp [hab]

end Go.Ev
end

section
set_option linter.all false
open Go Go.Ev Go.Proofs
namespace Go.Ev
set_option linter.unusedSimpArgs false
set_option linter.unusedVariables false


def inB (a b c : Int) : Bool := decide (b ≤ a) && decide (a ≤ c)
def gInB : List AV → List (List AV) → Option Out
  | [.s (.int .i64 a), .s (.int .i64 b), .s (.int .i64 c)], [] => some (.ret (.s (.bool (inB a b c))) [] [])
  | _, _ => none
theorem gInB_m : ∀ a e o, gInB a e = some o → ACalls Try.prog 56 a e o := by
  intro a e o h
  unfold gInB at h
  split at h
  · cases h; exact in_ok _ _ _
  · cases h
theorem gInB_r : ∀ a e o, gInB a e = some o → ACalls Try.prog 68 a e o := by
  intro a e o h
  unfold gInB at h
  split at h
  · cases h; exact from_ok _ _ _
  · cases h
def gI (Γ : Gam) : Gam := gAlt 56 gInB (gAlt 68 gInB Γ)
theorem gI_ok {Γ : Gam} (h : Sound Try.prog Γ) : Sound Try.prog (gI Γ) := gAlt_sound gInB_m (gAlt_sound gInB_r h)
attribute [simp] gInB gI
theorem bor3 (a b c : Bool) : a = false ∨ (a = true ∧ b = false) ∨ (a = true ∧ b = true ∧ c = false) ∨ (a = true ∧ b = true ∧ c = true) := by cases a <;> cases b <;> cases c <;> simp

def rngErr (r : Int × Int) : Int := if (inB r.1 0 1000000 && inB r.2 0 1000000) = false then 1 else if r.2 < r.1 then 5 else 0
def rngsErr : List (Int × Int) → Int
  | [] => 0
  | r :: l => if rngErr r = 0 then rngsErr l else rngErr r
def binErr (nl : Nat) (b : MBin) : Int :=
  if b.grams.length = nl then
    if rngsErr b.grams = 0 then if (inB b.w 1 10000 && inB b.c 0 10000000 && inB b.g 0 6) = true then 0 else 1 else rngsErr b.grams
  else 2
def cbS (o : MOrd) (b : MBin) (k : Nat) : St :=
  St.lit 53 [(2, .ptr (.own 2) 0), (3, .ptr (.own 3) 0), (15, .sl false false .U .no b.grams.length (eRngs b.grams)), (16, .s (.int .i64 b.grams.length)), (17, .s (.int .i64 k))]
    [(2, aOrdC o), (3, [.sl false false .U .no b.grams.length (eRngs b.grams), .s (.int .i64 b.w), .s (.int .i64 b.c), .s (.int .i64 b.g)])] [] []
attribute [simp] cbS

set_option maxHeartbeats 1000000 in
theorem checkBin_ok (o : MOrd) (b : MBin) (hl : (b.grams.length : Int) < 9223372036854775807) : ACalls Try.prog 67 [.agg [.sl false false .U .no o.limits.length (eInts o.limits), .s (.int .i64 o.least), .s (.int .i64 o.most), .sl false false .U .no o.bins.length (eBins o.bins)], .agg [.sl false false .U .no b.grams.length (eRngs b.grams), .s (.int .i64 b.w), .s (.int .i64 b.c), .s (.int .i64 b.g)]] [] (.ret (.s (.int .i64 (binErr o.limits.length b))) [] []) := by
  refine acalls_of_ew Try.func67 rfl rfl (by simp [Try.f67]) (rs := [.tmp 4]) rfl ?_
  refine EW.seq fun Ψ0 n0 x0 => ?_
  refine EW.region gs_nil ?_
  simp
  refine n0 _ ?_; clear n0 x0
  refine EW.seq fun Ψ1 n1 x1 => ?_
  refine EW.seq fun Ψ2 n2 x2 => ?_
  refine EW.region gs_nil ?_
  simp
  refine n2 _ ?_; clear n2 x2
  refine EW.cond (t := _) (by rfl) (fun hc13 => ?_) (fun hc13 => ?_)
  · have hlen : ¬ b.grams.length = o.limits.length := by simp at hc13; omega
    have hv : binErr o.limits.length b = 2 := by simp [binErr, hlen]
    refine EW.seq fun Ψ3 n3 x3 => ?_
    refine EW.region gs_nil ?_
    simp
    refine n3 _ ?_; clear n3 x3
    refine EW.ret ?_
    refine x1 _ _ rfl ?_; clear n1 x1
    refine ⟨_, _, _, rfl, ?_, ?_, ?_, ?_, ?_⟩ <;> simp [hv]
  · have hlen : b.grams.length = o.limits.length := by simp at hc13; omega
    refine EW.skip ?_
    refine n1 _ ?_; clear n1 x1
    refine EW.seq fun Ψ4 n4 x4 => ?_
    refine EW.seq fun Ψ5 n5 x5 => ?_
    refine EW.region gs_nil ?_
    simp
    refine n5 _ ?_; clear n5 x5
    refine EW.block ?_
    refine EW.loopA (cbS o b) (fun k => k ≤ b.grams.length ∧ rngsErr (b.grams.drop k) = rngsErr b.grams) (fun k => b.grams.length - k) 0 (St.le_lit rfl (by simp) (by simp) (by simp) (by simp) (by simp)) ?_ fun p hk => ?_
    · simp
    rename Nat => k
    obtain ⟨hk, hw⟩ := hk
    refine EW.seq fun Ψ6 n6 x6 => ?_
    refine EW.region gs_nil ?_
    simp
    refine n6 _ ?_; clear n6 x6
    refine EW.seq fun Ψ7 n7 x7 => ?_
    refine EW.cond (t := _) (by rfl) (fun hc18 => ?_) (fun hc18 => ?_)
    · simp at hc18
      have e1 : b.grams[k]? = some b.grams[k] := List.getElem?_eq_getElem hc18
      refine EW.skip ?_
      refine n7 _ ?_; clear n7 x7
      refine EW.seq fun Ψ8 n8 x8 => ?_
      refine EW.block ?_
      refine EW.seq fun Ψ9 n9 x9 => ?_
      refine EW.region gs_nil ?_
      simp [hc18, e1, eRngs_atm _ _ _ _ _ e1, show 2 ≤ b.grams.length * 2 - k * 2 by omega]
      refine n9 _ ?_; clear n9 x9
      refine EW.block ?_
      refine EW.seq fun Ψ10 n10 x10 => ?_
      refine EW.seq fun Ψ11 n11 x11 => ?_
      cases q1 : inB b.grams[k].1 0 1000000
      · skip
        refine EW.region (gI_ok gs_nil) ?_
        simp [q1]
        refine n11 _ ?_; clear n11 x11
        refine EW.cond (t := _) (by rfl) (fun hc21 => ?_) (fun hc21 => ?_)
        · simp at hc21
          refine EW.skip ?_
          refine n10 _ ?_; clear n10 x10
          refine EW.cond (t := _) (by rfl) (fun hc21 => ?_) (fun hc21 => ?_)
          · simp at hc21
            have e4 : rngErr b.grams[k] = 1 := by simp [rngErr, q1]
            have hv : binErr o.limits.length b = 1 := by rw [List.drop_eq_getElem_cons hc18] at hw; simp [rngsErr, e4] at hw; simp [binErr, hlen, ← hw]
            refine EW.seq fun Ψ12 n12 x12 => ?_
            refine EW.region gs_nil ?_
            simp
            refine n12 _ ?_; clear n12 x12
            refine EW.ret ?_
            refine x8 _ _ rfl ?_; clear n8 x8
            refine x4 _ _ rfl ?_; clear n4 x4
            refine ⟨_, _, _, rfl, ?_, ?_, ?_, ?_, ?_⟩ <;> simp [hv]
          · simp at hc21
        · simp at hc21
      · skip
        refine EW.region (gI_ok gs_nil) ?_
        simp [q1]
        refine n11 _ ?_; clear n11 x11
        refine EW.cond (t := _) (by rfl) (fun hc21 => ?_) (fun hc21 => ?_)
        · simp at hc21
        · simp at hc21
          cases q2 : inB b.grams[k].2 0 1000000
          · skip
            refine EW.region (gI_ok gs_nil) ?_
            simp [q2]
            refine n10 _ ?_; clear n10 x10
            refine EW.cond (t := _) (by rfl) (fun hc21 => ?_) (fun hc21 => ?_)
            · simp at hc21
              have e4 : rngErr b.grams[k] = 1 := by simp [rngErr, q1, q2]
              have hv : binErr o.limits.length b = 1 := by rw [List.drop_eq_getElem_cons hc18] at hw; simp [rngsErr, e4] at hw; simp [binErr, hlen, ← hw]
              refine EW.seq fun Ψ13 n13 x13 => ?_
              refine EW.region gs_nil ?_
              simp
              refine n13 _ ?_; clear n13 x13
              refine EW.ret ?_
              refine x8 _ _ rfl ?_; clear n8 x8
              refine x4 _ _ rfl ?_; clear n4 x4
              refine ⟨_, _, _, rfl, ?_, ?_, ?_, ?_, ?_⟩ <;> simp [hv]
            · simp at hc21
          · skip
            refine EW.region (gI_ok gs_nil) ?_
            simp [q2]
            refine n10 _ ?_; clear n10 x10
            refine EW.cond (t := _) (by rfl) (fun hc21 => ?_) (fun hc21 => ?_)
            · simp at hc21
            · simp at hc21
              refine EW.seq fun Ψ14 n14 x14 => ?_
              refine EW.region gs_nil ?_
              simp
              refine n14 _ ?_; clear n14 x14
              refine EW.cond (t := _) (by rfl) (fun hc30 => ?_) (fun hc30 => ?_)
              · simp at hc30
                have e4 : rngErr b.grams[k] = 5 := by simp [rngErr, q1, q2, hc30]
                have hv : binErr o.limits.length b = 5 := by rw [List.drop_eq_getElem_cons hc18] at hw; simp [rngsErr, e4] at hw; simp [binErr, hlen, ← hw]
                refine EW.seq fun Ψ15 n15 x15 => ?_
                refine EW.region gs_nil ?_
                simp
                refine n15 _ ?_; clear n15 x15
                refine EW.ret ?_
                refine x8 _ _ rfl ?_; clear n8 x8
                refine x4 _ _ rfl ?_; clear n4 x4
                refine ⟨_, _, _, rfl, ?_, ?_, ?_, ?_, ?_⟩ <;> simp [hv]
              · simp at hc30
                refine EW.skip ?_
                refine n8 _ ?_; clear n8 x8
                refine EW.hide fun Ψ16 n16 => ?_
                refine EW.region gs_nil ?_
                simp
                refine n16 _ _ ?_; clear n16
                have e3 : IntKind.i64.wrap ((k : Int) + 1) = k + 1 := wr_small (by omega) (by omega)
                have e4 : rngErr b.grams[k] = 0 := by simp [rngErr, q1, q2]; omega
                refine ⟨k + 1, (St.le_lit rfl (by simp [e3]) (by simp) (by simp) (by simp) (by simp)), ?_, ?_⟩
                · refine ⟨hc18, ?_⟩
                  rw [← hw, List.drop_eq_getElem_cons hc18]; simp [rngsErr, e4]
                · omega
    · simp at hc18
      have hz : rngsErr b.grams = 0 := by rw [← hw, List.drop_of_length_le (by omega)]; rfl
      refine EW.exit ?_
      refine x7 _ _ rfl ?_; clear n7 x7
      refine n4 _ ?_; clear n4 x4
      refine EW.seq fun Ψ17 n17 x17 => ?_
      refine EW.seq fun Ψ18 n18 x18 => ?_
      rcases bor3 (inB b.w 1 10000) (inB b.c 0 10000000) (inB b.g 0 6) with q3 | ⟨q3, q4⟩ | ⟨q3, q4, q5⟩ | ⟨q3, q4, q5⟩
      · skip
        refine EW.region (gI_ok gs_nil) ?_
        simp [q3]
        have hv : binErr o.limits.length b = 1 := by simp [binErr, hlen, hz, q3]
        refine n18 _ ?_; clear n18 x18
        refine EW.cond (t := _) (by rfl) (fun hc52 => ?_) (fun hc52 => ?_)
        · simp at hc52
          refine EW.seq fun Ψ19 n19 x19 => ?_
          refine EW.region gs_nil ?_
          simp
          refine n19 _ ?_; clear n19 x19
          refine EW.ret ?_
          refine x17 _ _ rfl ?_; clear n17 x17
          refine ⟨_, _, _, rfl, ?_, ?_, ?_, ?_, ?_⟩ <;> simp [hv]
        · simp at hc52
      · skip
        refine EW.region (gI_ok gs_nil) ?_
        simp [q3, q4]
        have hv : binErr o.limits.length b = 1 := by simp [binErr, hlen, hz, q3, q4]
        refine n18 _ ?_; clear n18 x18
        refine EW.cond (t := _) (by rfl) (fun hc52 => ?_) (fun hc52 => ?_)
        · simp at hc52
          refine EW.seq fun Ψ20 n20 x20 => ?_
          refine EW.region gs_nil ?_
          simp
          refine n20 _ ?_; clear n20 x20
          refine EW.ret ?_
          refine x17 _ _ rfl ?_; clear n17 x17
          refine ⟨_, _, _, rfl, ?_, ?_, ?_, ?_, ?_⟩ <;> simp [hv]
        · simp at hc52
      · skip
        refine EW.region (gI_ok gs_nil) ?_
        simp [q3, q4, q5]
        have hv : binErr o.limits.length b = 1 := by simp [binErr, hlen, hz, q3, q4, q5]
        refine n18 _ ?_; clear n18 x18
        refine EW.cond (t := _) (by rfl) (fun hc52 => ?_) (fun hc52 => ?_)
        · simp at hc52
          refine EW.seq fun Ψ21 n21 x21 => ?_
          refine EW.region gs_nil ?_
          simp
          refine n21 _ ?_; clear n21 x21
          refine EW.ret ?_
          refine x17 _ _ rfl ?_; clear n17 x17
          refine ⟨_, _, _, rfl, ?_, ?_, ?_, ?_, ?_⟩ <;> simp [hv]
        · simp at hc52
      · skip
        refine EW.region (gI_ok gs_nil) ?_
        simp [q3, q4, q5]
        have hv : binErr o.limits.length b = 0 := by simp [binErr, hlen, hz, q3, q4, q5]
        refine n18 _ ?_; clear n18 x18
        refine EW.cond (t := _) (by rfl) (fun hc52 => ?_) (fun hc52 => ?_)
        · simp at hc52
        · simp at hc52
          refine EW.skip ?_
          refine n17 _ ?_; clear n17 x17
          refine EW.seq fun Ψ22 n22 x22 => ?_
          refine EW.region gs_nil ?_
          simp
          refine n22 _ ?_; clear n22 x22
          refine EW.ret ?_
          refine ⟨_, _, _, rfl, ?_, ?_, ?_, ?_, ?_⟩ <;> simp [hv]

end Go.Ev
end

section
set_option linter.all false
open Go Go.Ev Go.Proofs
namespace Go.Ev
set_option linter.unusedSimpArgs false
set_option linter.unusedVariables false

theorem check1_ok (n : Int) : ACalls Try.prog 66 [.s (.int .i64 n)] [] (.ret (.s (.bool (!inB n 0 1000000))) [] []) := by
  refine acalls_of_ew Try.func66 rfl rfl (by simp [Try.f66]) (rs := [.tmp 2]) rfl ?_
  refine EW.seq fun Ψ0 n0 x0 => ?_
  refine EW.region gs_nil ?_
  simp
  refine n0 _ ?_; clear n0 x0
  refine EW.seq fun Ψ1 n1 x1 => ?_
  refine EW.region (gI_ok gs_nil) ?_
  simp
  refine n1 _ ?_; clear n1 x1
  refine EW.ret ?_
  refine ⟨_, _, _, rfl, ?_, ?_, ?_, ?_, ?_⟩ <;> simp


def gC1 : List AV → List (List AV) → Option Out
  | [.s (.int .i64 a)], [] => some (.ret (.s (.bool (!inB a 0 1000000))) [] [])
  | _, _ => none
theorem gC1_ok : ∀ a e o, gC1 a e = some o → ACalls Try.prog 66 a e o := by
  intro a e o h
  unfold gC1 at h
  split at h
  · cases h; exact check1_ok _
  · cases h
attribute [simp] gC1
def badIdx : List Int → Nat → Int
  | [], _ => -1
  | n :: l, k => if inB n 0 1000000 = false then k else badIdx l (k + 1)
def anyBad (l : List Int) : Bool := l.any fun n => !inB n 0 1000000
theorem badIdx_any : ∀ (l : List Int) (k : Nat), (0 ≤ badIdx l k) ↔ anyBad l = true
  | [], k => by simp [badIdx, anyBad]
  | n :: l, k => by
    have := badIdx_any l (k + 1)
    simp only [anyBad] at this
    cases h : inB n 0 1000000
    · simp [badIdx, h, anyBad]
    · simp only [badIdx, h, anyBad, List.any_cons, Bool.not_true, Bool.false_or]
      simpa using this
def idxS (l : List Int) (k : Nat) : St :=
  St.lit 19 [(0, .sl false false .U .no l.length (eInts l)), (1, .fn 66 []), (7, .s (.int .i64 l.length)), (8, .s (.int .i64 k))] [] [] []
attribute [simp] idxS

theorem indexFunc_ok (l : List Int) (hl : (l.length : Int) < 9223372036854775807) : ACalls Try.prog 86 [.sl false false .U .no l.length (eInts l), .fn 66 []] [] (.ret (.s (.int .i64 (badIdx l 0))) [] []) := by
  refine acalls_of_ew Try.func86 rfl rfl (by simp [Try.f86]) (rs := [.tmp 4]) rfl ?_
  refine EW.seq fun Ψ0 n0 x0 => ?_
  refine EW.region gs_nil ?_
  simp
  refine n0 _ ?_; clear n0 x0
  refine EW.seq fun Ψ1 n1 x1 => ?_
  refine EW.seq fun Ψ2 n2 x2 => ?_
  refine EW.region gs_nil ?_
  simp
  refine n2 _ ?_; clear n2 x2
  refine EW.block ?_
  refine EW.loopA (idxS l) (fun k => k ≤ l.length ∧ badIdx (l.drop k) k = badIdx l 0) (fun k => l.length - k) 0 (St.le_lit rfl (by simp) (by simp) (by simp) (by simp) (by simp)) ?_ fun p hk => ?_
  · simp
  rename Nat => k
  obtain ⟨hk, hw⟩ := hk
  refine EW.seq fun Ψ3 n3 x3 => ?_
  refine EW.region gs_nil ?_
  simp
  refine n3 _ ?_; clear n3 x3
  refine EW.seq fun Ψ4 n4 x4 => ?_
  refine EW.cond (t := _) (by rfl) (fun hc9 => ?_) (fun hc9 => ?_)
  · simp at hc9
    have e1 : l[k]? = some l[k] := List.getElem?_eq_getElem hc9
    refine EW.skip ?_
    refine n4 _ ?_; clear n4 x4
    refine EW.seq fun Ψ5 n5 x5 => ?_
    refine EW.block ?_
    refine EW.seq fun Ψ6 n6 x6 => ?_
    refine EW.region gs_nil ?_
    simp
    refine n6 _ ?_; clear n6 x6
    refine EW.seq fun Ψ7 n7 x7 => ?_
    cases q1 : inB l[k] 0 1000000
    · skip
      refine EW.region (gAlt_sound gC1_ok gs_nil) ?_
      simp [hc9, e1, q1]
      refine n7 _ ?_; clear n7 x7
      refine EW.cond (t := _) (by rfl) (fun hc16 => ?_) (fun hc16 => ?_)
      · simp at hc16
        have hv : badIdx l 0 = k := by rw [← hw, List.drop_eq_getElem_cons hc9]; simp [badIdx, q1]
        refine EW.seq fun Ψ8 n8 x8 => ?_
        refine EW.region gs_nil ?_
        simp
        refine n8 _ ?_; clear n8 x8
        refine EW.ret ?_
        refine x5 _ _ rfl ?_; clear n5 x5
        refine x1 _ _ rfl ?_; clear n1 x1
        refine ⟨_, _, _, rfl, ?_, ?_, ?_, ?_, ?_⟩ <;> simp [hv]
      · simp at hc16
    · skip
      refine EW.region (gAlt_sound gC1_ok gs_nil) ?_
      simp [hc9, e1, q1]
      refine n7 _ ?_; clear n7 x7
      refine EW.cond (t := _) (by rfl) (fun hc16 => ?_) (fun hc16 => ?_)
      · simp at hc16
      · simp at hc16
        refine EW.skip ?_
        refine n5 _ ?_; clear n5 x5
        refine EW.hide fun Ψ9 n9 => ?_
        refine EW.region gs_nil ?_
        simp
        refine n9 _ _ ?_; clear n9
        have e3 : IntKind.i64.wrap ((k : Int) + 1) = k + 1 := wr_small (by omega) (by omega)
        refine ⟨k + 1, (St.le_lit rfl (by simp [e3]) (by simp) (by simp) (by simp) (by simp)), ?_, ?_⟩
        · refine ⟨hc9, ?_⟩
          rw [← hw, List.drop_eq_getElem_cons hc9]; simp [badIdx, q1]
        · omega
  · simp at hc9
    have hv : badIdx l 0 = -1 := by rw [← hw, List.drop_of_length_le (by omega)]; rfl
    refine EW.exit ?_
    refine x4 _ _ rfl ?_; clear n4 x4
    refine n1 _ ?_; clear n1 x1
    refine EW.seq fun Ψ10 n10 x10 => ?_
    refine EW.region gs_nil ?_
    simp
    refine n10 _ ?_; clear n10 x10
    refine EW.ret ?_
    refine ⟨_, _, _, rfl, ?_, ?_, ?_, ?_, ?_⟩ <;> simp [hv]

theorem containsFunc_ok (l : List Int) (hl : (l.length : Int) < 9223372036854775807) : ACalls Try.prog 65 [.sl false false .U .no l.length (eInts l), .fn 66 []] [] (.ret (.s (.bool (anyBad l))) [] []) := by
  refine acalls_of_ew Try.func65 rfl rfl (by simp [Try.f65]) (rs := [.tmp 4]) rfl ?_
  refine EW.seq fun Ψ0 n0 x0 => ?_
  refine EW.region gs_nil ?_
  simp
  refine n0 _ ?_; clear n0 x0
  refine EW.seq fun Ψ1 n1 x1 => ?_
  refine EW.region (gs_cons (indexFunc_ok l hl) gs_nil) ?_
  simp
  refine n1 _ ?_; clear n1 x1
  refine EW.ret ?_
  refine ⟨_, _, _, rfl, ?_, ?_, ?_, ?_, ?_⟩ <;> simp [badIdx_any]

end Go.Ev
end

section
set_option linter.all false
open Go Go.Ev Go.Proofs
namespace Go.Ev
set_option linter.unusedSimpArgs false
set_option linter.unusedVariables false


def binsErr (nl : Nat) : List MBin → Int
  | [] => 0
  | b :: l => if binErr nl b = 0 then binsErr nl l else binErr nl b
def ordErr (o : MOrd) : Int :=
  if 3 < o.limits.length then 6 else if anyBad o.limits = true then 1 else if (inB o.least 0 240000 && inB o.most 0 240000) = false then 1
  else if o.most < o.least then 5 else if o.bins.length = 0 then 7 else if 4 < o.bins.length then 6 else binsErr o.limits.length o.bins
def chkS (o : MOrd) (k : Nat) : St :=
  St.lit 54 [(1, .ptr (.own 1) 0), (41, .sl false false .U .no o.bins.length (eBins o.bins)), (42, .s (.int .i64 o.bins.length)), (43, .s (.int .i64 k))] [(1, aOrdC o)] [] []
attribute [simp] chkS

set_option maxHeartbeats 1000000 in
theorem check_ok (o : MOrd) (h1 : (o.limits.length : Int) < 9223372036854775807) (h2 : (o.bins.length : Int) < 9223372036854775807) (h3 : ∀ b ∈ o.bins, (b.grams.length : Int) < 9223372036854775807) : ACalls Try.prog 34 [.agg [.sl false false .U .no o.limits.length (eInts o.limits), .s (.int .i64 o.least), .s (.int .i64 o.most), .sl false false .U .no o.bins.length (eBins o.bins)]] [] (.ret (.s (.int .i64 (ordErr o))) [] []) := by
  refine acalls_of_ew Try.func34 rfl rfl (by simp [Try.f34]) (rs := [.tmp 2]) rfl ?_
  refine EW.seq fun Ψ0 n0 x0 => ?_
  refine EW.region gs_nil ?_
  simp
  refine n0 _ ?_; clear n0 x0
  refine EW.seq fun Ψ1 n1 x1 => ?_
  refine EW.block ?_
  refine EW.seq fun Ψ2 n2 x2 => ?_
  refine EW.region gs_nil ?_
  simp
  refine n2 _ ?_; clear n2 x2
  refine EW.cond (t := _) (by rfl) (fun hc6 => ?_) (fun hc6 => ?_)
  · have g1 : 3 < o.limits.length := by simp at hc6; omega
    have hv : ordErr o = 6 := by simp [ordErr, g1]
    refine EW.seq fun Ψ3 n3 x3 => ?_
    refine EW.region gs_nil ?_
    simp
    refine n3 _ ?_; clear n3 x3
    refine EW.ret ?_
    refine x1 _ _ rfl ?_; clear n1 x1
    refine ⟨_, _, _, rfl, ?_, ?_, ?_, ?_, ?_⟩ <;> simp [hv]
  · have g1 : ¬ 3 < o.limits.length := by simp at hc6; omega
    refine EW.seq fun Ψ4 n4 x4 => ?_
    refine EW.region (gs_cons (containsFunc_ok o.limits h1) gs_nil) ?_
    simp
    refine n4 _ ?_; clear n4 x4
    refine EW.cond (t := _) (by rfl) (fun hc11 => ?_) (fun hc11 => ?_)
    · have g2 : anyBad o.limits = true := by simpa using hc11
      have hv : ordErr o = 1 := by simp [ordErr, g1, g2]
      refine EW.seq fun Ψ5 n5 x5 => ?_
      refine EW.region gs_nil ?_
      simp
      refine n5 _ ?_; clear n5 x5
      refine EW.ret ?_
      refine x1 _ _ rfl ?_; clear n1 x1
      refine ⟨_, _, _, rfl, ?_, ?_, ?_, ?_, ?_⟩ <;> simp [hv]
    · have g2 : ¬ anyBad o.limits = true := by simpa using hc11
      refine EW.seq fun Ψ6 n6 x6 => ?_
      refine EW.seq fun Ψ7 n7 x7 => ?_
      cases q1 : inB o.least 0 240000
      · skip
        refine EW.region (gI_ok gs_nil) ?_
        simp [q1]
        refine n7 _ ?_; clear n7 x7
        refine EW.cond (t := _) (by rfl) (fun hc15 => ?_) (fun hc15 => ?_)
        · simp at hc15
          refine EW.skip ?_
          refine n6 _ ?_; clear n6 x6
          refine EW.cond (t := _) (by rfl) (fun hc15 => ?_) (fun hc15 => ?_)
          · simp at hc15
            have hv : ordErr o = 1 := by simp [ordErr, g1, g2, q1]
            refine EW.seq fun Ψ8 n8 x8 => ?_
            refine EW.region gs_nil ?_
            simp
            refine n8 _ ?_; clear n8 x8
            refine EW.ret ?_
            refine x1 _ _ rfl ?_; clear n1 x1
            refine ⟨_, _, _, rfl, ?_, ?_, ?_, ?_, ?_⟩ <;> simp [hv]
          · simp at hc15
        · simp at hc15
      · skip
        refine EW.region (gI_ok gs_nil) ?_
        simp [q1]
        refine n7 _ ?_; clear n7 x7
        refine EW.cond (t := _) (by rfl) (fun hc15 => ?_) (fun hc15 => ?_)
        · simp at hc15
        · simp at hc15
          cases q2 : inB o.most 0 240000
          · skip
            refine EW.region (gI_ok gs_nil) ?_
            simp [q2]
            refine n6 _ ?_; clear n6 x6
            refine EW.cond (t := _) (by rfl) (fun hc15 => ?_) (fun hc15 => ?_)
            · simp at hc15
              have hv : ordErr o = 1 := by simp [ordErr, g1, g2, q1, q2]
              refine EW.seq fun Ψ9 n9 x9 => ?_
              refine EW.region gs_nil ?_
              simp
              refine n9 _ ?_; clear n9 x9
              refine EW.ret ?_
              refine x1 _ _ rfl ?_; clear n1 x1
              refine ⟨_, _, _, rfl, ?_, ?_, ?_, ?_, ?_⟩ <;> simp [hv]
            · simp at hc15
          · skip
            refine EW.region (gI_ok gs_nil) ?_
            simp [q2]
            refine n6 _ ?_; clear n6 x6
            refine EW.cond (t := _) (by rfl) (fun hc15 => ?_) (fun hc15 => ?_)
            · simp at hc15
            · simp at hc15
              refine EW.seq fun Ψ10 n10 x10 => ?_
              refine EW.region gs_nil ?_
              simp
              refine n10 _ ?_; clear n10 x10
              refine EW.cond (t := _) (by rfl) (fun hc24 => ?_) (fun hc24 => ?_)
              · simp at hc24
                have hv : ordErr o = 5 := by simp [ordErr, g1, g2, q1, q2, hc24]
                refine EW.seq fun Ψ11 n11 x11 => ?_
                refine EW.region gs_nil ?_
                simp
                refine n11 _ ?_; clear n11 x11
                refine EW.ret ?_
                refine x1 _ _ rfl ?_; clear n1 x1
                refine ⟨_, _, _, rfl, ?_, ?_, ?_, ?_, ?_⟩ <;> simp [hv]
              · simp at hc24
                have g3 : ¬ o.most < o.least := by omega
                refine EW.seq fun Ψ12 n12 x12 => ?_
                refine EW.region gs_nil ?_
                simp
                refine n12 _ ?_; clear n12 x12
                refine EW.cond (t := _) (by rfl) (fun hc30 => ?_) (fun hc30 => ?_)
                · have g4 : o.bins.length = 0 := by simp at hc30; simp [hc30]
                  have hv : ordErr o = 7 := by unfold ordErr; rw [if_neg g1, if_neg g2, if_neg (by simp [q1, q2]), if_neg g3, if_pos g4]
                  refine EW.seq fun Ψ13 n13 x13 => ?_
                  refine EW.region gs_nil ?_
                  simp
                  refine n13 _ ?_; clear n13 x13
                  refine EW.ret ?_
                  refine x1 _ _ rfl ?_; clear n1 x1
                  refine ⟨_, _, _, rfl, ?_, ?_, ?_, ?_, ?_⟩ <;> simp [hv]
                · have g4 : ¬ o.bins.length = 0 := by simpa using hc30
                  refine EW.seq fun Ψ14 n14 x14 => ?_
                  refine EW.region gs_nil ?_
                  simp
                  refine n14 _ ?_; clear n14 x14
                  refine EW.cond (t := _) (by rfl) (fun hc35 => ?_) (fun hc35 => ?_)
                  · have g5 : 4 < o.bins.length := by simp at hc35; omega
                    have hv : ordErr o = 6 := by unfold ordErr; rw [if_neg g1, if_neg g2, if_neg (by simp [q1, q2]), if_neg g3, if_neg g4, if_pos g5]
                    refine EW.seq fun Ψ15 n15 x15 => ?_
                    refine EW.region gs_nil ?_
                    simp
                    refine n15 _ ?_; clear n15 x15
                    refine EW.ret ?_
                    refine x1 _ _ rfl ?_; clear n1 x1
                    refine ⟨_, _, _, rfl, ?_, ?_, ?_, ?_, ?_⟩ <;> simp [hv]
                  · have g5 : ¬ 4 < o.bins.length := by simp at hc35; omega
                    have hE : ordErr o = binsErr o.limits.length o.bins := by unfold ordErr; rw [if_neg g1, if_neg g2, if_neg (by simp [q1, q2]), if_neg g3, if_neg g4, if_neg g5]
                    refine EW.skip ?_
                    refine n1 _ ?_; clear n1 x1
                    refine EW.seq fun Ψ16 n16 x16 => ?_
                    refine EW.seq fun Ψ17 n17 x17 => ?_
                    refine EW.region gs_nil ?_
                    simp
                    refine n17 _ ?_; clear n17 x17
                    refine EW.block ?_
                    refine EW.loopA (chkS o) (fun k => k ≤ o.bins.length ∧ binsErr o.limits.length (o.bins.drop k) = binsErr o.limits.length o.bins) (fun k => o.bins.length - k) 0 (St.le_lit rfl (by simp) (by simp) (by simp) (by simp) (by simp)) ?_ fun p hk => ?_
                    · simp
                    rename Nat => k
                    obtain ⟨hk, hw⟩ := hk
                    refine EW.seq fun Ψ18 n18 x18 => ?_
                    refine EW.region gs_nil ?_
                    simp
                    refine n18 _ ?_; clear n18 x18
                    refine EW.seq fun Ψ19 n19 x19 => ?_
                    refine EW.cond (t := _) (by rfl) (fun hc44 => ?_) (fun hc44 => ?_)
                    · simp at hc44
                      have e1 : o.bins[k]? = some o.bins[k] := List.getElem?_eq_getElem hc44
                      have h4 := h3 o.bins[k] (List.getElem_mem hc44)
                      refine EW.skip ?_
                      refine n19 _ ?_; clear n19 x19
                      refine EW.seq fun Ψ20 n20 x20 => ?_
                      refine EW.block ?_
                      refine EW.seq fun Ψ21 n21 x21 => ?_
                      refine EW.region gs_nil ?_
                      simp [hc44, e1, eBins_atm _ _ _ _ _ e1, show 4 ≤ o.bins.length * 4 - k * 4 by omega]
                      refine n21 _ ?_; clear n21 x21
                      refine EW.seq fun Ψ22 n22 x22 => ?_
                      refine EW.region (gs_cons (checkBin_ok o o.bins[k] h4) gs_nil) ?_
                      simp
                      refine n22 _ ?_; clear n22 x22
                      refine EW.seq fun Ψ23 n23 x23 => ?_
                      refine EW.region gs_nil ?_
                      simp
                      refine n23 _ ?_; clear n23 x23
                      refine EW.cond (t := _) (by rfl) (fun hc51 => ?_) (fun hc51 => ?_)
                      · have g6 : ¬ binErr o.limits.length o.bins[k] = 0 := by simpa using hc51
                        have hv : ordErr o = binErr o.limits.length o.bins[k] := by rw [hE, ← hw, List.drop_eq_getElem_cons hc44]; simp [binsErr, g6]
                        refine EW.seq fun Ψ24 n24 x24 => ?_
                        refine EW.region gs_nil ?_
                        simp
                        refine n24 _ ?_; clear n24 x24
                        refine EW.ret ?_
                        refine x20 _ _ rfl ?_; clear n20 x20
                        refine x16 _ _ rfl ?_; clear n16 x16
                        refine ⟨_, _, _, rfl, ?_, ?_, ?_, ?_, ?_⟩ <;> simp [hv]
                      · have g6 : binErr o.limits.length o.bins[k] = 0 := by simpa using hc51
                        refine EW.skip ?_
                        refine n20 _ ?_; clear n20 x20
                        refine EW.hide fun Ψ25 n25 => ?_
                        refine EW.region gs_nil ?_
                        simp
                        refine n25 _ _ ?_; clear n25
                        have e3 : IntKind.i64.wrap ((k : Int) + 1) = k + 1 := wr_small (by omega) (by omega)
                        refine ⟨k + 1, (St.le_lit rfl (by simp [e3]) (by simp) (by simp) (by simp) (by simp)), ?_, ?_⟩
                        · refine ⟨hc44, ?_⟩
                          rw [← hw, List.drop_eq_getElem_cons hc44]; simp [binsErr, g6]
                        · omega
                    · simp at hc44
                      have hv : ordErr o = 0 := by rw [hE, ← hw, List.drop_of_length_le (by omega)]; rfl
                      refine EW.exit ?_
                      refine x19 _ _ rfl ?_; clear n19 x19
                      refine n16 _ ?_; clear n16 x16
                      refine EW.seq fun Ψ26 n26 x26 => ?_
                      refine EW.region gs_nil ?_
                      simp
                      refine n26 _ ?_; clear n26 x26
                      refine EW.ret ?_
                      refine ⟨_, _, _, rfl, ?_, ?_, ?_, ?_, ?_⟩ <;> simp [hv]

end Go.Ev
end
