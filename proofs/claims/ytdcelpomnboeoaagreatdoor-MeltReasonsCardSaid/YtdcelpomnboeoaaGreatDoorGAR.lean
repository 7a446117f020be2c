/- Lemmas for the claims of this seat: an evaluator over abstract values, its soundness, and the contracts of the functions of melt that it walks; no premise beyond what each theorem states. -/
import Derived.Test.YtdcelpomnboeoaaGreatDoorGAQ
import Derived.Test.YtdcelpomnboeoaaGreatDoorGAP
import Derived.Test.YtdcelpomnboeoaaGreatDoorGAN

section
set_option linter.all false
open Go Go.Ev Go.Proofs
namespace Go.Ev
set_option linter.unusedSimpArgs false
set_option linter.unusedVariables false

set_option maxHeartbeats 4000000 in
theorem reasons_many (l : List MBd) (hn : 6000 < l.length) : ACalls Tryz.prog 9 [.sl false false .U .no l.length (eBds l)] [] (.ret (.tup [.s (.string ⟨([] : List UInt8).toArray⟩), .s (.int .i64 6)]) [] []) := by
  refine acalls_of_ew Tryz.func9 rfl rfl (by simp [Tryz.f9]) (rs := [.tmp 2, .tmp 3]) rfl ?_
  refine EW.seq fun Ψ0 n0 x0 => ?_
  refine EW.region gs_nil ?_
  simp
  refine n0 _ ?_; clear n0 x0
  refine EW.seq fun Ψ1 n1 x1 => ?_
  refine EW.seq fun Ψ2 n2 x2 => ?_
  refine EW.region gs_nil ?_
  simp
  refine n2 _ ?_; clear n2 x2
  refine EW.cond (t := _) (by rfl) (fun hc10 => ?_) (fun hc10 => ?_)
  · clear hc10
    refine EW.seq fun Ψ3 n3 x3 => ?_
    refine EW.region gs_nil ?_
    simp
    refine n3 _ ?_; clear n3 x3
    refine EW.ret ?_
    refine x1 _ _ rfl ?_; clear n1 x1
    refine ⟨_, _, _, rfl, ?_, ?_, ?_, ?_, ?_⟩ <;> simp
  · simp at hc10; omega

set_option maxHeartbeats 4000000 in
theorem rreasons_many (l : List MBd) (hn : 6000 < l.length) : ACalls Tryz.prog 10 [.sl false false .U .no l.length (eBds l)] [] (.ret (.tup [.s (.string ⟨([] : List UInt8).toArray⟩), .s (.int .i64 6)]) [] []) := by
  refine acalls_of_ew Tryz.func10 rfl rfl (by simp [Tryz.f10]) (rs := [.tmp 2, .tmp 3]) rfl ?_
  refine EW.seq fun Ψ0 n0 x0 => ?_
  refine EW.region gs_nil ?_
  simp
  refine n0 _ ?_; clear n0 x0
  refine EW.seq fun Ψ1 n1 x1 => ?_
  refine EW.seq fun Ψ2 n2 x2 => ?_
  refine EW.region gs_nil ?_
  simp
  refine n2 _ ?_; clear n2 x2
  refine EW.cond (t := _) (by rfl) (fun hc11 => ?_) (fun hc11 => ?_)
  · clear hc11
    refine EW.seq fun Ψ3 n3 x3 => ?_
    refine EW.region gs_nil ?_
    simp
    refine n3 _ ?_; clear n3 x3
    refine EW.ret ?_
    refine x1 _ _ rfl ?_; clear n1 x1
    refine ⟨_, _, _, rfl, ?_, ?_, ?_, ?_, ?_⟩ <;> simp
  · simp at hc11; omega

end Go.Ev
end

section
set_option linter.all false
open Go Go.Ev Go.Proofs
namespace Go.Ev
set_option linter.unusedSimpArgs false
set_option linter.unusedVariables false


/-- What stands before the next cut, and what is cut behind it. -/
def pgo (c : UInt8) (w : List UInt8) (l : List UInt8) : List (List UInt8) := match Tryz.parted c l with
  | p :: r => (w ++ p) :: r
  | [] => []
theorem pgo_nil (c : UInt8) (w : List UInt8) : pgo c w [] = [w] := by simp [pgo, Tryz.parted]
theorem pgo_cut {c b : UInt8} (h : b = c) (w l : List UInt8) : pgo c w (b :: l) = w :: pgo c [] l := by
  have hne := Tryz.parted_ne c l
  rw [pgo, Tryz.parted, if_pos h]
  simp only [List.append_nil]
  cases e : Tryz.parted c l with
  | nil => exact absurd e hne
  | cons p r => simp [pgo, e]
theorem pgo_on {c b : UInt8} (h : ¬ b = c) (w l : List UInt8) : pgo c w (b :: l) = pgo c (w ++ [b]) l := by
  have hne := Tryz.parted_ne c l
  rw [pgo, Tryz.parted, if_neg h]
  cases e : Tryz.parted c l with
  | nil => exact absurd e hne
  | cons p r => simp [pgo, e]
theorem pgo_0 (c : UInt8) (l : List UInt8) : pgo c [] l = Tryz.parted c l := by
  have hne := Tryz.parted_ne c l
  rw [pgo]
  cases e : Tryz.parted c l with
  | nil => exact absurd e hne
  | cons p r => simp
def ptS (c : UInt8) (t : List UInt8) (p : Nat × Nat × List (List UInt8)) : St :=
  St.lit 35 [(0, .s (tx t)), (1, .s (.int .u8 c.toNat)), (5, .sl false false .Z (.tok 31) p.2.2.length (eTx p.2.2)), (6, .s (.int .i64 p.2.1)), (7, .s (.int .i64 p.1))] [] [] [(31, (p.2.2.length, 1))]
attribute [simp] ptS
theorem u8_eq (a b : UInt8) : ((a.toNat : Int) = b.toNat) ↔ a = b := by
  rw [Int.ofNat_inj, UInt8.toNat_inj]
theorem eTx_app1 (l : List (List UInt8)) (p : List UInt8) : eTx (l ++ [p]) = eTx l ++ [D.s (tx p)] := by simp [eTx]


theorem take_on (t : List UInt8) (j i : Nat) (hj : j ≤ i) (hi : i < t.length) : (t.drop j).take (i + 1 - j) = (t.drop j).take (i - j) ++ [t[i]] := by
  rw [show i + 1 - j = (i - j) + 1 by omega, List.take_add_one]
  congr 1
  rw [List.getElem?_drop, show j + (i - j) = i by omega, List.getElem?_eq_getElem hi]; rfl
@[simp] theorem eTx_nil : eTx [] = [] := rfl
theorem pt3 (c : UInt8) (t : List UInt8) (i : Nat) (h : i ≤ t.length) : i = t.length ∨ (∃ h : i < t.length, t[i] = c) ∨ (∃ h : i < t.length, ¬ t[i] = c) := by
  rcases Nat.lt_or_ge i t.length with h' | h'
  · by_cases q : t[i] = c
    · exact .inr (.inl ⟨h', q⟩)
    · exact .inr (.inr ⟨h', q⟩)
  · exact .inl (by omega)
def ptI (c : UInt8) (t : List UInt8) (p : Nat × Nat × List (List UInt8)) : Prop := p.1 ≤ t.length + 1 ∧ p.2.1 ≤ p.1 ∧ p.2.2.length ≤ p.1 ∧ (p.1 ≤ t.length → p.2.2 ++ pgo c ((t.drop p.2.1).take (p.1 - p.2.1)) (t.drop p.1) = Tryz.parted c t) ∧ (p.1 = t.length + 1 → p.2.2 = Tryz.parted c t)
theorem ptI_0 (c : UInt8) (t : List UInt8) : ptI c t (0, 0, []) := by
  refine ⟨by simp, by simp, by simp, fun _ => ?_, fun h => ?_⟩
  · simp [pgo_0]
  · simp at h
theorem ptI_end {c : UInt8} {t : List UInt8} {i j : Nat} {rs : List (List UInt8)} (h : ptI c t (i, j, rs)) (he : i = t.length) : ptI c t (i + 1, i + 1, rs ++ [(t.drop j).take (i - j)]) := by
  obtain ⟨h1, h2, h3, h4, h5⟩ := h
  simp only at h1 h2 h3 h4 h5
  refine ⟨by simp; omega, by simp, by simp; omega, fun q => ?_, fun _ => ?_⟩
  · simp at q; omega
  · have := h4 (by omega)
    rw [List.drop_of_length_le (by omega : t.length ≤ i), pgo_nil] at this
    exact this
theorem ptI_cut {c : UInt8} {t : List UInt8} {i j : Nat} {rs : List (List UInt8)} (h : ptI c t (i, j, rs)) (hi : i < t.length) (he : t[i] = c) : ptI c t (i + 1, i + 1, rs ++ [(t.drop j).take (i - j)]) := by
  obtain ⟨h1, h2, h3, h4, h5⟩ := h
  simp only at h1 h2 h3 h4 h5
  refine ⟨by simp; omega, by simp, by simp; omega, fun q => ?_, fun q => ?_⟩
  · have := h4 (by omega)
    rw [List.drop_eq_getElem_cons hi, pgo_cut he] at this
    simpa using this
  · simp at q; omega
theorem ptI_on {c : UInt8} {t : List UInt8} {i j : Nat} {rs : List (List UInt8)} (h : ptI c t (i, j, rs)) (hi : i < t.length) (he : ¬ t[i] = c) : ptI c t (i + 1, j, rs) := by
  obtain ⟨h1, h2, h3, h4, h5⟩ := h
  simp only at h1 h2 h3 h4 h5
  refine ⟨by simp; omega, by simp; omega, by simp; omega, fun q => ?_, fun q => ?_⟩
  · have := h4 (by omega)
    rw [List.drop_eq_getElem_cons hi, pgo_on he, ← take_on t j i h2 hi] at this
    exact this
  · simp at q; omega

set_option maxHeartbeats 4000000 in
theorem rparted_ok (t : List UInt8) (c : UInt8) (ht : t.length ≤ 6000) : ACalls Tryz.prog 40 [.s (tx t), .s (.int .u8 c.toNat)] [] (.ret (.sl false false .Z .no (Tryz.parted c t).length (eTx (Tryz.parted c t))) [] []) := by
  refine acalls_of_ew Tryz.func40 rfl rfl (by simp [Tryz.f40]) (rs := [.tmp 4]) rfl ?_
  refine EW.seq fun Ψ0 n0 x0 => ?_
  refine EW.region gs_nil ?_
  simp
  refine n0 _ ?_; clear n0 x0
  refine EW.seq fun Ψ1 n1 x1 => ?_
  refine EW.region gs_nil ?_
  simp
  refine n1 _ ?_; clear n1 x1
  refine EW.seq fun Ψ2 n2 x2 => ?_
  refine EW.region gs_nil ?_
  simp
  refine n2 _ ?_; clear n2 x2
  refine EW.seq fun Ψ3 n3 x3 => ?_
  refine EW.seq fun Ψ4 n4 x4 => ?_
  refine EW.region gs_nil ?_
  simp
  refine n4 _ ?_; clear n4 x4
  refine EW.block ?_
  refine EW.loopA (ptS c t) (ptI c t) (fun p => t.length + 1 - p.1) (0, 0, []) (St.le_lit rfl (by simp) (by simp) (by simp) (by simp) (by simp)) ?_ fun p hk => ?_
  · exact ptI_0 c t
  obtain ⟨i, j, rs⟩ := p
  have hk0 := hk
  obtain ⟨hi, hj, hr, hA, hB⟩ := hk0
  simp only at hi hj hr hA hB
  refine EW.seq fun Ψ5 n5 x5 => ?_
  refine EW.seq fun Ψ6 n6 x6 => ?_
  refine EW.region gs_nil ?_
  simp
  refine n6 _ ?_; clear n6 x6
  refine EW.cond (t := _) (by rfl) (fun hc11 => ?_) (fun hc11 => ?_)
  · have hi1 : i ≤ t.length := by simpa using hc11
    refine EW.skip ?_
    refine n5 _ ?_; clear n5 x5
    refine EW.seq fun Ψ7 n7 x7 => ?_
    refine EW.block ?_
    refine EW.seq fun Ψ8 n8 x8 => ?_
    rcases pt3 c t i hi1 with he | ⟨hlt, he⟩ | ⟨hlt, he⟩
    · skip
      refine EW.region gs_nil ?_
      simp [show ((i : Int) = (t.length : Int)) ↔ True from by simp [he]]
      refine n8 _ ?_; clear n8 x8
      refine EW.cond (t := _) (by rfl) (fun hc24 => ?_) (fun hc24 => ?_)
      · clear hc24
        obtain ⟨j1, hj1⟩ : ∃ x, x = i + 1 := ⟨_, rfl⟩
        obtain ⟨rs1, hrs1⟩ : ∃ x, x = rs ++ [(t.drop j).take (i - j)] := ⟨_, rfl⟩
        have hnx := ptI_end hk he
        refine EW.seq fun Ψ9 n9 x9 => ?_
        refine EW.region gs_nil ?_
        simp [hj, hi1, show (rs.length + 1) * 16 ≤ 140737488355328 by omega]
        refine n9 _ ?_; clear n9 x9
        refine EW.hide fun Ψ10 n10 => ?_
        refine EW.region gs_nil ?_
        simp
        refine n10 _ _ ?_; clear n10
        refine n7 _ ?_; clear n7 x7
        refine EW.hide fun Ψ11 n11 => ?_
        refine EW.region gs_nil ?_
        simp
        refine n11 _ _ ?_; clear n11
        have e3 : IntKind.i64.wrap ((i : Int) + 1) = i + 1 := wr_small (by omega) (by omega)
        refine ⟨(i + 1, j1, rs1), (St.le_lit rfl (by simp [e3, hj1, hrs1, eTx_app1]) (by simp) (by simp) (by simp [hrs1]) (by simp)), ?_, ?_⟩
        · rw [hj1, hrs1]; exact hnx
        · simp; omega
      · simp at hc24
    · skip
      refine EW.region gs_nil ?_
      simp [hlt, he, show ¬ ((i : Int) = (t.length : Int)) by omega, u8_eq]
      refine n8 _ ?_; clear n8 x8
      refine EW.cond (t := _) (by rfl) (fun hc24 => ?_) (fun hc24 => ?_)
      · clear hc24
        obtain ⟨j1, hj1⟩ : ∃ x, x = i + 1 := ⟨_, rfl⟩
        obtain ⟨rs1, hrs1⟩ : ∃ x, x = rs ++ [(t.drop j).take (i - j)] := ⟨_, rfl⟩
        have hnx := ptI_cut hk hlt he
        refine EW.seq fun Ψ12 n12 x12 => ?_
        refine EW.region gs_nil ?_
        simp [hj, hi1, show (rs.length + 1) * 16 ≤ 140737488355328 by omega]
        refine n12 _ ?_; clear n12 x12
        refine EW.hide fun Ψ13 n13 => ?_
        refine EW.region gs_nil ?_
        simp
        refine n13 _ _ ?_; clear n13
        refine n7 _ ?_; clear n7 x7
        refine EW.hide fun Ψ14 n14 => ?_
        refine EW.region gs_nil ?_
        simp
        refine n14 _ _ ?_; clear n14
        have e3 : IntKind.i64.wrap ((i : Int) + 1) = i + 1 := wr_small (by omega) (by omega)
        refine ⟨(i + 1, j1, rs1), (St.le_lit rfl (by simp [e3, hj1, hrs1, eTx_app1]) (by simp) (by simp) (by simp [hrs1]) (by simp)), ?_, ?_⟩
        · rw [hj1, hrs1]; exact hnx
        · simp; omega
      · simp at hc24
    · skip
      refine EW.region gs_nil ?_
      simp [hlt, he, show ¬ ((i : Int) = (t.length : Int)) by omega, u8_eq]
      refine n8 _ ?_; clear n8 x8
      refine EW.cond (t := _) (by rfl) (fun hc24 => ?_) (fun hc24 => ?_)
      · simp at hc24
      · clear hc24
        obtain ⟨j1, hj1⟩ : ∃ x, x = j := ⟨_, rfl⟩
        obtain ⟨rs1, hrs1⟩ : ∃ x, x = rs := ⟨_, rfl⟩
        have hnx := ptI_on hk hlt he
        refine EW.skip ?_
        refine n7 _ ?_; clear n7 x7
        refine EW.hide fun Ψ15 n15 => ?_
        refine EW.region gs_nil ?_
        simp
        refine n15 _ _ ?_; clear n15
        have e3 : IntKind.i64.wrap ((i : Int) + 1) = i + 1 := wr_small (by omega) (by omega)
        refine ⟨(i + 1, j1, rs1), (St.le_lit rfl (by simp [e3, hj1, hrs1, eTx_app1]) (by simp) (by simp) (by simp [hrs1]) (by simp)), ?_, ?_⟩
        · rw [hj1, hrs1]; exact hnx
        · simp; omega
  · have hi2 : i = t.length + 1 := by simp at hc11; omega
    have hv := hB hi2
    refine EW.exit ?_
    refine x5 _ _ rfl ?_; clear n5 x5
    refine n3 _ ?_; clear n3 x3
    refine EW.seq fun Ψ16 n16 x16 => ?_
    refine EW.region gs_nil ?_
    simp
    refine n16 _ ?_; clear n16 x16
    refine EW.ret ?_
    refine ⟨_, _, _, rfl, ?_, ?_, ?_, ?_, ?_⟩ <;> simp [hv]

end Go.Ev
end

section
set_option linter.all false
open Go Go.Ev Go.Proofs
namespace Go.Ev
set_option linter.unusedSimpArgs false
set_option linter.unusedVariables false


/-- The digits that words are, one each. -/
def digsG : List (List UInt8) → List Int → Option (List Int)
  | [], acc => some acc
  | w :: r, acc => if (digR w).2 = true then digsG r (acc ++ [(digR w).1]) else none
def digsR (ws : List (List UInt8)) : List Int × Bool := match digsG ws [] with
  | some l => (l, true)
  | none => ([], false)
theorem dg3 (w : List UInt8) : ¬ ((w.length : Int) = 1) ∨ (∃ b : UInt8, w = [b] ∧ (b.toNat : Int) < 48) ∨ (∃ b : UInt8, w = [b] ∧ ¬ (b.toNat : Int) < 48 ∧ (57 : Int) < b.toNat) ∨ (∃ b : UInt8, w = [b] ∧ ¬ (b.toNat : Int) < 48 ∧ ¬ (57 : Int) < b.toNat) := by
  match w with
  | [] => left; simp
  | a :: b :: r => left; simp; omega
  | [b] =>
    right
    by_cases h1 : (b.toNat : Int) < 48
    · exact .inl ⟨b, rfl, h1⟩
    · by_cases h2 : (57 : Int) < b.toNat
      · exact .inr (.inl ⟨b, rfl, h1, h2⟩)
      · exact .inr (.inr ⟨b, rfl, h1, h2⟩)
theorem digR_no {w : List UInt8} (h : ¬ ((w.length : Int) = 1)) : (digR w).2 = false := by
  match w, h with
  | [], _ => rfl
  | _ :: _ :: _, _ => rfl
  | [b], h => simp at h
theorem digR_yes {b : UInt8} (h1 : ¬ (b.toNat : Int) < 48) (h2 : ¬ (57 : Int) < b.toNat) : digR [b] = ((b.toNat : Int) - 48, true) := by
  rw [digR, if_pos (by omega)]
theorem digR_out {b : UInt8} (h : (b.toNat : Int) < 48 ∨ (57 : Int) < b.toNat) : (digR [b]).2 = false := by
  rw [digR, if_neg (by omega)]
def dsS (ws : List (List UInt8)) (p : Nat × List Int) : St :=
  St.lit 45 [(0, .sl false false .U .no ws.length (eTx ws)), (4, .sl false false .Z (.tok 43) p.2.length (eInts p.2)), (5, .s (.int .i64 p.1))] [] [] [(43, (p.2.length, 1))]
attribute [simp] dsS

set_option maxHeartbeats 4000000 in
theorem rdigits_ok (ws : List (List UInt8)) (hn : ws.length ≤ 6001) : ACalls Tryz.prog 59 [.sl false false .U .no ws.length (eTx ws)] [] (.ret (.tup [.sl false false .U .no (digsR ws).1.length (eInts (digsR ws).1), .s (.bool (digsR ws).2)]) [] []) := by
  refine acalls_of_ew Tryz.func59 rfl rfl (by simp [Tryz.f59]) (rs := [.tmp 2, .tmp 3]) rfl ?_
  refine EW.seq fun Ψ0 n0 x0 => ?_
  refine EW.region gs_nil ?_
  simp
  refine n0 _ ?_; clear n0 x0
  refine EW.seq fun Ψ1 n1 x1 => ?_
  refine EW.region gs_nil ?_
  simp
  refine n1 _ ?_; clear n1 x1
  refine EW.seq fun Ψ2 n2 x2 => ?_
  refine EW.seq fun Ψ3 n3 x3 => ?_
  refine EW.region gs_nil ?_
  simp
  refine n3 _ ?_; clear n3 x3
  refine EW.block ?_
  refine EW.loopA (dsS ws) (fun p => p.1 ≤ ws.length ∧ p.2.length = p.1 ∧ digsG (ws.drop p.1) p.2 = digsG ws []) (fun p => ws.length - p.1) (0, []) (St.le_lit rfl (by simp) (by simp) (by simp) (by simp) (by simp)) ?_ fun p hk => ?_
  · simp
  obtain ⟨k, acc⟩ := p
  obtain ⟨hk, hal, hw⟩ := hk
  simp only at hk hal hw
  refine EW.seq fun Ψ4 n4 x4 => ?_
  refine EW.seq fun Ψ5 n5 x5 => ?_
  refine EW.region gs_nil ?_
  simp
  refine n5 _ ?_; clear n5 x5
  refine EW.cond (t := _) (by rfl) (fun hc9 => ?_) (fun hc9 => ?_)
  · simp at hc9
    have hdr : ws.drop k = ws[k] :: ws.drop (k + 1) := List.drop_eq_getElem_cons hc9
    have e1 : ws[k]? = some ws[k] := List.getElem?_eq_getElem hc9
    refine EW.skip ?_
    refine n4 _ ?_; clear n4 x4
    refine EW.seq fun Ψ6 n6 x6 => ?_
    refine EW.block ?_
    refine EW.seq fun Ψ7 n7 x7 => ?_
    refine EW.seq fun Ψ8 n8 x8 => ?_
    rcases dg3 ws[k] with hl | ⟨b, hwb, h8⟩ | ⟨b, hwb, h8, h9⟩ | ⟨b, hwb, h8, h9⟩
    · skip
      refine EW.region gs_nil ?_
      simp [hc9, e1, hl]
      refine n8 _ ?_; clear n8 x8
      refine EW.cond (t := _) (by rfl) (fun hc33 => ?_) (fun hc33 => ?_)
      · clear hc33
        have hv : digsR ws = ([], false) := by rw [digsR, ← hw, hdr, digsG, if_neg (by rw [digR_no hl]; decide)]
        refine EW.seq fun Ψ9 n9 x9 => ?_
        refine EW.region gs_nil ?_
        simp
        refine n9 _ ?_; clear n9 x9
        refine EW.ret ?_
        refine x7 _ _ rfl ?_; clear n7 x7
        refine x6 _ _ rfl ?_; clear n6 x6
        refine x2 _ _ rfl ?_; clear n2 x2
        refine ⟨_, _, _, rfl, ?_, ?_, ?_, ?_, ?_⟩ <;> simp [hv]
      · simp at hc33
    · skip
      refine EW.region gs_nil ?_
      simp [hc9, e1, hwb, h8]
      refine n8 _ ?_; clear n8 x8
      refine EW.cond (t := _) (by rfl) (fun hc33 => ?_) (fun hc33 => ?_)
      · clear hc33
        have hv : digsR ws = ([], false) := by rw [digsR, ← hw, hdr, digsG, if_neg (by rw [hwb, digR_out (.inl h8)]; decide)]
        refine EW.seq fun Ψ10 n10 x10 => ?_
        refine EW.region gs_nil ?_
        simp
        refine n10 _ ?_; clear n10 x10
        refine EW.ret ?_
        refine x7 _ _ rfl ?_; clear n7 x7
        refine x6 _ _ rfl ?_; clear n6 x6
        refine x2 _ _ rfl ?_; clear n2 x2
        refine ⟨_, _, _, rfl, ?_, ?_, ?_, ?_, ?_⟩ <;> simp [hv]
      · simp at hc33
    · skip
      refine EW.region gs_nil ?_
      simp [hc9, e1, hwb, h8, h9]
      refine n8 _ ?_; clear n8 x8
      refine EW.cond (t := _) (by rfl) (fun hc33 => ?_) (fun hc33 => ?_)
      · clear hc33
        have hv : digsR ws = ([], false) := by rw [digsR, ← hw, hdr, digsG, if_neg (by rw [hwb, digR_out (.inr h9)]; decide)]
        refine EW.seq fun Ψ11 n11 x11 => ?_
        refine EW.region gs_nil ?_
        simp
        refine n11 _ ?_; clear n11 x11
        refine EW.ret ?_
        refine x7 _ _ rfl ?_; clear n7 x7
        refine x6 _ _ rfl ?_; clear n6 x6
        refine x2 _ _ rfl ?_; clear n2 x2
        refine ⟨_, _, _, rfl, ?_, ?_, ?_, ?_, ?_⟩ <;> simp [hv]
      · simp at hc33
    · skip
      refine EW.region gs_nil ?_
      simp [hc9, e1, hwb, h8, h9]
      refine n8 _ ?_; clear n8 x8
      refine EW.cond (t := _) (by rfl) (fun hc33 => ?_) (fun hc33 => ?_)
      · simp at hc33
      · clear hc33
        have w1 : IntKind.u8.wrap ((b.toNat : Int) - 48) = b.toNat - 48 := u8w (by have := b.toNat_lt; omega)
        have w2 : IntKind.i64.wrap ((b.toNat : Int) - 48) = b.toNat - 48 := wr_small (by omega) (by have := b.toNat_lt; omega)
        refine EW.skip ?_
        refine n7 _ ?_; clear n7 x7
        refine EW.hide fun Ψ12 n12 => ?_
        refine EW.region gs_nil ?_
        simp [hc9, e1, hwb, w1, w2, hal, show (k + 1) * 8 ≤ 140737488355328 by omega]
        refine n12 _ _ ?_; clear n12
        refine n6 _ ?_; clear n6 x6
        refine EW.hide fun Ψ13 n13 => ?_
        refine EW.region gs_nil ?_
        simp
        refine n13 _ _ ?_; clear n13
        have e3 : IntKind.i64.wrap ((k : Int) + 1) = k + 1 := wr_small (by omega) (by omega)
        refine ⟨(k + 1, acc ++ [(b.toNat : Int) - 48]), (St.le_lit rfl (by simp [e3, hal]) (by simp) (by simp) (by simp [hal]) (by simp)), ?_, ?_⟩
        · refine ⟨by omega, by simp [hal], ?_⟩
          rw [← hw, hdr, digsG, hwb, digR_yes h8 h9, if_pos rfl]
        · simp; omega
  · simp at hc9
    have hkl : k = ws.length := by omega
    have hv : digsR ws = (acc, true) := by rw [digsR, ← hw, hkl, List.drop_length]; rfl
    refine EW.exit ?_
    refine x4 _ _ rfl ?_; clear n4 x4
    refine n2 _ ?_; clear n2 x2
    refine EW.seq fun Ψ14 n14 x14 => ?_
    refine EW.region gs_nil ?_
    simp
    refine n14 _ ?_; clear n14 x14
    refine EW.ret ?_
    refine ⟨_, _, _, rfl, ?_, ?_, ?_, ?_, ?_⟩ <;> simp [hv]

end Go.Ev
end

section
set_option linter.all false
open Go Go.Ev Go.Proofs
namespace Go.Ev
set_option linter.unusedSimpArgs false
set_option linter.unusedVariables false


@[simp] theorem eTx_cons (p : List UInt8) (l : List (List UInt8)) : eTx (p :: l) = D.s (tx p) :: eTx l := rfl
@[simp] theorem eTx_take (l : List (List UInt8)) : List.take l.length (eTx l) = eTx l := List.take_of_length_le (by simp)
theorem digsG_some : ∀ (ws : List (List UInt8)) (acc L : List Int), digsG ws acc = some L → L = acc ++ ws.map (fun w => (digR w).1) ∧ ∀ w ∈ ws, (digR w).2 = true
  | [], acc, L, h => by cases h; simp
  | w :: r, acc, L, h => by
    rw [digsG] at h
    split at h
    · rename_i q
      obtain ⟨h1, h2⟩ := digsG_some r _ L h
      refine ⟨by rw [h1]; simp, fun x hx => ?_⟩
      rcases List.mem_cons.1 hx with rfl | hx
      · exact q
      · exact h2 x hx
    · cases h
theorem digsG_none : ∀ (ws : List (List UInt8)) (acc : List Int), digsG ws acc = none → ∃ w ∈ ws, (digR w).2 = false
  | [], acc, h => by cases h
  | w :: r, acc, h => by
    rw [digsG] at h
    split at h
    · obtain ⟨x, h1, h2⟩ := digsG_none r _ h
      exact ⟨x, List.mem_cons_of_mem _ h1, h2⟩
    · rename_i q; exact ⟨w, by simp, by simpa using q⟩
/-- What the reference reads of a line. -/
def linR (s : List UInt8) : MBd × Bool := if (bndR s).2 = true then bndR s else (⟨0, 0, 0⟩, false)
theorem lin_no {s w0 : List UInt8} {r : List (List UInt8)} (hp : Tryz.parted 32 s = w0 :: r) (h : digsG r [] = none) : linR s = (⟨0, 0, 0⟩, false) := by
  obtain ⟨w, h1, h2⟩ := digsG_none r [] h
  have hf : (bndR s).2 = false := by
    by_cases e1 : s = [108, 105, 103, 104, 116]
    · rw [e1, show Tryz.parted 32 [108, 105, 103, 104, 116] = [[108, 105, 103, 104, 116]] by decide] at hp; cases hp; cases h1
    by_cases e2 : s = [104, 101, 97, 118, 121]
    · rw [e2, show Tryz.parted 32 [104, 101, 97, 118, 121] = [[104, 101, 97, 118, 121]] by decide] at hp; cases hp; cases h1
    by_cases e3 : s = [100, 101, 97, 114]
    · rw [e3, show Tryz.parted 32 [100, 101, 97, 114] = [[100, 101, 97, 114]] by decide] at hp; cases hp; cases h1
    rw [bndR, if_neg e1, if_neg e2, if_neg e3, hp]
    match r, h1 with
    | [w1], h1 =>
      simp only [List.mem_cons, List.not_mem_nil, or_false] at h1
      subst h1
      simp only
      split
      · exact h2
      · rfl
    | [w1, w2], h1 =>
      simp only [List.mem_cons, List.not_mem_nil, or_false] at h1
      simp only
      split
      · rcases h1 with rfl | rfl <;> simp [h2]
      · rfl
    | _ :: _ :: _ :: _, _ => rfl
  rw [linR, hf]
  rfl
theorem len2 {L : List Int} (h : L.length = 2) : ∃ x y, L = [x, y] := by
  match L, h with
  | [x, y], _ => exact ⟨x, y, rfl⟩
theorem len1 {L : List Int} (h : L.length = 1) : ∃ x, L = [x] := by
  match L, h with
  | [x], _ => exact ⟨x, rfl⟩
theorem lin_cut {s w0 : List UInt8} {r : List (List UInt8)} (hp : Tryz.parted 32 s = w0 :: r) {x y : Int} (h : digsG r [] = some [x, y]) (hw : w0 = [99, 117, 116]) : linR s = (⟨1, x, y⟩, true) := by
  obtain ⟨h1, h2⟩ := digsG_some r [] _ h
  match r, h1, h2 with
  | [w1, w2], h1, h2 =>
    have d1 := h2 w1 (by simp)
    have d2 := h2 w2 (by simp)
    simp at h1
    have hb : bndR s = (⟨1, x, y⟩, true) := by
      have e1 : ¬ s = [108, 105, 103, 104, 116] := fun e => by rw [e, show Tryz.parted 32 [108, 105, 103, 104, 116] = [[108, 105, 103, 104, 116]] by decide] at hp; cases hp
      have e2 : ¬ s = [104, 101, 97, 118, 121] := fun e => by rw [e, show Tryz.parted 32 [104, 101, 97, 118, 121] = [[104, 101, 97, 118, 121]] by decide] at hp; cases hp
      have e3 : ¬ s = [100, 101, 97, 114] := fun e => by rw [e, show Tryz.parted 32 [100, 101, 97, 114] = [[100, 101, 97, 114]] by decide] at hp; cases hp
      rw [bndR, if_neg e1, if_neg e2, if_neg e3, hp]
      simp only [if_pos hw, d1, d2, h1.1, h1.2]
      rfl
    rw [linR, hb]
    rfl
theorem lin_broken {s w0 : List UInt8} {r : List (List UInt8)} (hp : Tryz.parted 32 s = w0 :: r) {x : Int} (h : digsG r [] = some [x]) (hw : w0 = [98, 114, 111, 107, 101, 110]) : linR s = (⟨4, x, 0⟩, true) := by
  obtain ⟨h1, h2⟩ := digsG_some r [] _ h
  match r, h1, h2 with
  | [w1], h1, h2 =>
    have d1 := h2 w1 (by simp)
    simp at h1
    have hb : bndR s = (⟨4, x, 0⟩, true) := by
      have e1 : ¬ s = [108, 105, 103, 104, 116] := fun e => by rw [e, show Tryz.parted 32 [108, 105, 103, 104, 116] = [[108, 105, 103, 104, 116]] by decide] at hp; cases hp
      have e2 : ¬ s = [104, 101, 97, 118, 121] := fun e => by rw [e, show Tryz.parted 32 [104, 101, 97, 118, 121] = [[104, 101, 97, 118, 121]] by decide] at hp; cases hp
      have e3 : ¬ s = [100, 101, 97, 114] := fun e => by rw [e, show Tryz.parted 32 [100, 101, 97, 114] = [[100, 101, 97, 114]] by decide] at hp; cases hp
      rw [bndR, if_neg e1, if_neg e2, if_neg e3, hp]
      simp only [if_pos hw, d1, h1]
    rw [linR, hb]
    rfl
theorem lin_else {s w0 : List UInt8} {r : List (List UInt8)} (hp : Tryz.parted 32 s = w0 :: r) {L : List Int} (h : digsG r [] = some L) (n1 : ¬ (w0 = [99, 117, 116] ∧ L.length = 2)) (n2 : ¬ (w0 = [98, 114, 111, 107, 101, 110] ∧ L.length = 1)) (e1 : ¬ s = [108, 105, 103, 104, 116]) (e2 : ¬ s = [104, 101, 97, 118, 121]) (e3 : ¬ s = [100, 101, 97, 114]) : linR s = (⟨0, 0, 0⟩, false) := by
  obtain ⟨h1, h2⟩ := digsG_some r [] _ h
  have hf : (bndR s).2 = false := by
    rw [bndR, if_neg e1, if_neg e2, if_neg e3, hp]
    have hl : L.length = r.length := by rw [h1]; simp
    match r, hl with
    | [], _ => rfl
    | [w1], hl => simp only; rw [if_neg (fun q => n2 ⟨q, by simpa using hl⟩)]
    | [w1, w2], hl => simp only; rw [if_neg (fun q => n1 ⟨q, by simpa using hl⟩)]
    | _ :: _ :: _ :: _, _ => rfl
  rw [linR, hf]
  rfl
theorem lin_lt : linR [108, 105, 103, 104, 116] = (⟨2, 0, 0⟩, true) := by decide
theorem lin_hv : linR [104, 101, 97, 118, 121] = (⟨3, 0, 0⟩, true) := by decide
theorem lin_dr : linR [100, 101, 97, 114] = (⟨5, 0, 0⟩, true) := by decide
theorem lin3 (w : List UInt8) : w = [99, 117, 116] ∨ w = [98, 114, 111, 107, 101, 110] ∨ (¬ w = [99, 117, 116] ∧ ¬ w = [98, 114, 111, 107, 101, 110]) := by
  by_cases h : w = [99, 117, 116]
  · exact .inl h
  · by_cases h' : w = [98, 114, 111, 107, 101, 110]
    · exact .inr (.inl h')
    · exact .inr (.inr ⟨h, h'⟩)
theorem l4 (w : List UInt8) (r : List (List UInt8)) : (digsG r [] = none ∧ digsR r = ([], false)) ∨ (∃ L, digsG r [] = some L ∧ digsR r = (L, true) ∧ w = [99, 117, 116]) ∨ (∃ L, digsG r [] = some L ∧ digsR r = (L, true) ∧ w = [98, 114, 111, 107, 101, 110]) ∨ (∃ L, digsG r [] = some L ∧ digsR r = (L, true) ∧ ¬ w = [99, 117, 116] ∧ ¬ w = [98, 114, 111, 107, 101, 110]) := by
  cases h : digsG r [] with
  | none => left; exact ⟨rfl, by rw [digsR, h]⟩
  | some L =>
    have e : digsR r = (L, true) := by rw [digsR, h]
    rcases lin3 w with q | q | ⟨q, q'⟩
    · exact .inr (.inl ⟨L, rfl, e, q⟩)
    · exact .inr (.inr (.inl ⟨L, rfl, e, q⟩))
    · exact .inr (.inr (.inr ⟨L, rfl, e, q, q'⟩))
theorem digsR_eq (r : List (List UInt8)) : (∃ L, digsG r [] = some L ∧ digsR r = (L, true)) ∨ (digsG r [] = none ∧ digsR r = ([], false)) := by
  cases h : digsG r [] with
  | none => right; exact ⟨rfl, by rw [digsR, h]⟩
  | some L => left; exact ⟨L, rfl, by rw [digsR, h]⟩

set_option maxHeartbeats 4000000 in
theorem rline_ok (s : List UInt8) (hs : s.length ≤ 6000) : ACalls Tryz.prog 41 [.s (tx s)] [] (.ret (.tup [.agg [.s (.int .i64 (linR s).1.r), .s (.int .i64 (linR s).1.a), .s (.int .i64 (linR s).1.c)], .s (.bool (linR s).2)]) [] []) := by
  obtain ⟨w0, r, hp⟩ : ∃ w0 r, Tryz.parted 32 s = w0 :: r := by
    have := Tryz.parted_ne 32 s
    cases h : Tryz.parted 32 s with
    | nil => exact absurd h this
    | cons a b => exact ⟨a, b, rfl⟩
  have hln := parted_len 32 s
  rw [hp] at hln
  simp only [List.length_cons] at hln
  have c1 := rparted_ok s 32 hs
  rw [hp, show (((32 : UInt8).toNat : Nat) : Int) = 32 from rfl] at c1
  have c2 := rdigits_ok r (by omega)
  have h1r : (1 : Int) ≤ (r.length : Int) + 1 := by omega
  refine acalls_of_ew Tryz.func41 rfl rfl (by simp [Tryz.f41]) (rs := [.cell 2 52, .tmp 3]) rfl ?_
  refine EW.seq fun Ψ0 n0 x0 => ?_
  refine EW.region gs_nil ?_
  simp
  refine n0 _ ?_; clear n0 x0
  refine EW.seq fun Ψ1 n1 x1 => ?_
  refine EW.region (gs_cons c1 gs_nil) ?_
  simp
  refine n1 _ ?_; clear n1 x1
  refine EW.seq fun Ψ2 n2 x2 => ?_
  rcases l4 w0 r with ⟨hd, he⟩ | ⟨L, hd, he, hw⟩ | ⟨L, hd, he, hw⟩ | ⟨L, hd, he, hw, hw2⟩
  · skip
    refine EW.region (gs_cons c2 gs_nil) ?_
    simp [h1r, he]
    refine n2 _ ?_; clear n2 x2
    refine EW.seq fun Ψ3 n3 x3 => ?_
    refine EW.block ?_
    refine EW.seq fun Ψ4 n4 x4 => ?_
    refine EW.region gs_nil ?_
    simp
    refine n4 _ ?_; clear n4 x4
    refine EW.cond (t := _) (by rfl) (fun hc15 => ?_) (fun hc15 => ?_)
    · clear hc15
      have hv := lin_no hp hd
      refine EW.skip ?_
      refine n3 _ ?_; clear n3 x3
      refine EW.seq fun Ψ5 n5 x5 => ?_
      refine EW.region gs_nil ?_
      simp
      refine n5 _ ?_; clear n5 x5
      refine EW.ret ?_
      refine ⟨_, _, _, rfl, ?_, ?_, ?_, ?_, ?_⟩ <;> simp [hv]
    · simp at hc15
  · skip
    refine EW.region (gs_cons c2 gs_nil) ?_
    simp [h1r, he]
    refine n2 _ ?_; clear n2 x2
    refine EW.seq fun Ψ6 n6 x6 => ?_
    refine EW.block ?_
    refine EW.seq fun Ψ7 n7 x7 => ?_
    refine EW.region gs_nil ?_
    simp
    refine n7 _ ?_; clear n7 x7
    refine EW.cond (t := _) (by rfl) (fun hc15 => ?_) (fun hc15 => ?_)
    · simp at hc15
    · clear hc15
      refine EW.seq fun Ψ8 n8 x8 => ?_
      refine EW.region gs_nil ?_
      simp [hw]
      refine n8 _ ?_; clear n8 x8
      refine EW.cond (t := _) (by rfl) (fun hc18 => ?_) (fun hc18 => ?_)
      · have q18 : L.length = 2 := by simp at hc18; omega
        obtain ⟨x, y, hxy⟩ := len2 q18
        have hv := lin_cut hp (hxy ▸ hd) hw
        refine EW.seq fun Ψ9 n9 x9 => ?_
        refine EW.drawn [] mixed gs_nil (by kernel_rfl) ?_
        simp [hxy]
        refine n9 _ ?_; clear n9 x9
        refine EW.ret ?_
        refine x6 _ _ rfl ?_; clear n6 x6
        refine ⟨_, _, _, rfl, ?_, ?_, ?_, ?_, ?_⟩ <;> simp [hv]
      · have q18 : ¬ L.length = 2 := by simp at hc18; omega
        have m1 : ¬ (w0 = [99, 117, 116] ∧ L.length = 2) := fun q => q18 q.2
        have m2 : ¬ (w0 = [98, 114, 111, 107, 101, 110] ∧ L.length = 1) := fun q => by rw [hw] at q; exact absurd q.1 (by decide)
        refine EW.seq fun Ψ10 n10 x10 => ?_
        refine EW.region gs_nil ?_
        simp [hw]
        refine n10 _ ?_; clear n10 x10
        refine EW.cond (t := _) (by rfl) (fun hc35 => ?_) (fun hc35 => ?_)
        · simp at hc35
        · clear hc35
          refine EW.seq fun Ψ11 n11 x11 => ?_
          refine EW.region gs_nil ?_
          simp
          refine n11 _ ?_; clear n11 x11
          refine EW.cond (t := _) (by rfl) (fun hc49 => ?_) (fun hc49 => ?_)
          · have e4 : s = [108, 105, 103, 104, 116] := by simpa using hc49
            have hv : linR s = (⟨2, 0, 0⟩, true) := by rw [e4]; exact lin_lt
            refine EW.seq fun Ψ12 n12 x12 => ?_
            refine EW.region gs_nil ?_
            simp
            refine n12 _ ?_; clear n12 x12
            refine EW.ret ?_
            refine x6 _ _ rfl ?_; clear n6 x6
            refine ⟨_, _, _, rfl, ?_, ?_, ?_, ?_, ?_⟩ <;> simp [hv]
          · have e4 : ¬ s = [108, 105, 103, 104, 116] := by simpa using hc49
            refine EW.seq fun Ψ13 n13 x13 => ?_
            refine EW.region gs_nil ?_
            simp
            refine n13 _ ?_; clear n13 x13
            refine EW.cond (t := _) (by rfl) (fun hc53 => ?_) (fun hc53 => ?_)
            · have e5 : s = [104, 101, 97, 118, 121] := by simpa using hc53
              have hv : linR s = (⟨3, 0, 0⟩, true) := by rw [e5]; exact lin_hv
              refine EW.seq fun Ψ14 n14 x14 => ?_
              refine EW.region gs_nil ?_
              simp
              refine n14 _ ?_; clear n14 x14
              refine EW.ret ?_
              refine x6 _ _ rfl ?_; clear n6 x6
              refine ⟨_, _, _, rfl, ?_, ?_, ?_, ?_, ?_⟩ <;> simp [hv]
            · have e5 : ¬ s = [104, 101, 97, 118, 121] := by simpa using hc53
              refine EW.seq fun Ψ15 n15 x15 => ?_
              refine EW.region gs_nil ?_
              simp
              refine n15 _ ?_; clear n15 x15
              refine EW.cond (t := _) (by rfl) (fun hc57 => ?_) (fun hc57 => ?_)
              · have e6 : s = [100, 101, 97, 114] := by simpa using hc57
                have hv : linR s = (⟨5, 0, 0⟩, true) := by rw [e6]; exact lin_dr
                refine EW.seq fun Ψ16 n16 x16 => ?_
                refine EW.region gs_nil ?_
                simp
                refine n16 _ ?_; clear n16 x16
                refine EW.ret ?_
                refine x6 _ _ rfl ?_; clear n6 x6
                refine ⟨_, _, _, rfl, ?_, ?_, ?_, ?_, ?_⟩ <;> simp [hv]
              · have e6 : ¬ s = [100, 101, 97, 114] := by simpa using hc57
                have hv := lin_else hp hd m1 m2 e4 e5 e6
                refine EW.skip ?_
                refine n6 _ ?_; clear n6 x6
                refine EW.seq fun Ψ17 n17 x17 => ?_
                refine EW.region gs_nil ?_
                simp
                refine n17 _ ?_; clear n17 x17
                refine EW.ret ?_
                refine ⟨_, _, _, rfl, ?_, ?_, ?_, ?_, ?_⟩ <;> simp [hv]
  · skip
    refine EW.region (gs_cons c2 gs_nil) ?_
    simp [h1r, he]
    refine n2 _ ?_; clear n2 x2
    refine EW.seq fun Ψ18 n18 x18 => ?_
    refine EW.block ?_
    refine EW.seq fun Ψ19 n19 x19 => ?_
    refine EW.region gs_nil ?_
    simp
    refine n19 _ ?_; clear n19 x19
    refine EW.cond (t := _) (by rfl) (fun hc15 => ?_) (fun hc15 => ?_)
    · simp at hc15
    · clear hc15
      refine EW.seq fun Ψ20 n20 x20 => ?_
      refine EW.region gs_nil ?_
      simp [hw]
      refine n20 _ ?_; clear n20 x20
      refine EW.cond (t := _) (by rfl) (fun hc18 => ?_) (fun hc18 => ?_)
      · simp at hc18
      · clear hc18
        have m1 : ¬ (w0 = [99, 117, 116] ∧ L.length = 2) := fun q => by rw [hw] at q; exact absurd q.1 (by decide)
        refine EW.seq fun Ψ21 n21 x21 => ?_
        refine EW.region gs_nil ?_
        simp [hw]
        refine n21 _ ?_; clear n21 x21
        refine EW.cond (t := _) (by rfl) (fun hc35 => ?_) (fun hc35 => ?_)
        · have q35 : L.length = 1 := by simp at hc35; omega
          obtain ⟨x, hxy⟩ := len1 q35
          have hv := lin_broken hp (hxy ▸ hd) hw
          refine EW.seq fun Ψ22 n22 x22 => ?_
          refine EW.region gs_nil ?_
          simp [hxy]
          refine n22 _ ?_; clear n22 x22
          refine EW.ret ?_
          refine x18 _ _ rfl ?_; clear n18 x18
          refine ⟨_, _, _, rfl, ?_, ?_, ?_, ?_, ?_⟩ <;> simp [hv]
        · have q35 : ¬ L.length = 1 := by simp at hc35; omega
          have m2 : ¬ (w0 = [98, 114, 111, 107, 101, 110] ∧ L.length = 1) := fun q => q35 q.2
          refine EW.seq fun Ψ23 n23 x23 => ?_
          refine EW.region gs_nil ?_
          simp
          refine n23 _ ?_; clear n23 x23
          refine EW.cond (t := _) (by rfl) (fun hc49 => ?_) (fun hc49 => ?_)
          · have e4 : s = [108, 105, 103, 104, 116] := by simpa using hc49
            have hv : linR s = (⟨2, 0, 0⟩, true) := by rw [e4]; exact lin_lt
            refine EW.seq fun Ψ24 n24 x24 => ?_
            refine EW.region gs_nil ?_
            simp
            refine n24 _ ?_; clear n24 x24
            refine EW.ret ?_
            refine x18 _ _ rfl ?_; clear n18 x18
            refine ⟨_, _, _, rfl, ?_, ?_, ?_, ?_, ?_⟩ <;> simp [hv]
          · have e4 : ¬ s = [108, 105, 103, 104, 116] := by simpa using hc49
            refine EW.seq fun Ψ25 n25 x25 => ?_
            refine EW.region gs_nil ?_
            simp
            refine n25 _ ?_; clear n25 x25
            refine EW.cond (t := _) (by rfl) (fun hc53 => ?_) (fun hc53 => ?_)
            · have e5 : s = [104, 101, 97, 118, 121] := by simpa using hc53
              have hv : linR s = (⟨3, 0, 0⟩, true) := by rw [e5]; exact lin_hv
              refine EW.seq fun Ψ26 n26 x26 => ?_
              refine EW.region gs_nil ?_
              simp
              refine n26 _ ?_; clear n26 x26
              refine EW.ret ?_
              refine x18 _ _ rfl ?_; clear n18 x18
              refine ⟨_, _, _, rfl, ?_, ?_, ?_, ?_, ?_⟩ <;> simp [hv]
            · have e5 : ¬ s = [104, 101, 97, 118, 121] := by simpa using hc53
              refine EW.seq fun Ψ27 n27 x27 => ?_
              refine EW.region gs_nil ?_
              simp
              refine n27 _ ?_; clear n27 x27
              refine EW.cond (t := _) (by rfl) (fun hc57 => ?_) (fun hc57 => ?_)
              · have e6 : s = [100, 101, 97, 114] := by simpa using hc57
                have hv : linR s = (⟨5, 0, 0⟩, true) := by rw [e6]; exact lin_dr
                refine EW.seq fun Ψ28 n28 x28 => ?_
                refine EW.region gs_nil ?_
                simp
                refine n28 _ ?_; clear n28 x28
                refine EW.ret ?_
                refine x18 _ _ rfl ?_; clear n18 x18
                refine ⟨_, _, _, rfl, ?_, ?_, ?_, ?_, ?_⟩ <;> simp [hv]
              · have e6 : ¬ s = [100, 101, 97, 114] := by simpa using hc57
                have hv := lin_else hp hd m1 m2 e4 e5 e6
                refine EW.skip ?_
                refine n18 _ ?_; clear n18 x18
                refine EW.seq fun Ψ29 n29 x29 => ?_
                refine EW.region gs_nil ?_
                simp
                refine n29 _ ?_; clear n29 x29
                refine EW.ret ?_
                refine ⟨_, _, _, rfl, ?_, ?_, ?_, ?_, ?_⟩ <;> simp [hv]
  · skip
    refine EW.region (gs_cons c2 gs_nil) ?_
    simp [h1r, he]
    refine n2 _ ?_; clear n2 x2
    refine EW.seq fun Ψ30 n30 x30 => ?_
    refine EW.block ?_
    refine EW.seq fun Ψ31 n31 x31 => ?_
    refine EW.region gs_nil ?_
    simp
    refine n31 _ ?_; clear n31 x31
    refine EW.cond (t := _) (by rfl) (fun hc15 => ?_) (fun hc15 => ?_)
    · simp at hc15
    · clear hc15
      refine EW.seq fun Ψ32 n32 x32 => ?_
      refine EW.region gs_nil ?_
      simp [hw, hw2]
      refine n32 _ ?_; clear n32 x32
      refine EW.cond (t := _) (by rfl) (fun hc18 => ?_) (fun hc18 => ?_)
      · simp at hc18
      · clear hc18
        have m1 : ¬ (w0 = [99, 117, 116] ∧ L.length = 2) := fun q => hw q.1
        have m2 : ¬ (w0 = [98, 114, 111, 107, 101, 110] ∧ L.length = 1) := fun q => hw2 q.1
        refine EW.seq fun Ψ33 n33 x33 => ?_
        refine EW.region gs_nil ?_
        simp [hw, hw2]
        refine n33 _ ?_; clear n33 x33
        refine EW.cond (t := _) (by rfl) (fun hc35 => ?_) (fun hc35 => ?_)
        · simp at hc35
        · clear hc35
          refine EW.seq fun Ψ34 n34 x34 => ?_
          refine EW.region gs_nil ?_
          simp
          refine n34 _ ?_; clear n34 x34
          refine EW.cond (t := _) (by rfl) (fun hc49 => ?_) (fun hc49 => ?_)
          · have e4 : s = [108, 105, 103, 104, 116] := by simpa using hc49
            have hv : linR s = (⟨2, 0, 0⟩, true) := by rw [e4]; exact lin_lt
            refine EW.seq fun Ψ35 n35 x35 => ?_
            refine EW.region gs_nil ?_
            simp
            refine n35 _ ?_; clear n35 x35
            refine EW.ret ?_
            refine x30 _ _ rfl ?_; clear n30 x30
            refine ⟨_, _, _, rfl, ?_, ?_, ?_, ?_, ?_⟩ <;> simp [hv]
          · have e4 : ¬ s = [108, 105, 103, 104, 116] := by simpa using hc49
            refine EW.seq fun Ψ36 n36 x36 => ?_
            refine EW.region gs_nil ?_
            simp
            refine n36 _ ?_; clear n36 x36
            refine EW.cond (t := _) (by rfl) (fun hc53 => ?_) (fun hc53 => ?_)
            · have e5 : s = [104, 101, 97, 118, 121] := by simpa using hc53
              have hv : linR s = (⟨3, 0, 0⟩, true) := by rw [e5]; exact lin_hv
              refine EW.seq fun Ψ37 n37 x37 => ?_
              refine EW.region gs_nil ?_
              simp
              refine n37 _ ?_; clear n37 x37
              refine EW.ret ?_
              refine x30 _ _ rfl ?_; clear n30 x30
              refine ⟨_, _, _, rfl, ?_, ?_, ?_, ?_, ?_⟩ <;> simp [hv]
            · have e5 : ¬ s = [104, 101, 97, 118, 121] := by simpa using hc53
              refine EW.seq fun Ψ38 n38 x38 => ?_
              refine EW.region gs_nil ?_
              simp
              refine n38 _ ?_; clear n38 x38
              refine EW.cond (t := _) (by rfl) (fun hc57 => ?_) (fun hc57 => ?_)
              · have e6 : s = [100, 101, 97, 114] := by simpa using hc57
                have hv : linR s = (⟨5, 0, 0⟩, true) := by rw [e6]; exact lin_dr
                refine EW.seq fun Ψ39 n39 x39 => ?_
                refine EW.region gs_nil ?_
                simp
                refine n39 _ ?_; clear n39 x39
                refine EW.ret ?_
                refine x30 _ _ rfl ?_; clear n30 x30
                refine ⟨_, _, _, rfl, ?_, ?_, ?_, ?_, ?_⟩ <;> simp [hv]
              · have e6 : ¬ s = [100, 101, 97, 114] := by simpa using hc57
                have hv := lin_else hp hd m1 m2 e4 e5 e6
                refine EW.skip ?_
                refine n30 _ ?_; clear n30 x30
                refine EW.seq fun Ψ40 n40 x40 => ?_
                refine EW.region gs_nil ?_
                simp
                refine n40 _ ?_; clear n40 x40
                refine EW.ret ?_
                refine ⟨_, _, _, rfl, ?_, ?_, ?_, ?_, ?_⟩ <;> simp [hv]

end Go.Ev
end

section
set_option linter.all false
open Go Go.Ev Go.Proofs
namespace Go.Ev
set_option linter.unusedSimpArgs false
set_option linter.unusedVariables false


theorem linR_2 (s : List UInt8) : (linR s).2 = (bndR s).2 := by
  unfold linR
  split
  · rfl
  · rename_i h; simpa using h
theorem linR_1 {s : List UInt8} (h : (bndR s).2 = true) : linR s = bndR s := if_pos h
def rpS (rows : List (List UInt8)) (p : Nat × List MBd) : St :=
  St.lit 58 [(5, .sl false false .Z .no rows.length (eTx rows)), (6, .sl false false .Z (.tok 39) p.2.length (eBds p.2)), (7, .s (.int .i64 p.1))] [] [] [(39, (p.2.length, 3))]
attribute [simp] rpS
theorem eBds_app1 (l : List MBd) (b : MBd) : eBds (l ++ [b]) = eBds l ++ [D.s (.int .i64 b.r), D.s (.int .i64 b.a), D.s (.int .i64 b.c)] := by
  unfold eBds; rw [List.flatMap_append]; rfl

set_option maxHeartbeats 4000000 in
theorem rparse_ok (t : List UInt8) (ls : List (List UInt8)) (la : List UInt8) (ht : t.length ≤ 6000) (hp : Tryz.parted 10 t = ls ++ [la]) : ACalls Tryz.prog 14 [.s (tx t)] [] (.ret (.tup [.sl false false .U .no (prsR ls la).1.length (eBds (prsR ls la).1), .s (.int .i64 (prsR ls la).2.1), .s (.int .i64 (prsR ls la).2.2)]) [] []) := by
  have hn : ls.length ≤ 6000 := by have := parted_len 10 t; rw [hp] at this; simp at this; omega
  have hm : ∀ p ∈ ls, p.length ≤ 6000 := fun p h => by have := (parted_mem 10 t p (by rw [hp]; simp [h])).1; omega
  have c1 := rparted_ok t 10 ht
  rw [hp, show (((10 : UInt8).toNat : Nat) : Int) = 10 from rfl] at c1
  obtain ⟨rows, hrw⟩ : ∃ rows, rows = ls ++ [la] := ⟨_, rfl⟩
  have hrl : rows.length = ls.length + 1 := by rw [hrw]; simp
  have hg : ∀ k (h : k < ls.length), rows[k]? = some ls[k] := fun k h => by rw [hrw, List.getElem?_append_left h, List.getElem?_eq_getElem h]
  have hgl : rows[ls.length]? = some la := by rw [hrw]; simp
  rw [← hrw] at c1
  clear hrw
  have hgb : rows[ls.length] = la := by have := hgl; rw [List.getElem?_eq_getElem (by omega)] at this; exact Option.some.inj this
  have ew : IntKind.i64.wrap (ls.length : Int) = ls.length := wr_small (by omega) (by omega)
  refine acalls_of_ew Tryz.func14 rfl rfl (by simp [Tryz.f14]) (rs := [.tmp 2, .tmp 3, .tmp 4]) rfl ?_
  refine EW.seq fun Ψ0 n0 x0 => ?_
  refine EW.region gs_nil ?_
  simp
  refine n0 _ ?_; clear n0 x0
  refine EW.seq fun Ψ1 n1 x1 => ?_
  refine EW.seq fun Ψ2 n2 x2 => ?_
  refine EW.region gs_nil ?_
  simp
  refine n2 _ ?_; clear n2 x2
  refine EW.cond (t := _) (by rfl) (fun hc14 => ?_) (fun hc14 => ?_)
  · simp at hc14; omega
  · clear hc14
    refine EW.skip ?_
    refine n1 _ ?_; clear n1 x1
    refine EW.seq fun Ψ3 n3 x3 => ?_
    refine EW.region (gs_cons c1 gs_nil) ?_
    simp
    refine n3 _ ?_; clear n3 x3
    refine EW.seq fun Ψ4 n4 x4 => ?_
    refine EW.region gs_nil ?_
    simp
    refine n4 _ ?_; clear n4 x4
    refine EW.seq fun Ψ5 n5 x5 => ?_
    refine EW.seq fun Ψ6 n6 x6 => ?_
    refine EW.region gs_nil ?_
    simp
    refine n6 _ ?_; clear n6 x6
    refine EW.block ?_
    refine EW.loopA (rpS rows) (fun p => p.1 ≤ ls.length ∧ p.2.length = p.1 ∧ prsG (ls.drop p.1) p.1 p.2 = prsG ls 0 []) (fun p => ls.length - p.1) (0, []) (St.le_lit rfl (by simp) (by simp) (by simp) (by simp) (by simp)) ?_ fun p hk => ?_
    · simp
    obtain ⟨k, acc⟩ := p
    obtain ⟨hk, hal, hw⟩ := hk
    simp only at hk hal hw
    refine EW.seq fun Ψ7 n7 x7 => ?_
    refine EW.seq fun Ψ8 n8 x8 => ?_
    refine EW.region gs_nil ?_
    simp [hrl, ew]
    refine n8 _ ?_; clear n8 x8
    refine EW.cond (t := _) (by rfl) (fun hc21 => ?_) (fun hc21 => ?_)
    · have hc21 : k < ls.length := by simp [hrl, ew] at hc21; omega
      have hdr : ls.drop k = ls[k] :: ls.drop (k + 1) := List.drop_eq_getElem_cons hc21
      have hmk := hm ls[k] (List.getElem_mem hc21)
      have e1 := hg k hc21
      have hkr : k < rows.length := by omega
      have e1b : rows[k] = ls[k] := by have := e1; rw [List.getElem?_eq_getElem hkr] at this; exact Option.some.inj this
      refine EW.skip ?_
      refine n7 _ ?_; clear n7 x7
      refine EW.seq fun Ψ9 n9 x9 => ?_
      refine EW.block ?_
      refine EW.seq fun Ψ10 n10 x10 => ?_
      refine EW.region (gs_cons (rline_ok ls[k] hmk) gs_nil) ?_
      simp [hkr, e1, e1b, show (k : Int) < (ls.length : Int) + 1 by omega]
      refine n10 _ ?_; clear n10 x10
      refine EW.seq fun Ψ11 n11 x11 => ?_
      refine EW.seq fun Ψ12 n12 x12 => ?_
      refine EW.region gs_nil ?_
      simp
      refine n12 _ ?_; clear n12 x12
      refine EW.cond (t := _) (by rfl) (fun hc33 => ?_) (fun hc33 => ?_)
      · have q33 : (bndR ls[k]).2 = false := by simpa [linR_2] using hc33
        have hv : prsR ls la = ([], ((k + 1 : Nat) : Int), 2) := by unfold prsR; rw [← hw, hdr, prsG, if_neg (by simp [q33])]
        have e3 : IntKind.i64.wrap ((k : Int) + 1) = k + 1 := wr_small (by omega) (by omega)
        refine EW.seq fun Ψ13 n13 x13 => ?_
        refine EW.region gs_nil ?_
        simp
        refine n13 _ ?_; clear n13 x13
        refine EW.ret ?_
        refine x11 _ _ rfl ?_; clear n11 x11
        refine x9 _ _ rfl ?_; clear n9 x9
        refine x5 _ _ rfl ?_; clear n5 x5
        refine ⟨_, _, _, rfl, ?_, ?_, ?_, ?_, ?_⟩ <;> simp [hv, e3]
      · have q33 : (bndR ls[k]).2 = true := by simpa [linR_2] using hc33
        have e8 := linR_1 q33
        refine EW.skip ?_
        refine n11 _ ?_; clear n11 x11
        refine EW.hide fun Ψ14 n14 => ?_
        refine EW.region gs_nil ?_
        simp [e8, hal, show (k + 1) * 24 ≤ 140737488355328 by omega]
        refine n14 _ _ ?_; clear n14
        refine n9 _ ?_; clear n9 x9
        refine EW.hide fun Ψ15 n15 => ?_
        refine EW.region gs_nil ?_
        simp
        refine n15 _ _ ?_; clear n15
        have e3 : IntKind.i64.wrap ((k : Int) + 1) = k + 1 := wr_small (by omega) (by omega)
        refine ⟨(k + 1, acc ++ [(bndR ls[k]).1]), (St.le_lit rfl (by simp [e3, hal, hrl]) (by simp) (by simp) (by simp [hal]) (by simp)), ?_, ?_⟩
        · refine ⟨by omega, by simp [hal], ?_⟩
          rw [← hw, hdr, prsG, if_pos q33]
        · simp; omega
    · have hkl : k = ls.length := by simp [hrl, ew] at hc21; omega
      have hG : prsG ls 0 [] = .inl acc := by rw [← hw, hkl, List.drop_length]; rfl
      refine EW.exit ?_
      refine x7 _ _ rfl ?_; clear n7 x7
      refine n5 _ ?_; clear n5 x5
      refine EW.seq fun Ψ16 n16 x16 => ?_
      refine EW.seq fun Ψ17 n17 x17 => ?_
      refine EW.region gs_nil ?_
      simp [hrl, ew, hgl, hgb, show (ls.length : Int) < (ls.length : Int) + 1 by omega]
      refine n17 _ ?_; clear n17 x17
      refine EW.cond (t := _) (by rfl) (fun hc46 => ?_) (fun hc46 => ?_)
      · have q46 : ¬ la = [] := by simpa using hc46
        have hv : prsR ls la = ([], (ls.length : Int) + 1, 2) := by unfold prsR; rw [hG]; simp [q46]
        have e3 : True := trivial
        refine EW.seq fun Ψ18 n18 x18 => ?_
        refine EW.region gs_nil ?_
        simp [hrl]
        refine n18 _ ?_; clear n18 x18
        refine EW.ret ?_
        refine x16 _ _ rfl ?_; clear n16 x16
        refine ⟨_, _, _, rfl, ?_, ?_, ?_, ?_, ?_⟩ <;> simp [hv, e3]
      · have q46 : la = [] := by simpa using hc46
        refine EW.skip ?_
        refine n16 _ ?_; clear n16 x16
        refine EW.seq fun Ψ19 n19 x19 => ?_
        refine EW.seq fun Ψ20 n20 x20 => ?_
        refine EW.region (gs_cons (rreasons_ok acc (by omega)) gs_nil) ?_
        simp
        refine n20 _ ?_; clear n20 x20
        refine EW.seq fun Ψ21 n21 x21 => ?_
        refine EW.region gs_nil ?_
        simp
        refine n21 _ ?_; clear n21 x21
        refine EW.cond (t := _) (by rfl) (fun hc55 => ?_) (fun hc55 => ?_)
        · have q55 : ¬ (reaF acc []).2 = 0 := by simpa using hc55
          have hv : prsR ls la = ([], 0, (reaF acc []).2) := by unfold prsR; rw [hG]; simp [q46, q55]
          have e3 : True := trivial
          refine EW.seq fun Ψ22 n22 x22 => ?_
          refine EW.region gs_nil ?_
          simp
          refine n22 _ ?_; clear n22 x22
          refine EW.ret ?_
          refine x19 _ _ rfl ?_; clear n19 x19
          refine ⟨_, _, _, rfl, ?_, ?_, ?_, ?_, ?_⟩ <;> simp [hv, e3]
        · have q55 : (reaF acc []).2 = 0 := by simpa using hc55
          have hv : prsR ls la = (acc, 0, 0) := by unfold prsR; rw [hG]; simp [q46, q55]
          have e3 : True := trivial
          refine EW.skip ?_
          refine n19 _ ?_; clear n19 x19
          refine EW.seq fun Ψ23 n23 x23 => ?_
          refine EW.region gs_nil ?_
          simp
          refine n23 _ ?_; clear n23 x23
          refine EW.ret ?_
          refine ⟨_, _, _, rfl, ?_, ?_, ?_, ?_, ?_⟩ <;> simp [hv, e3]

end Go.Ev
end

section
set_option linter.all false
open Go Go.Ev Go.Proofs
namespace Go.Ev
set_option linter.unusedSimpArgs false
set_option linter.unusedVariables false

set_option maxHeartbeats 4000000 in
theorem parse_long (t : List UInt8) (ht : 60000 < t.length) : ACalls Tryz.prog 13 [.s (tx t)] [] (.ret (.tup [.sl false false .U .no 0 (eBds []), .s (.int .i64 0), .s (.int .i64 10)]) [] []) := by
  refine acalls_of_ew Tryz.func13 rfl rfl (by simp [Tryz.f13]) (rs := [.tmp 2, .tmp 3, .tmp 4]) rfl ?_
  refine EW.seq fun Ψ0 n0 x0 => ?_
  refine EW.region gs_nil ?_
  simp
  refine n0 _ ?_; clear n0 x0
  refine EW.seq fun Ψ1 n1 x1 => ?_
  refine EW.seq fun Ψ2 n2 x2 => ?_
  refine EW.region gs_nil ?_
  simp
  refine n2 _ ?_; clear n2 x2
  refine EW.cond (t := _) (by rfl) (fun hc15 => ?_) (fun hc15 => ?_)
  · clear hc15
    refine EW.seq fun Ψ3 n3 x3 => ?_
    refine EW.region gs_nil ?_
    simp
    refine n3 _ ?_; clear n3 x3
    refine EW.ret ?_
    refine x1 _ _ rfl ?_; clear n1 x1
    refine ⟨_, _, _, rfl, ?_, ?_, ?_, ?_, ?_⟩ <;> simp
  · simp at hc15; omega

set_option maxHeartbeats 4000000 in
theorem rparse_long (t : List UInt8) (ht : 60000 < t.length) : ACalls Tryz.prog 14 [.s (tx t)] [] (.ret (.tup [.sl false false .U .no 0 (eBds []), .s (.int .i64 0), .s (.int .i64 10)]) [] []) := by
  refine acalls_of_ew Tryz.func14 rfl rfl (by simp [Tryz.f14]) (rs := [.tmp 2, .tmp 3, .tmp 4]) rfl ?_
  refine EW.seq fun Ψ0 n0 x0 => ?_
  refine EW.region gs_nil ?_
  simp
  refine n0 _ ?_; clear n0 x0
  refine EW.seq fun Ψ1 n1 x1 => ?_
  refine EW.seq fun Ψ2 n2 x2 => ?_
  refine EW.region gs_nil ?_
  simp
  refine n2 _ ?_; clear n2 x2
  refine EW.cond (t := _) (by rfl) (fun hc14 => ?_) (fun hc14 => ?_)
  · clear hc14
    refine EW.seq fun Ψ3 n3 x3 => ?_
    refine EW.region gs_nil ?_
    simp
    refine n3 _ ?_; clear n3 x3
    refine EW.ret ?_
    refine x1 _ _ rfl ?_; clear n1 x1
    refine ⟨_, _, _, rfl, ?_, ?_, ?_, ?_, ?_⟩ <;> simp
  · simp at hc14; omega


/-- A text with a byte turned, struck out or set in. -/
def bentR (s : List UInt8) (a h : Int) (c : UInt8) : List UInt8 :=
  if s = [] then [c] else if rndV h 3 = 0 then s.take (rndV a s.length).toNat ++ c :: s.drop ((rndV a s.length).toNat + 1)
  else if rndV h 3 = 1 then s.take (rndV a s.length).toNat ++ s.drop ((rndV a s.length).toNat + 1)
  else s.take (rndV a s.length).toNat ++ c :: s.drop (rndV a s.length).toNat
theorem rnd_nat' (a n : Int) (h1 : 1 ≤ n) (hn : n < 1000000000) : ∃ i : Nat, rndV a n = (i : Int) ∧ (i : Int) < n := by
  unfold rndV
  split
  · exact ⟨0, rfl, by omega⟩
  · have t1 := Int.tmod_lt_of_pos a (show 0 < n by omega)
    have t2 : -n < a.tmod n := by
      rcases Int.le_total 0 a with h | h
      · have := Int.tmod_nonneg n h; omega
      · have h1 := Int.tmod_lt_of_pos (-a) (show 0 < n by omega)
        rw [Int.neg_tmod] at h1
        omega
    have w : IntKind.i64.wrap (a.tmod n + n) = a.tmod n + n := wr_small (by omega) (by omega)
    rw [w]
    have s1 := Int.tmod_nonneg n (show 0 ≤ a.tmod n + n by omega)
    have s2 := Int.tmod_lt_of_pos (a.tmod n + n) (show 0 < n by omega)
    exact ⟨((a.tmod n + n).tmod n).toNat, by omega, by omega⟩
theorem bent_len (s : List UInt8) (a h : Int) (c : UInt8) : (bentR s a h c).length ≤ s.length + 1 := by
  unfold bentR
  split
  · rename_i e; simp
  · split
    · simp; omega
    · split
      · simp; omega
      · simp; omega

set_option maxHeartbeats 4000000 in
theorem bent_ok (s : List UInt8) (a h : Int) (c : UInt8) (hs : s.length ≤ 6000) : ACalls Tryz.prog 12 [.s (tx s), .s (.int .i64 a), .s (.int .i64 h), .s (.int .u8 c.toNat)] [] (.ret (.s (tx (bentR s a h c))) [] []) := by
  have c3 := round_ok a s.length (by omega)
  have c4 := round_ok h 3 (by omega)
  obtain ⟨q, hq⟩ : ∃ q, q = rndV h 3 := ⟨_, rfl⟩
  refine acalls_of_ew Tryz.func12 rfl rfl (by simp [Tryz.f12]) (rs := [.tmp 8]) rfl ?_
  refine EW.seq fun Ψ0 n0 x0 => ?_
  refine EW.region gs_nil ?_
  simp
  refine n0 _ ?_; clear n0 x0
  refine EW.seq fun Ψ1 n1 x1 => ?_
  refine EW.seq fun Ψ2 n2 x2 => ?_
  refine EW.region gs_nil ?_
  simp
  refine n2 _ ?_; clear n2 x2
  refine EW.cond (t := _) (by rfl) (fun hc11 => ?_) (fun hc11 => ?_)
  · have q11 : s = [] := by simpa using hc11
    have hv : bentR s a h c = [c] := if_pos q11
    refine EW.seq fun Ψ3 n3 x3 => ?_
    refine EW.region gs_nil ?_
    simp
    refine n3 _ ?_; clear n3 x3
    refine EW.ret ?_
    refine x1 _ _ rfl ?_; clear n1 x1
    refine ⟨_, _, _, rfl, ?_, ?_, ?_, ?_, ?_⟩ <;> simp [hv]
  · have q11 : ¬ s = [] := by simpa using hc11
    have hpos : 0 < s.length := List.length_pos_iff.2 q11
    obtain ⟨i, hi, hil⟩ := rnd_nat' a s.length (by omega) (by omega)
    have hil : i < s.length := by omega
    have hbr : bentR s a h c = if q = 0 then s.take i ++ c :: s.drop (i + 1) else if q = 1 then s.take i ++ s.drop (i + 1) else s.take i ++ c :: s.drop i := by unfold bentR; rw [if_neg q11, hi, Int.toNat_natCast, hq]
    rw [hi] at c3
    rw [← hq] at c4
    have e3 : IntKind.i64.wrap ((i : Int) + 1) = i + 1 := wr_small (by omega) (by omega)
    have s1 := sl_lo .i64 s (i + 1) (by omega)
    rw [show ((i + 1 : Nat) : Int) = (i : Int) + 1 from rfl] at s1
    have s2 := sl_lo .i64 s i (by omega)
    have s3 := sl_hi .i64 s i (by omega)
    refine EW.skip ?_
    refine n1 _ ?_; clear n1 x1
    refine EW.seq fun Ψ4 n4 x4 => ?_
    refine EW.region (gs_cons c3 gs_nil) ?_
    simp
    refine n4 _ ?_; clear n4 x4
    refine EW.seq fun Ψ5 n5 x5 => ?_
    refine EW.seq fun Ψ6 n6 x6 => ?_
    refine EW.region (gs_cons c4 gs_nil) ?_
    simp
    refine n6 _ ?_; clear n6 x6
    refine EW.block ?_
    refine EW.seq fun Ψ7 n7 x7 => ?_
    refine EW.region gs_nil ?_
    simp
    refine n7 _ ?_; clear n7 x7
    refine EW.cond (t := _) (by rfl) (fun hc21 => ?_) (fun hc21 => ?_)
    · have q21 : q = 0 := by simpa using hc21
      have hv : bentR s a h c = s.take i ++ c :: s.drop (i + 1) := by rw [hbr, if_pos q21]
      refine EW.seq fun Ψ8 n8 x8 => ?_
      refine EW.drawn [] mixed gs_nil (by kernel_rfl) ?_
      simp [e3, s1, s3, q_cat _ _ (s.take i) ([c]) (by simp; omega), q_cat _ _ (s.take i ++ [c]) (s.drop (i + 1)) (by simp; omega)]
      refine n8 _ ?_; clear n8 x8
      refine EW.ret ?_
      refine x5 _ _ rfl ?_; clear n5 x5
      refine ⟨_, _, _, rfl, ?_, ?_, ?_, ?_, ?_⟩ <;> simp [hv]
    · have q21 : ¬ q = 0 := by simpa using hc21
      refine EW.seq fun Ψ9 n9 x9 => ?_
      refine EW.region gs_nil ?_
      simp
      refine n9 _ ?_; clear n9 x9
      refine EW.cond (t := _) (by rfl) (fun hc35 => ?_) (fun hc35 => ?_)
      · have q35 : q = 1 := by simpa using hc35
        have hv : bentR s a h c = s.take i ++ s.drop (i + 1) := by rw [hbr, if_neg q21, if_pos q35]
        refine EW.seq fun Ψ10 n10 x10 => ?_
        refine EW.drawn [] mixed gs_nil (by kernel_rfl) ?_
        simp [e3, s1, s3, q_cat _ _ (s.take i) (s.drop (i + 1)) (by simp; omega)]
        refine n10 _ ?_; clear n10 x10
        refine EW.ret ?_
        refine x5 _ _ rfl ?_; clear n5 x5
        refine ⟨_, _, _, rfl, ?_, ?_, ?_, ?_, ?_⟩ <;> simp [hv]
      · have q35 : ¬ q = 1 := by simpa using hc35
        have hv : bentR s a h c = s.take i ++ c :: s.drop i := by rw [hbr, if_neg q21, if_neg q35]
        refine EW.skip ?_
        refine n5 _ ?_; clear n5 x5
        refine EW.seq fun Ψ11 n11 x11 => ?_
        refine EW.drawn [] mixed gs_nil (by kernel_rfl) ?_
        simp [e3, s2, s3, q_cat _ _ (s.take i) ([c]) (by simp; omega), q_cat _ _ (s.take i ++ [c]) (s.drop i) (by simp; omega)]
        refine n11 _ ?_; clear n11 x11
        refine EW.ret ?_
        refine ⟨_, _, _, rfl, ?_, ?_, ?_, ?_, ?_⟩ <;> simp [hv]

end Go.Ev
end
