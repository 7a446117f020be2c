/- Lemmas for the claims of this seat: an evaluator over abstract values, its soundness, and the contracts of the functions of melt that it walks; no premise beyond what each theorem states. -/
import Derived.Test.YtdcelpomnboeoaaGreatDoorGAP
import Derived.Test.YtdcelpomnboeoaaGreatDoorGAH
import Derived.Test.YtdcelpomnboeoaaGreatDoorGAO
import Derived.Test.YtdcelpomnboeoaaGreatDoorGAJ

section
set_option linter.all false
open Go Go.Ev Go.Proofs
namespace Go.Ev
set_option linter.unusedSimpArgs false
set_option linter.unusedVariables false
/-! ### Texts: joined, read at a place, cut -/
@[simp] theorem bsz (l : List UInt8) : (⟨l.toArray⟩ : ByteArray).size = l.length := by simp [ByteArray.size]
theorem ba_ext {a b : ByteArray} (h : a.data = b.data) : a = b := by cases a; cases b; simp at h; subst h; rfl
theorem ba_app (a b : List UInt8) : ((⟨a.toArray⟩ : ByteArray) ++ ⟨b.toArray⟩) = ⟨(a ++ b).toArray⟩ := by
  apply ba_ext
  rw [ByteArray.data_append]
  simp
theorem ba_ext' (l : List UInt8) (i j : Nat) : (⟨l.toArray⟩ : ByteArray).extract i j = ⟨((l.drop i).take (j - i)).toArray⟩ := by
  apply ba_ext
  rw [ByteArray.data_extract]
  apply Array.ext'
  simp [List.extract_eq_take_drop]
theorem q_cat (x y : Operand) (a b : List UInt8) (h : a.length + b.length ≤ 9223372036854775807) : qBinP Tryz.prog .add 9 x y (some (.string ⟨a.toArray⟩)) (some (.string ⟨b.toArray⟩)) = some (.s (.string ⟨(a ++ b).toArray⟩)) := by
  have h2 : pureP Tryz.prog (binOp .add 9 (.string ⟨a.toArray⟩) (.string ⟨b.toArray⟩)) = some (.string ⟨(a ++ b).toArray⟩) := by
    unfold binOp
    have : ¬ ((((⟨a.toArray⟩ : ByteArray).size + (⟨b.toArray⟩ : ByteArray).size : Nat) : Int) > IntKind.i64.max) := by
      simp only [bsz]
      have : IntKind.i64.max = 9223372036854775807 := by decide
      rw [this]; omega
    simp only [Op.stringOp, if_neg this, ba_app]
    rfl
  simp only [qBinP, h2]
  simp [eqGuard, AV.ofVal, AV.ofCell, AV.ofFn]
theorem ba_get (l : List UInt8) (i : Nat) (h : i < l.length) : (⟨l.toArray⟩ : ByteArray)[i]? = some l[i] := by
  rw [getElem?_pos _ i (by simpa using h)]
  rfl
theorem idx_nat (k : IntKind) (l : List UInt8) (i : Nat) (h : i < l.length) : pureP Tryz.prog (Instr.index 9 (.string ⟨l.toArray⟩) (.int k (i : Int))) = some (.int .u8 (l[i].toNat : Int)) := by
  unfold Instr.index
  rw [pureP_bind Tryz.prog (asIntOf (.int k (i : Int))) _ (k, (i : Int)) rfl, pureP_bind Tryz.prog _ _ _ (underlying_pure 9 _ Tryz.underlying9)]
  simp [ba_get l i h]
theorem idx_0 (k : IntKind) (l : List UInt8) (h : 0 < l.length) : pureP Tryz.prog (Instr.index 9 (.string ⟨l.toArray⟩) (.int k 0)) = some (.int .u8 (l[0].toNat : Int)) := idx_nat k l 0 h
theorem sl_both (k k' : IntKind) (l : List UInt8) (i j : Nat) (h1 : i ≤ j) (h2 : j ≤ l.length) : pureP Tryz.prog (Instr.sliceAt 9 (.string ⟨l.toArray⟩) (some (.int k i)) (some (.int k' j)) none) = some (.string ⟨((l.drop i).take (j - i)).toArray⟩) := by
  unfold Instr.sliceAt
  rw [pureP_bind Tryz.prog _ _ _ (underlying_pure 9 _ Tryz.underlying9)]
  simp only
  unfold Instr.slice
  rw [pureP_bind Tryz.prog _ _ _ (underlying_pure 9 _ Tryz.underlying9)]
  simp [Instr.sliceBounds, Instr.sliceBound, asIntOf, h1, h2, ba_ext']
theorem sl_hi (k' : IntKind) (l : List UInt8) (j : Nat) (h2 : j ≤ l.length) : pureP Tryz.prog (Instr.sliceAt 9 (.string ⟨l.toArray⟩) none (some (.int k' j)) none) = some (.string ⟨(l.take j).toArray⟩) := by
  unfold Instr.sliceAt
  rw [pureP_bind Tryz.prog _ _ _ (underlying_pure 9 _ Tryz.underlying9)]
  simp only
  unfold Instr.slice
  rw [pureP_bind Tryz.prog _ _ _ (underlying_pure 9 _ Tryz.underlying9)]
  simp [Instr.sliceBounds, Instr.sliceBound, asIntOf, h2, ba_ext']
theorem sl_lo (k : IntKind) (l : List UInt8) (i : Nat) (h2 : i ≤ l.length) : pureP Tryz.prog (Instr.sliceAt 9 (.string ⟨l.toArray⟩) (some (.int k i)) none none) = some (.string ⟨(l.drop i).toArray⟩) := by
  unfold Instr.sliceAt
  rw [pureP_bind Tryz.prog _ _ _ (underlying_pure 9 _ Tryz.underlying9)]
  simp only
  unfold Instr.slice
  rw [pureP_bind Tryz.prog _ _ _ (underlying_pure 9 _ Tryz.underlying9)]
  simp [Instr.sliceBounds, Instr.sliceBound, asIntOf, h2, ba_ext']
  rw [List.take_of_length_le (by simp)]
attribute [simp] qIdx sl_both sl_hi sl_lo idx_nat idx_0
@[simp] theorem isCell_str (s : ByteArray) : (AV.s (.string s)).isCell = true := rfl
@[simp] theorem toD_str (s : ByteArray) : (AV.s (.string s)).toD? = some (D.s (.string s), true) := rfl
@[simp] theorem noMen_str (d : Nat) (s : ByteArray) : (AV.s (.string s)).mentions d = false := rfl
theorem q_bytes (f g : Bool) (k : Knd) (o : Own) (b : Int) : qConv Tryz.prog 75 9 [.sl f g k o 1 [.s (.int .u8 b)]] = some (.s (.string ⟨[UInt8.ofNat b.toNat].toArray⟩)) := by
  simp [qConv, qBytes, isByte, Tryz.underlying75, Tryz.underlying9, Tryz.underlying5]
attribute [simp] q_bytes
theorem conv_u8 (a : Int) : qConv Tryz.prog 3 5 [.s (.int .i64 a)] = some (.s (.int .u8 (IntKind.u8.wrap a))) := conv_int (c := 3) (d := 5) (h1 := Tryz.underlying3) (h2 := Tryz.underlying5) ..
theorem conv_8u (a : Int) : qConv Tryz.prog 5 3 [.s (.int .u8 a)] = some (.s (.int .i64 (IntKind.i64.wrap a))) := conv_int (c := 5) (d := 3) (h1 := Tryz.underlying5) (h2 := Tryz.underlying3) ..
attribute [simp] conv_u8 conv_8u
end Go.Ev
end

section
set_option linter.all false
open Go Go.Ev Go.Proofs
namespace Go.Ev
set_option linter.unusedSimpArgs false
set_option linter.unusedVariables false


theorem u8w {x : Int} (h : 0 ≤ x ∧ x ≤ 255) : IntKind.u8.wrap x = x := by
  unfold IntKind.wrap
  simp [IntKind.bits, IntKind.signed]
  omega
theorem dgB_nat {n : Nat} (h : n < 10) : dgB (n : Int) = [UInt8.ofNat (48 + n)] := by
  rw [dgB, Int.toNat_natCast, dig1 h, UInt8.ofNat_add]; rfl

theorem rdigit_ok (n : Nat) (h : n < 10) : ACalls Tryz.prog 36 [.s (.int .i64 n)] [] (.ret (.s (tx (dgB n))) [] []) := by
  have e1 : IntKind.u8.wrap (n : Int) = n := u8w (by omega)
  have e2 : IntKind.u8.wrap (48 + (n : Int)) = 48 + n := u8w (by omega)
  have e3 : (48 + (n : Int)).toNat = 48 + n := by omega
  have e4 := dgB_nat h
  refine acalls_of_ew Tryz.func36 rfl rfl (by simp [Tryz.f36]) (rs := [.tmp 2]) rfl ?_
  refine EW.seq fun Ψ0 n0 x0 => ?_
  refine EW.region gs_nil ?_
  simp
  refine n0 _ ?_; clear n0 x0
  refine EW.seq fun Ψ1 n1 x1 => ?_
  refine EW.region gs_nil ?_
  simp [e1, e2, e3]
  refine n1 _ ?_; clear n1 x1
  refine EW.ret ?_
  refine ⟨_, _, _, rfl, ?_, ?_, ?_, ?_, ?_⟩ <;> simp [e4]

end Go.Ev
end

section
set_option linter.all false
open Go Go.Ev Go.Proofs
namespace Go.Ev
set_option linter.unusedSimpArgs false
set_option linter.unusedVariables false


theorem rdigit_ok' (a : Int) (h : 0 ≤ a ∧ a < 10) : ACalls Tryz.prog 36 [.s (.int .i64 a)] [] (.ret (.s (tx (dgB a))) [] []) := by
  obtain ⟨n, rfl⟩ : ∃ n : Nat, a = n := ⟨a.toNat, by omega⟩
  exact rdigit_ok n (by omega)
theorem dgB_len {a : Int} (h : 0 ≤ a ∧ a < 10) : (dgB a).length = 1 := by
  obtain ⟨n, rfl⟩ : ∃ n : Nat, a = n := ⟨a.toNat, by omega⟩
  rw [dgB_nat (by omega)]; rfl
theorem inB_T {a b c : Int} (h : inB a b c = true) : b ≤ a ∧ a ≤ c := by simpa [inB] using h
theorem inB_F {a b c : Int} (h : inB a b c = false) : ¬ (b ≤ a ∧ a ≤ c) := by
  intro q; rw [inB, decide_eq_true q.1, decide_eq_true q.2] at h; cases h
def gDg : List AV → List (List AV) → Option Out
  | [.s (.int .i64 a)], [] => if 0 ≤ a ∧ a < 10 then some (.ret (.s (tx (dgB a))) [] []) else none
  | _, _ => none
theorem gDg_r : ∀ a e o, gDg a e = some o → ACalls Tryz.prog 36 a e o := by
  intro a e o h
  unfold gDg at h
  split at h
  · split at h
    · rename_i q; cases h; exact rdigit_ok' _ q
    · cases h
  · cases h
def gD (Γ : Gam) : Gam := gAlt 36 gDg Γ
theorem gD_ok {Γ : Gam} (h : Sound Tryz.prog Γ) : Sound Tryz.prog (gD Γ) := gAlt_sound gDg_r h
attribute [simp] gDg gD
def rrS (l : List MBd) (p : Nat × List UInt8) : St := St.lit 84 [(0, .sl false false .U .no l.length (eBds l)), (4, .s (tx p.2)), (5, .s (.int .i64 p.1))] [] [] []
attribute [simp] rrS

set_option maxHeartbeats 4000000 in
theorem rreasons_ok (l : List MBd) (hn : l.length ≤ 6000) : ACalls Tryz.prog 10 [.sl false false .U .no l.length (eBds l)] [] (.ret (.tup [.s (.string ⟨(reaF l []).1.toArray⟩), .s (.int .i64 (reaF l []).2)]) [] []) := by
  refine acalls_of_ew Tryz.func10 rfl rfl (by simp [Tryz.f10]) (rs := [.tmp 2, .tmp 3]) rfl ?_
  refine EW.seq fun Ψ0 n0 x0 => ?_
  refine EW.region gs_nil ?_
  simp
  refine n0 _ ?_; clear n0 x0
  refine EW.seq fun Ψ1 n1 x1 => ?_
  refine EW.seq fun Ψ2 n2 x2 => ?_
  refine EW.region gs_nil ?_
  simp
  refine n2 _ ?_; clear n2 x2
  refine EW.cond (t := _) (by rfl) (fun hc11 => ?_) (fun hc11 => ?_)
  · simp at hc11; omega
  · clear hc11
    refine EW.skip ?_
    refine n1 _ ?_; clear n1 x1
    refine EW.seq fun Ψ3 n3 x3 => ?_
    refine EW.region gs_nil ?_
    simp
    refine n3 _ ?_; clear n3 x3
    refine EW.seq fun Ψ4 n4 x4 => ?_
    refine EW.seq fun Ψ5 n5 x5 => ?_
    refine EW.region gs_nil ?_
    simp
    refine n5 _ ?_; clear n5 x5
    refine EW.block ?_
    refine EW.loopA (rrS l) (fun p => p.1 ≤ l.length ∧ p.2.length ≤ 9 * p.1 ∧ reaF (l.drop p.1) p.2 = reaF l []) (fun p => l.length - p.1) (0, []) (St.le_lit rfl (by simp) (by simp) (by simp) (by simp) (by simp)) ?_ fun p hk => ?_
    · simp
    obtain ⟨k, acc⟩ := p
    obtain ⟨hk, hac, hw⟩ := hk
    simp only at hk hac hw
    have dl1 : True := trivial
    have dl2 : True := trivial
    refine EW.seq fun Ψ6 n6 x6 => ?_
    refine EW.seq fun Ψ7 n7 x7 => ?_
    refine EW.region gs_nil ?_
    simp
    refine n7 _ ?_; clear n7 x7
    refine EW.cond (t := _) (by rfl) (fun hc15 => ?_) (fun hc15 => ?_)
    · simp at hc15
      have hdr : l.drop k = l[k] :: l.drop (k + 1) := List.drop_eq_getElem_cons hc15
      have e1 : l[k]? = some l[k] := List.getElem?_eq_getElem hc15
      refine EW.skip ?_
      refine n6 _ ?_; clear n6 x6
      refine EW.seq fun Ψ8 n8 x8 => ?_
      refine EW.block ?_
      refine EW.seq fun Ψ9 n9 x9 => ?_
      refine EW.region gs_nil ?_
      simp [hc15, e1, eBds_atm _ _ _ _ _ e1, show 3 ≤ l.length * 3 - k * 3 by omega]
      refine n9 _ ?_; clear n9 x9
      refine EW.seq fun Ψ10 n10 x10 => ?_
      refine EW.seq fun Ψ11 n11 x11 => ?_
      refine EW.region (gI_ok gs_nil) ?_
      simp
      refine n11 _ ?_; clear n11 x11
      refine EW.cond (t := _) (by rfl) (fun hc25 => ?_) (fun hc25 => ?_)
      · have hr := inB_F (by simpa using hc25 : inB l[k].r 1 5 = false)
        have he : bndErr l[k] = 8 := by unfold bndErr; rw [if_neg (by omega), if_neg (by omega), if_neg (by omega)]
        have hv : reaF l [] = ([], 8) := by rw [← hw, hdr, reaF, he, if_neg (by decide)]
        refine EW.seq fun Ψ12 n12 x12 => ?_
        refine EW.region gs_nil ?_
        simp
        refine n12 _ ?_; clear n12 x12
        refine EW.ret ?_
        refine x10 _ _ rfl ?_; clear n10 x10
        refine x8 _ _ rfl ?_; clear n8 x8
        refine x4 _ _ rfl ?_; clear n4 x4
        refine ⟨_, _, _, rfl, ?_, ?_, ?_, ?_, ?_⟩ <;> simp [hv]
      · have hrr := inB_T (by simpa using hc25 : inB l[k].r 1 5 = true)
        refine EW.skip ?_
        refine n10 _ ?_; clear n10 x10
        refine EW.seq fun Ψ13 n13 x13 => ?_
        refine EW.region gs_nil ?_
        simp
        refine n13 _ ?_; clear n13 x13
        refine EW.seq fun Ψ14 n14 x14 => ?_
        refine EW.seq fun Ψ15 n15 x15 => ?_
        refine EW.region gs_nil ?_
        simp
        refine n15 _ ?_; clear n15 x15
        refine EW.block ?_
        refine EW.seq fun Ψ16 n16 x16 => ?_
        refine EW.region gs_nil ?_
        simp
        refine n16 _ ?_; clear n16 x16
        refine EW.cond (t := _) (by rfl) (fun hc28 => ?_) (fun hc28 => ?_)
        · have hr : l[k].r = 1 := by simpa using hc28
          refine EW.seq fun Ψ17 n17 x17 => ?_
          refine EW.region gs_nil ?_
          simp
          refine n17 _ ?_; clear n17 x17
          refine EW.hide fun Ψ18 n18 => ?_
          refine EW.region gs_nil ?_
          simp [q_cat _ _ (acc) ([99, 117, 116, 32]) (by simp [dl1, dl2]; omega)]
          refine n18 _ _ ?_; clear n18
          refine n14 _ ?_; clear n14 x14
          refine EW.seq fun Ψ19 n19 x19 => ?_
          refine EW.seq fun Ψ20 n20 x20 => ?_
          rcases bor2 (inB l[k].a 0 3) (inB l[k].c 0 6) with q1 | ⟨q1, q2⟩ | ⟨q1, q2⟩
          · skip
            refine EW.region (gI_ok gs_nil) ?_
            simp [q1]
            have he : bndErr l[k] = 1 := by simp [bndErr, hr, q1]
            refine n20 _ ?_; clear n20 x20
            refine EW.cond (t := _) (by rfl) (fun hc59 => ?_) (fun hc59 => ?_)
            · clear hc59
              have hv : reaF l [] = ([], 1) := by rw [← hw, hdr, reaF, he, if_neg (by decide)]
              refine EW.seq fun Ψ21 n21 x21 => ?_
              refine EW.region gs_nil ?_
              simp
              refine n21 _ ?_; clear n21 x21
              refine EW.ret ?_
              refine x19 _ _ rfl ?_; clear n19 x19
              refine x8 _ _ rfl ?_; clear n8 x8
              refine x4 _ _ rfl ?_; clear n4 x4
              refine ⟨_, _, _, rfl, ?_, ?_, ?_, ?_, ?_⟩ <;> simp [hv]
            · simp at hc59
          · skip
            refine EW.region (gI_ok gs_nil) ?_
            simp [q1, q2]
            have he : bndErr l[k] = 1 := by simp [bndErr, hr, q1, q2]
            refine n20 _ ?_; clear n20 x20
            refine EW.cond (t := _) (by rfl) (fun hc59 => ?_) (fun hc59 => ?_)
            · clear hc59
              have hv : reaF l [] = ([], 1) := by rw [← hw, hdr, reaF, he, if_neg (by decide)]
              refine EW.seq fun Ψ22 n22 x22 => ?_
              refine EW.region gs_nil ?_
              simp
              refine n22 _ ?_; clear n22 x22
              refine EW.ret ?_
              refine x19 _ _ rfl ?_; clear n19 x19
              refine x8 _ _ rfl ?_; clear n8 x8
              refine x4 _ _ rfl ?_; clear n4 x4
              refine ⟨_, _, _, rfl, ?_, ?_, ?_, ?_, ?_⟩ <;> simp [hv]
            · simp at hc59
          · skip
            refine EW.region (gI_ok gs_nil) ?_
            simp [q1, q2]
            have he : bndErr l[k] = 0 := by simp [bndErr, hr, q1, q2]
            refine n20 _ ?_; clear n20 x20
            refine EW.cond (t := _) (by rfl) (fun hc59 => ?_) (fun hc59 => ?_)
            · simp at hc59
            · clear hc59
              have h1 := inB_T q1
              have h2 := inB_T q2
              have hst : reaF (l.drop (k + 1)) (acc ++ lineB l[k]) = reaF l [] := by rw [← hw, hdr, reaF, if_pos he]
              refine EW.skip ?_
              refine n19 _ ?_; clear n19 x19
              refine EW.seq fun Ψ23 n23 x23 => ?_
              refine EW.seq fun Ψ24 n24 x24 => ?_
              refine EW.region gs_nil ?_
              simp
              refine n24 _ ?_; clear n24 x24
              refine EW.block ?_
              refine EW.seq fun Ψ25 n25 x25 => ?_
              refine EW.region gs_nil ?_
              simp
              refine n25 _ ?_; clear n25 x25
              refine EW.cond (t := _) (by rfl) (fun hc62 => ?_) (fun hc62 => ?_)
              · clear hc62
                have dl1 := dgB_len (a := l[k].a) (by omega)
                have dl2 := dgB_len (a := l[k].c) (by omega)
                have hne : True := trivial
                have hln : acc ++ lineB l[k] = acc ++ 99 :: 117 :: 116 :: 32 :: (dgB l[k].a ++ 32 :: (dgB l[k].c ++ [10])) := by simp [lineB, bodyB, hr]
                refine EW.hide fun Ψ26 n26 => ?_
                refine EW.drawn [(3, 7)] mixed (gD_ok gs_nil) (by kernel_rfl) ?_
                simp [show 0 ≤ l[k].a ∧ l[k].a < 10 by omega, show 0 ≤ l[k].c ∧ l[k].c < 10 by omega, h1.1, h2.1, show l[k].a < 10 by omega, show l[k].c < 10 by omega, q_cat _ _ (acc ++ [99, 117, 116, 32]) (dgB l[k].a) (by simp [dl1, dl2]; omega), q_cat _ _ (acc ++ 99 :: 117 :: 116 :: 32 :: dgB l[k].a) ([32]) (by simp [dl1, dl2]; omega), q_cat _ _ (acc ++ 99 :: 117 :: 116 :: 32 :: (dgB l[k].a ++ [32])) (dgB l[k].c) (by simp [dl1, dl2]; omega)]
                refine n26 _ _ ?_; clear n26
                refine n23 _ ?_; clear n23 x23
                refine EW.hide fun Ψ27 n27 => ?_
                refine EW.region gs_nil ?_
                simp [q_cat _ _ (acc ++ 99 :: 117 :: 116 :: 32 :: (dgB l[k].a ++ 32 :: dgB l[k].c)) ([10]) (by simp [dl1, dl2]; omega)]
                refine n27 _ _ ?_; clear n27
                refine n8 _ ?_; clear n8 x8
                refine EW.hide fun Ψ28 n28 => ?_
                refine EW.region gs_nil ?_
                simp
                refine n28 _ _ ?_; clear n28
                have e3 : IntKind.i64.wrap ((k : Int) + 1) = k + 1 := wr_small (by omega) (by omega)
                refine ⟨(k + 1, acc ++ lineB l[k]), (St.le_lit rfl (by simp [e3, hln]) (by simp) (by simp) (by simp) (by simp)), ?_, ?_⟩
                · refine ⟨by omega, ?_, hst⟩
                  simp only [hln]
                  simp [dl1, dl2]; omega
                · simp; omega
              · simp [hr] at hc62
        · have n1 : ¬ l[k].r = 1 := by simpa using hc28
          refine EW.seq fun Ψ29 n29 x29 => ?_
          refine EW.region gs_nil ?_
          simp
          refine n29 _ ?_; clear n29 x29
          refine EW.cond (t := _) (by rfl) (fun hc32 => ?_) (fun hc32 => ?_)
          · have hr : l[k].r = 2 := by simpa using hc32
            refine EW.hide fun Ψ30 n30 => ?_
            refine EW.region gs_nil ?_
            simp [q_cat _ _ (acc) ([108, 105, 103, 104, 116]) (by simp [dl1, dl2]; omega)]
            refine n30 _ _ ?_; clear n30
            refine n14 _ ?_; clear n14 x14
            refine EW.seq fun Ψ31 n31 x31 => ?_
            refine EW.seq fun Ψ32 n32 x32 => ?_
            rcases bor2 (inB l[k].a 0 0) (inB l[k].c 0 0) with q1 | ⟨q1, q2⟩ | ⟨q1, q2⟩
            · skip
              refine EW.region (gI_ok gs_nil) ?_
              simp [q1]
              have he : bndErr l[k] = 1 := by simp [bndErr, hr, q1]
              refine n32 _ ?_; clear n32 x32
              refine EW.cond (t := _) (by rfl) (fun hc59 => ?_) (fun hc59 => ?_)
              · clear hc59
                have hv : reaF l [] = ([], 1) := by rw [← hw, hdr, reaF, he, if_neg (by decide)]
                refine EW.seq fun Ψ33 n33 x33 => ?_
                refine EW.region gs_nil ?_
                simp
                refine n33 _ ?_; clear n33 x33
                refine EW.ret ?_
                refine x31 _ _ rfl ?_; clear n31 x31
                refine x8 _ _ rfl ?_; clear n8 x8
                refine x4 _ _ rfl ?_; clear n4 x4
                refine ⟨_, _, _, rfl, ?_, ?_, ?_, ?_, ?_⟩ <;> simp [hv]
              · simp at hc59
            · skip
              refine EW.region (gI_ok gs_nil) ?_
              simp [q1, q2]
              have he : bndErr l[k] = 1 := by simp [bndErr, hr, q1, q2]
              refine n32 _ ?_; clear n32 x32
              refine EW.cond (t := _) (by rfl) (fun hc59 => ?_) (fun hc59 => ?_)
              · clear hc59
                have hv : reaF l [] = ([], 1) := by rw [← hw, hdr, reaF, he, if_neg (by decide)]
                refine EW.seq fun Ψ34 n34 x34 => ?_
                refine EW.region gs_nil ?_
                simp
                refine n34 _ ?_; clear n34 x34
                refine EW.ret ?_
                refine x31 _ _ rfl ?_; clear n31 x31
                refine x8 _ _ rfl ?_; clear n8 x8
                refine x4 _ _ rfl ?_; clear n4 x4
                refine ⟨_, _, _, rfl, ?_, ?_, ?_, ?_, ?_⟩ <;> simp [hv]
              · simp at hc59
            · skip
              refine EW.region (gI_ok gs_nil) ?_
              simp [q1, q2]
              have he : bndErr l[k] = 0 := by simp [bndErr, hr, q1, q2]
              refine n32 _ ?_; clear n32 x32
              refine EW.cond (t := _) (by rfl) (fun hc59 => ?_) (fun hc59 => ?_)
              · simp at hc59
              · clear hc59
                have h1 := inB_T q1
                have h2 := inB_T q2
                have hst : reaF (l.drop (k + 1)) (acc ++ lineB l[k]) = reaF l [] := by rw [← hw, hdr, reaF, if_pos he]
                refine EW.skip ?_
                refine n31 _ ?_; clear n31 x31
                refine EW.seq fun Ψ35 n35 x35 => ?_
                refine EW.seq fun Ψ36 n36 x36 => ?_
                refine EW.region gs_nil ?_
                simp
                refine n36 _ ?_; clear n36 x36
                refine EW.block ?_
                refine EW.seq fun Ψ37 n37 x37 => ?_
                refine EW.region gs_nil ?_
                simp
                refine n37 _ ?_; clear n37 x37
                refine EW.cond (t := _) (by rfl) (fun hc62 => ?_) (fun hc62 => ?_)
                · simp [hr] at hc62
                · clear hc62
                  have hln : acc ++ lineB l[k] = acc ++ [108, 105, 103, 104, 116, 10] := by simp [lineB, bodyB, hr]
                  refine EW.seq fun Ψ38 n38 x38 => ?_
                  refine EW.region gs_nil ?_
                  simp
                  refine n38 _ ?_; clear n38 x38
                  refine EW.cond (t := _) (by rfl) (fun hc74 => ?_) (fun hc74 => ?_)
                  · simp [hr] at hc74
                  · clear hc74
                    refine EW.skip ?_
                    refine n35 _ ?_; clear n35 x35
                    refine EW.hide fun Ψ39 n39 => ?_
                    refine EW.region gs_nil ?_
                    simp [q_cat _ _ (acc ++ [108, 105, 103, 104, 116]) ([10]) (by simp [dl1, dl2]; omega)]
                    refine n39 _ _ ?_; clear n39
                    refine n8 _ ?_; clear n8 x8
                    refine EW.hide fun Ψ40 n40 => ?_
                    refine EW.region gs_nil ?_
                    simp
                    refine n40 _ _ ?_; clear n40
                    have e3 : IntKind.i64.wrap ((k : Int) + 1) = k + 1 := wr_small (by omega) (by omega)
                    refine ⟨(k + 1, acc ++ lineB l[k]), (St.le_lit rfl (by simp [e3, hln]) (by simp) (by simp) (by simp) (by simp)), ?_, ?_⟩
                    · refine ⟨by omega, ?_, hst⟩
                      simp only [hln]
                      simp [dl1, dl2]; omega
                    · simp; omega
          · have n2 : ¬ l[k].r = 2 := by simpa using hc32
            refine EW.seq fun Ψ41 n41 x41 => ?_
            refine EW.region gs_nil ?_
            simp
            refine n41 _ ?_; clear n41 x41
            refine EW.cond (t := _) (by rfl) (fun hc36 => ?_) (fun hc36 => ?_)
            · have hr : l[k].r = 3 := by simpa using hc36
              refine EW.hide fun Ψ42 n42 => ?_
              refine EW.region gs_nil ?_
              simp [q_cat _ _ (acc) ([104, 101, 97, 118, 121]) (by simp [dl1, dl2]; omega)]
              refine n42 _ _ ?_; clear n42
              refine n14 _ ?_; clear n14 x14
              refine EW.seq fun Ψ43 n43 x43 => ?_
              refine EW.seq fun Ψ44 n44 x44 => ?_
              rcases bor2 (inB l[k].a 0 0) (inB l[k].c 0 0) with q1 | ⟨q1, q2⟩ | ⟨q1, q2⟩
              · skip
                refine EW.region (gI_ok gs_nil) ?_
                simp [q1]
                have he : bndErr l[k] = 1 := by simp [bndErr, hr, q1]
                refine n44 _ ?_; clear n44 x44
                refine EW.cond (t := _) (by rfl) (fun hc59 => ?_) (fun hc59 => ?_)
                · clear hc59
                  have hv : reaF l [] = ([], 1) := by rw [← hw, hdr, reaF, he, if_neg (by decide)]
                  refine EW.seq fun Ψ45 n45 x45 => ?_
                  refine EW.region gs_nil ?_
                  simp
                  refine n45 _ ?_; clear n45 x45
                  refine EW.ret ?_
                  refine x43 _ _ rfl ?_; clear n43 x43
                  refine x8 _ _ rfl ?_; clear n8 x8
                  refine x4 _ _ rfl ?_; clear n4 x4
                  refine ⟨_, _, _, rfl, ?_, ?_, ?_, ?_, ?_⟩ <;> simp [hv]
                · simp at hc59
              · skip
                refine EW.region (gI_ok gs_nil) ?_
                simp [q1, q2]
                have he : bndErr l[k] = 1 := by simp [bndErr, hr, q1, q2]
                refine n44 _ ?_; clear n44 x44
                refine EW.cond (t := _) (by rfl) (fun hc59 => ?_) (fun hc59 => ?_)
                · clear hc59
                  have hv : reaF l [] = ([], 1) := by rw [← hw, hdr, reaF, he, if_neg (by decide)]
                  refine EW.seq fun Ψ46 n46 x46 => ?_
                  refine EW.region gs_nil ?_
                  simp
                  refine n46 _ ?_; clear n46 x46
                  refine EW.ret ?_
                  refine x43 _ _ rfl ?_; clear n43 x43
                  refine x8 _ _ rfl ?_; clear n8 x8
                  refine x4 _ _ rfl ?_; clear n4 x4
                  refine ⟨_, _, _, rfl, ?_, ?_, ?_, ?_, ?_⟩ <;> simp [hv]
                · simp at hc59
              · skip
                refine EW.region (gI_ok gs_nil) ?_
                simp [q1, q2]
                have he : bndErr l[k] = 0 := by simp [bndErr, hr, q1, q2]
                refine n44 _ ?_; clear n44 x44
                refine EW.cond (t := _) (by rfl) (fun hc59 => ?_) (fun hc59 => ?_)
                · simp at hc59
                · clear hc59
                  have h1 := inB_T q1
                  have h2 := inB_T q2
                  have hst : reaF (l.drop (k + 1)) (acc ++ lineB l[k]) = reaF l [] := by rw [← hw, hdr, reaF, if_pos he]
                  refine EW.skip ?_
                  refine n43 _ ?_; clear n43 x43
                  refine EW.seq fun Ψ47 n47 x47 => ?_
                  refine EW.seq fun Ψ48 n48 x48 => ?_
                  refine EW.region gs_nil ?_
                  simp
                  refine n48 _ ?_; clear n48 x48
                  refine EW.block ?_
                  refine EW.seq fun Ψ49 n49 x49 => ?_
                  refine EW.region gs_nil ?_
                  simp
                  refine n49 _ ?_; clear n49 x49
                  refine EW.cond (t := _) (by rfl) (fun hc62 => ?_) (fun hc62 => ?_)
                  · simp [hr] at hc62
                  · clear hc62
                    have hln : acc ++ lineB l[k] = acc ++ [104, 101, 97, 118, 121, 10] := by simp [lineB, bodyB, hr]
                    refine EW.seq fun Ψ50 n50 x50 => ?_
                    refine EW.region gs_nil ?_
                    simp
                    refine n50 _ ?_; clear n50 x50
                    refine EW.cond (t := _) (by rfl) (fun hc74 => ?_) (fun hc74 => ?_)
                    · simp [hr] at hc74
                    · clear hc74
                      refine EW.skip ?_
                      refine n47 _ ?_; clear n47 x47
                      refine EW.hide fun Ψ51 n51 => ?_
                      refine EW.region gs_nil ?_
                      simp [q_cat _ _ (acc ++ [104, 101, 97, 118, 121]) ([10]) (by simp [dl1, dl2]; omega)]
                      refine n51 _ _ ?_; clear n51
                      refine n8 _ ?_; clear n8 x8
                      refine EW.hide fun Ψ52 n52 => ?_
                      refine EW.region gs_nil ?_
                      simp
                      refine n52 _ _ ?_; clear n52
                      have e3 : IntKind.i64.wrap ((k : Int) + 1) = k + 1 := wr_small (by omega) (by omega)
                      refine ⟨(k + 1, acc ++ lineB l[k]), (St.le_lit rfl (by simp [e3, hln]) (by simp) (by simp) (by simp) (by simp)), ?_, ?_⟩
                      · refine ⟨by omega, ?_, hst⟩
                        simp only [hln]
                        simp [dl1, dl2]; omega
                      · simp; omega
            · have n3 : ¬ l[k].r = 3 := by simpa using hc36
              refine EW.seq fun Ψ53 n53 x53 => ?_
              refine EW.region gs_nil ?_
              simp
              refine n53 _ ?_; clear n53 x53
              refine EW.cond (t := _) (by rfl) (fun hc40 => ?_) (fun hc40 => ?_)
              · have hr : l[k].r = 4 := by simpa using hc40
                refine EW.seq fun Ψ54 n54 x54 => ?_
                refine EW.region gs_nil ?_
                simp
                refine n54 _ ?_; clear n54 x54
                refine EW.hide fun Ψ55 n55 => ?_
                refine EW.region gs_nil ?_
                simp [q_cat _ _ (acc) ([98, 114, 111, 107, 101, 110, 32]) (by simp [dl1, dl2]; omega)]
                refine n55 _ _ ?_; clear n55
                refine n14 _ ?_; clear n14 x14
                refine EW.seq fun Ψ56 n56 x56 => ?_
                refine EW.seq fun Ψ57 n57 x57 => ?_
                rcases bor2 (inB l[k].a 0 2) (inB l[k].c 0 0) with q1 | ⟨q1, q2⟩ | ⟨q1, q2⟩
                · skip
                  refine EW.region (gI_ok gs_nil) ?_
                  simp [q1]
                  have he : bndErr l[k] = 1 := by simp [bndErr, hr, q1]
                  refine n57 _ ?_; clear n57 x57
                  refine EW.cond (t := _) (by rfl) (fun hc59 => ?_) (fun hc59 => ?_)
                  · clear hc59
                    have hv : reaF l [] = ([], 1) := by rw [← hw, hdr, reaF, he, if_neg (by decide)]
                    refine EW.seq fun Ψ58 n58 x58 => ?_
                    refine EW.region gs_nil ?_
                    simp
                    refine n58 _ ?_; clear n58 x58
                    refine EW.ret ?_
                    refine x56 _ _ rfl ?_; clear n56 x56
                    refine x8 _ _ rfl ?_; clear n8 x8
                    refine x4 _ _ rfl ?_; clear n4 x4
                    refine ⟨_, _, _, rfl, ?_, ?_, ?_, ?_, ?_⟩ <;> simp [hv]
                  · simp at hc59
                · skip
                  refine EW.region (gI_ok gs_nil) ?_
                  simp [q1, q2]
                  have he : bndErr l[k] = 1 := by simp [bndErr, hr, q1, q2]
                  refine n57 _ ?_; clear n57 x57
                  refine EW.cond (t := _) (by rfl) (fun hc59 => ?_) (fun hc59 => ?_)
                  · clear hc59
                    have hv : reaF l [] = ([], 1) := by rw [← hw, hdr, reaF, he, if_neg (by decide)]
                    refine EW.seq fun Ψ59 n59 x59 => ?_
                    refine EW.region gs_nil ?_
                    simp
                    refine n59 _ ?_; clear n59 x59
                    refine EW.ret ?_
                    refine x56 _ _ rfl ?_; clear n56 x56
                    refine x8 _ _ rfl ?_; clear n8 x8
                    refine x4 _ _ rfl ?_; clear n4 x4
                    refine ⟨_, _, _, rfl, ?_, ?_, ?_, ?_, ?_⟩ <;> simp [hv]
                  · simp at hc59
                · skip
                  refine EW.region (gI_ok gs_nil) ?_
                  simp [q1, q2]
                  have he : bndErr l[k] = 0 := by simp [bndErr, hr, q1, q2]
                  refine n57 _ ?_; clear n57 x57
                  refine EW.cond (t := _) (by rfl) (fun hc59 => ?_) (fun hc59 => ?_)
                  · simp at hc59
                  · clear hc59
                    have h1 := inB_T q1
                    have h2 := inB_T q2
                    have hst : reaF (l.drop (k + 1)) (acc ++ lineB l[k]) = reaF l [] := by rw [← hw, hdr, reaF, if_pos he]
                    refine EW.skip ?_
                    refine n56 _ ?_; clear n56 x56
                    refine EW.seq fun Ψ60 n60 x60 => ?_
                    refine EW.seq fun Ψ61 n61 x61 => ?_
                    refine EW.region gs_nil ?_
                    simp
                    refine n61 _ ?_; clear n61 x61
                    refine EW.block ?_
                    refine EW.seq fun Ψ62 n62 x62 => ?_
                    refine EW.region gs_nil ?_
                    simp
                    refine n62 _ ?_; clear n62 x62
                    refine EW.cond (t := _) (by rfl) (fun hc62 => ?_) (fun hc62 => ?_)
                    · simp [hr] at hc62
                    · clear hc62
                      refine EW.seq fun Ψ63 n63 x63 => ?_
                      refine EW.region gs_nil ?_
                      simp
                      refine n63 _ ?_; clear n63 x63
                      refine EW.cond (t := _) (by rfl) (fun hc74 => ?_) (fun hc74 => ?_)
                      · clear hc74
                        have dl1 := dgB_len (a := l[k].a) (by omega)
                        have hln : acc ++ lineB l[k] = acc ++ 98 :: 114 :: 111 :: 107 :: 101 :: 110 :: 32 :: (dgB l[k].a ++ [10]) := by simp [lineB, bodyB, hr]
                        refine EW.hide fun Ψ64 n64 => ?_
                        refine EW.region (gs_cons (rdigit_ok' l[k].a (by omega)) gs_nil) ?_
                        simp [q_cat _ _ (acc ++ [98, 114, 111, 107, 101, 110, 32]) (dgB l[k].a) (by simp [dl1, dl2]; omega)]
                        refine n64 _ _ ?_; clear n64
                        refine n60 _ ?_; clear n60 x60
                        refine EW.hide fun Ψ65 n65 => ?_
                        refine EW.region gs_nil ?_
                        simp [q_cat _ _ (acc ++ 98 :: 114 :: 111 :: 107 :: 101 :: 110 :: 32 :: dgB l[k].a) ([10]) (by simp [dl1, dl2]; omega)]
                        refine n65 _ _ ?_; clear n65
                        refine n8 _ ?_; clear n8 x8
                        refine EW.hide fun Ψ66 n66 => ?_
                        refine EW.region gs_nil ?_
                        simp
                        refine n66 _ _ ?_; clear n66
                        have e3 : IntKind.i64.wrap ((k : Int) + 1) = k + 1 := wr_small (by omega) (by omega)
                        refine ⟨(k + 1, acc ++ lineB l[k]), (St.le_lit rfl (by simp [e3, hln]) (by simp) (by simp) (by simp) (by simp)), ?_, ?_⟩
                        · refine ⟨by omega, ?_, hst⟩
                          simp only [hln]
                          simp [dl1, dl2]; omega
                        · simp; omega
                      · simp [hr] at hc74
              · have n4 : ¬ l[k].r = 4 := by simpa using hc40
                refine EW.seq fun Ψ67 n67 x67 => ?_
                refine EW.region gs_nil ?_
                simp
                refine n67 _ ?_; clear n67 x67
                refine EW.cond (t := _) (by rfl) (fun hc44 => ?_) (fun hc44 => ?_)
                · have hr : l[k].r = 5 := by simpa using hc44
                  refine EW.hide fun Ψ68 n68 => ?_
                  refine EW.region gs_nil ?_
                  simp [q_cat _ _ (acc) ([100, 101, 97, 114]) (by simp [dl1, dl2]; omega)]
                  refine n68 _ _ ?_; clear n68
                  refine n14 _ ?_; clear n14 x14
                  refine EW.seq fun Ψ69 n69 x69 => ?_
                  refine EW.seq fun Ψ70 n70 x70 => ?_
                  rcases bor2 (inB l[k].a 0 0) (inB l[k].c 0 0) with q1 | ⟨q1, q2⟩ | ⟨q1, q2⟩
                  · skip
                    refine EW.region (gI_ok gs_nil) ?_
                    simp [q1]
                    have he : bndErr l[k] = 1 := by simp [bndErr, hr, q1]
                    refine n70 _ ?_; clear n70 x70
                    refine EW.cond (t := _) (by rfl) (fun hc59 => ?_) (fun hc59 => ?_)
                    · clear hc59
                      have hv : reaF l [] = ([], 1) := by rw [← hw, hdr, reaF, he, if_neg (by decide)]
                      refine EW.seq fun Ψ71 n71 x71 => ?_
                      refine EW.region gs_nil ?_
                      simp
                      refine n71 _ ?_; clear n71 x71
                      refine EW.ret ?_
                      refine x69 _ _ rfl ?_; clear n69 x69
                      refine x8 _ _ rfl ?_; clear n8 x8
                      refine x4 _ _ rfl ?_; clear n4 x4
                      refine ⟨_, _, _, rfl, ?_, ?_, ?_, ?_, ?_⟩ <;> simp [hv]
                    · simp at hc59
                  · skip
                    refine EW.region (gI_ok gs_nil) ?_
                    simp [q1, q2]
                    have he : bndErr l[k] = 1 := by simp [bndErr, hr, q1, q2]
                    refine n70 _ ?_; clear n70 x70
                    refine EW.cond (t := _) (by rfl) (fun hc59 => ?_) (fun hc59 => ?_)
                    · clear hc59
                      have hv : reaF l [] = ([], 1) := by rw [← hw, hdr, reaF, he, if_neg (by decide)]
                      refine EW.seq fun Ψ72 n72 x72 => ?_
                      refine EW.region gs_nil ?_
                      simp
                      refine n72 _ ?_; clear n72 x72
                      refine EW.ret ?_
                      refine x69 _ _ rfl ?_; clear n69 x69
                      refine x8 _ _ rfl ?_; clear n8 x8
                      refine x4 _ _ rfl ?_; clear n4 x4
                      refine ⟨_, _, _, rfl, ?_, ?_, ?_, ?_, ?_⟩ <;> simp [hv]
                    · simp at hc59
                  · skip
                    refine EW.region (gI_ok gs_nil) ?_
                    simp [q1, q2]
                    have he : bndErr l[k] = 0 := by simp [bndErr, hr, q1, q2]
                    refine n70 _ ?_; clear n70 x70
                    refine EW.cond (t := _) (by rfl) (fun hc59 => ?_) (fun hc59 => ?_)
                    · simp at hc59
                    · clear hc59
                      have h1 := inB_T q1
                      have h2 := inB_T q2
                      have hst : reaF (l.drop (k + 1)) (acc ++ lineB l[k]) = reaF l [] := by rw [← hw, hdr, reaF, if_pos he]
                      refine EW.skip ?_
                      refine n69 _ ?_; clear n69 x69
                      refine EW.seq fun Ψ73 n73 x73 => ?_
                      refine EW.seq fun Ψ74 n74 x74 => ?_
                      refine EW.region gs_nil ?_
                      simp
                      refine n74 _ ?_; clear n74 x74
                      refine EW.block ?_
                      refine EW.seq fun Ψ75 n75 x75 => ?_
                      refine EW.region gs_nil ?_
                      simp
                      refine n75 _ ?_; clear n75 x75
                      refine EW.cond (t := _) (by rfl) (fun hc62 => ?_) (fun hc62 => ?_)
                      · simp [hr] at hc62
                      · clear hc62
                        have hln : acc ++ lineB l[k] = acc ++ [100, 101, 97, 114, 10] := by simp [lineB, bodyB, hr]
                        refine EW.seq fun Ψ76 n76 x76 => ?_
                        refine EW.region gs_nil ?_
                        simp
                        refine n76 _ ?_; clear n76 x76
                        refine EW.cond (t := _) (by rfl) (fun hc74 => ?_) (fun hc74 => ?_)
                        · simp [hr] at hc74
                        · clear hc74
                          refine EW.skip ?_
                          refine n73 _ ?_; clear n73 x73
                          refine EW.hide fun Ψ77 n77 => ?_
                          refine EW.region gs_nil ?_
                          simp [q_cat _ _ (acc ++ [100, 101, 97, 114]) ([10]) (by simp [dl1, dl2]; omega)]
                          refine n77 _ _ ?_; clear n77
                          refine n8 _ ?_; clear n8 x8
                          refine EW.hide fun Ψ78 n78 => ?_
                          refine EW.region gs_nil ?_
                          simp
                          refine n78 _ _ ?_; clear n78
                          have e3 : IntKind.i64.wrap ((k : Int) + 1) = k + 1 := wr_small (by omega) (by omega)
                          refine ⟨(k + 1, acc ++ lineB l[k]), (St.le_lit rfl (by simp [e3, hln]) (by simp) (by simp) (by simp) (by simp)), ?_, ?_⟩
                          · refine ⟨by omega, ?_, hst⟩
                            simp only [hln]
                            simp [dl1, dl2]; omega
                          · simp; omega
                · exact absurd (show l[k].r = 5 by omega) (by simpa using hc44)
    · simp at hc15
      have hkl : k = l.length := by omega
      have hv : reaF l [] = (acc, 0) := by rw [← hw, hkl, List.drop_length]; rfl
      refine EW.exit ?_
      refine x6 _ _ rfl ?_; clear n6 x6
      refine n4 _ ?_; clear n4 x4
      refine EW.seq fun Ψ79 n79 x79 => ?_
      refine EW.region gs_nil ?_
      simp
      refine n79 _ ?_; clear n79 x79
      refine EW.ret ?_
      refine ⟨_, _, _, rfl, ?_, ?_, ?_, ?_, ?_⟩ <;> simp [hv]

end Go.Ev
end
