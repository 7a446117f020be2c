/- Lemmas for the claims of this seat: an evaluator over abstract values, its soundness, and the contracts of the functions of melt that it walks; no premise beyond what each theorem states. -/
import Derived.Test.YtdcelpomnboeoaaGreatDoorGAR
import Derived.Test.YtdcelpomnboeoaaGreatDoorGAP
import Derived.Test.YtdcelpomnboeoaaGreatDoorGAK
import Derived.Test.YtdcelpomnboeoaaGreatDoorGAN
import Derived.Test.YtdcelpomnboeoaaGreatDoorGAJ
import Derived.Test.YtdcelpomnboeoaaGreatDoorGAM
import Derived.Test.YtdcelpomnboeoaaGreatDoorGAH
import Derived.Test.YtdcelpomnboeoaaGreatDoorGAG

section
set_option linter.all false
open Go Go.Ev Go.Proofs
namespace Go.Ev
set_option linter.unusedSimpArgs false
set_option linter.unusedVariables false

set_option maxRecDepth 100000

theorem prv_short3 {o : MOrd} (m : MkO 3 2 3 o) (pr : Int) : (prvL o pr).length ≤ 511 := by
  have k := m.ok (by decide) (by decide) (by decide)
  have bx := whole_X k
  have hv : volX (wholeB o) ≤ 256 := by
    have h := volX_le3 (wholeB o) fun p hp => by
      obtain ⟨i, hi⟩ := List.getElem?_of_mem hp
      obtain ⟨a, c⟩ := okX_get bx.ok hi
      by_cases h : i < o.bins.length
      · obtain ⟨q, hq, r⟩ := a h
        have := (m.bin q hq).g
        omega
      · rw [c h]; exact ⟨Int.le_refl _, by decide⟩
    rw [bx.len] at h
    exact h
  unfold prvL proveN
  split
  · cases h : plainL o pr 41 (wholeB o) with
    | none => simp
    | some p =>
      have := plain_vol k pr 41 _ bx p h
      simp only [Option.getD_some]
      omega
  · simp
theorem reaF_len : ∀ (l : List MBd) (acc : List UInt8), (reaF l acc).1.length ≤ acc.length + 9 * l.length
  | [], acc => by simp [reaF]
  | b :: l, acc => by
    rw [reaF]
    split
    · rename_i h
      have ih := reaF_len l (acc ++ lineB b)
      have h2 := (write_read h).2.2
      simp only [List.length_append, List.length_cons, lineB, List.length_nil] at ih ⊢
      omega
    · simp
theorem reasons_all (l : List MBd) : ACalls Tryz.prog 9 [.sl false false .U .no l.length (eBds l)] [] (.ret (.tup [.s (.string ⟨(reaR l).1.toArray⟩), .s (.int .i64 (reaR l).2)]) [] []) := by
  unfold reaR
  split
  · rename_i h; exact reasons_many l h
  · exact reasons_ok l (by omega)
theorem rreasons_all (l : List MBd) : ACalls Tryz.prog 10 [.sl false false .U .no l.length (eBds l)] [] (.ret (.tup [.s (.string ⟨(reaR l).1.toArray⟩), .s (.int .i64 (reaR l).2)]) [] []) := by
  unfold reaR
  split
  · rename_i h; exact rreasons_many l h
  · exact rreasons_ok l (by omega)
theorem reaR_len (l : List MBd) (h : l.length ≤ 511 ∨ 6000 < l.length) : (reaR l).1.length ≤ 4599 := by
  unfold reaR
  split
  · simp
  · have := reaF_len l []; simp at this; omega
/-- What is read of a text of any length that is asked. -/
def prsA (t : List UInt8) : List MBd × Int × Int := if 60000 < t.length then ([], 0, 10) else prsR (Tryz.parted 10 t).dropLast ((Tryz.parted 10 t).getLast (Tryz.parted_ne 10 t))
theorem parse_all (t : List UInt8) (h : t.length ≤ 6000 ∨ 60000 < t.length) : ACalls Tryz.prog 13 [.s (tx t)] [] (.ret (.tup [.sl false false .U .no (prsA t).1.length (eBds (prsA t).1), .s (.int .i64 (prsA t).2.1), .s (.int .i64 (prsA t).2.2)]) [] []) := by
  unfold prsA
  split
  · rename_i q; exact parse_long t q
  · exact parse_ok t _ _ (by omega) (List.dropLast_concat_getLast (Tryz.parted_ne 10 t)).symm
theorem rparse_all (t : List UInt8) (h : t.length ≤ 6000 ∨ 60000 < t.length) : ACalls Tryz.prog 14 [.s (tx t)] [] (.ret (.tup [.sl false false .U .no (prsA t).1.length (eBds (prsA t).1), .s (.int .i64 (prsA t).2.1), .s (.int .i64 (prsA t).2.2)]) [] []) := by
  unfold prsA
  split
  · rename_i q; exact rparse_long t q
  · exact rparse_ok t _ _ (by omega) (List.dropLast_concat_getLast (Tryz.parted_ne 10 t)).symm
theorem prsR_len (ls : List (List UInt8)) (la : List UInt8) : (prsR ls la).1.length ≤ ls.length := by
  unfold prsR
  cases hG : prsG ls 0 [] with
  | inr i => simp
  | inl acc =>
    have := (prsG_inl ls 0 [] acc hG).1
    have hl : acc.length = ls.length := by rw [this]; simp
    simp only
    split
    · split
      · simp only; omega
      · simp
    · simp
theorem prsA_len (t : List UInt8) (h : t.length ≤ 6000 ∨ 60000 < t.length) : (prsA t).1.length ≤ 6001 := by
  unfold prsA
  split
  · simp
  · have h1 := prsR_len (Tryz.parted 10 t).dropLast ((Tryz.parted 10 t).getLast (Tryz.parted_ne 10 t))
    have h2 := parted_len 10 t
    have h3 : (Tryz.parted 10 t).dropLast.length ≤ (Tryz.parted 10 t).length := by simp
    omega
theorem pcl (n : Nat) : n ≤ 60 ∨ (60 < n ∧ n ≤ 6000) ∨ (6000 < n ∧ n ≤ 6060) ∨ 6060 < n := by omega
theorem tcl (n : Nat) : n ≤ 700 ∨ (700 < n ∧ n ≤ 60000) ∨ 60000 < n := by omega
def eLB (l : List (List MBd)) : List D := l.map fun x => .sl x.length (eBds x)
def mrE (at_ how : Int) (c : UInt8) (r : List (Nat × AV)) : List (Nat × AV) := (3, .s (.int .i64 at_)) :: (4, .s (.int .i64 how)) :: (5, .s (.int .u8 c.toNat)) :: r
def mrJ (proof : List MBd) (text : List UInt8) (nums : List Int) (at_ how : Int) (c : UInt8) (b : Bool) : St :=
  St.lit 165 ((0, .sl false false .U .no proof.length (eBds proof)) :: (1, .s (tx text)) :: (2, .sl false false .U .no nums.length (eInts nums)) :: mrE at_ how c [(53, .s (.bool b))]) [] [] []
def mrS0 (proof L : List MBd) (text : List UInt8) (at_ how : Int) (c : UInt8) : Nat → St
  | 0 => St.lit 165 (mrE at_ how c [(16, .sl false false .U .no 2 (eLB [proof, L])), (17, .sl true true .E .full 1 (eTx [text])), (18, .s (.int .i64 0))]) [] [] []
  | 1 => St.lit 165 (mrE at_ how c [(16, .sl false false .U .no 2 (eLB [proof, L])), (17, .sl false false .Z (.tok 115) 2 (eTx [text, (reaR proof).1])), (18, .s (.int .i64 1))]) [] [] [(115, (2, 1))]
  | _ => St.lit 165 (mrE at_ how c [(16, .sl false false .U .no 2 (eLB [proof, L])), (17, .sl false false .Z (.tok 115) 3 (eTx [text, (reaR proof).1, (reaR L).1])), (18, .s (.int .i64 2))]) [] [] [(115, (3, 1))]
def mrS1 (tl : List (List UInt8)) (k : Nat) : St := St.lit 165 [(17, .sl false false .U .no tl.length (eTx tl)), (24, .s (.int .i64 k))] [] [] []
attribute [simp] mrE mrJ mrS0 mrS1

set_option maxHeartbeats 8000000 in
theorem reasons3_ok (proof : List MBd) (text : List UInt8) (nums : List Int) (at_ how : Int) (c : UInt8) (hl : (nums.length : Int) < 9223372036854775807) (o : MOrd) (y0 : Int) (ho : o = ordOf 3 2 3 (feedS nums)) (hy : y0 = ordS 3 2 3 (feedS nums)) (k : OkO o) (hsh : ∀ pr, (prvL o pr).length ≤ 511) : ACalls Tryz.prog 3 [.sl false false .U .no proof.length (eBds proof), .s (tx text), .sl false false .U .no nums.length (eInts nums), .s (.int .i64 at_), .s (.int .i64 how), .s (.int .u8 c.toNat)] [] (.ret (.s (.bool true)) [] []) := by
  have c1 := orderOf_ok 3 2 3 (feedS nums) (by decide) (by decide)
  rw [← ho, ← hy] at c1
  clear ho hy
  have c2 := below_ok 60 y0 (by omega)
  obtain ⟨pr, hpr⟩ : ∃ pr, pr = belV 60 y0 := ⟨_, rfl⟩
  rw [← hpr] at c2
  have c3 := rProve_ok o pr k.sz
  have hL0 := hsh pr
  obtain ⟨L, hL⟩ : ∃ L, L = prvL o pr := ⟨_, rfl⟩
  rw [← hL] at c3 hL0
  obtain ⟨er, her⟩ : ∃ e, e = prvE o pr := ⟨_, rfl⟩
  rw [← her] at c3
  clear hL her hpr
  refine acalls_of_ew Tryz.func3 rfl rfl (by simp [Tryz.f3]) (rs := [.tmp 12]) rfl ?_
  refine EW.seq fun Ψ0 n0 x0 => ?_
  refine EW.region gs_nil ?_
  simp
  refine n0 _ ?_; clear n0 x0
  refine EW.seq fun Ψ1 n1 x1 => ?_
  refine EW.seqJ (mrJ proof text nums at_ how c) (fun b => b = false → (proof.length ≤ 60 ∨ (6000 < proof.length ∧ proof.length ≤ 6060)) ∧ (text.length ≤ 700 ∨ 60000 < text.length)) (fun p hp => ?_) ?_
  rotate_left
  · skip
    refine EW.hide fun Ψ n => ?_
    rcases pcl proof.length with m1 | m1 | m1 | m1
    · rcases tcl text.length with t1 | t1 | t1
      · refine EW.region gs_nil ?_
        simp [show ¬ (60 : Int) < proof.length by omega, show ¬ (6060 : Int) < proof.length by omega, show ¬ (700 : Int) < text.length by omega]
        exact n _ _ ⟨false, fun h => ⟨by omega, by omega⟩, St.le_lit rfl (by simp) (by simp) (by simp) (by simp) (by simp)⟩
      · refine EW.region gs_nil ?_
        simp [show ¬ (60 : Int) < proof.length by omega, show ¬ (6060 : Int) < proof.length by omega, show (700 : Int) < text.length by omega, show (text.length : Int) ≤ 60000 by omega]
        exact n _ _ ⟨true, fun h => (by cases h), St.le_lit rfl (by simp) (by simp) (by simp) (by simp) (by simp)⟩
      · refine EW.region gs_nil ?_
        simp [show ¬ (60 : Int) < proof.length by omega, show ¬ (6060 : Int) < proof.length by omega, show (700 : Int) < text.length by omega, show ¬ (text.length : Int) ≤ 60000 by omega]
        exact n _ _ ⟨false, fun h => ⟨by omega, by omega⟩, St.le_lit rfl (by simp) (by simp) (by simp) (by simp) (by simp)⟩
    · refine EW.region gs_nil ?_
      simp [show (60 : Int) < proof.length by omega, show (proof.length : Int) ≤ 6000 by omega]
      exact n _ _ ⟨true, fun h => (by cases h), St.le_lit rfl (by simp) (by simp) (by simp) (by simp) (by simp)⟩
    · rcases tcl text.length with t1 | t1 | t1
      · refine EW.region gs_nil ?_
        simp [show (60 : Int) < proof.length by omega, show ¬ (proof.length : Int) ≤ 6000 by omega, show ¬ (6060 : Int) < proof.length by omega, show ¬ (700 : Int) < text.length by omega]
        exact n _ _ ⟨false, fun h => ⟨by omega, by omega⟩, St.le_lit rfl (by simp) (by simp) (by simp) (by simp) (by simp)⟩
      · refine EW.region gs_nil ?_
        simp [show (60 : Int) < proof.length by omega, show ¬ (proof.length : Int) ≤ 6000 by omega, show ¬ (6060 : Int) < proof.length by omega, show (700 : Int) < text.length by omega, show (text.length : Int) ≤ 60000 by omega]
        exact n _ _ ⟨true, fun h => (by cases h), St.le_lit rfl (by simp) (by simp) (by simp) (by simp) (by simp)⟩
      · refine EW.region gs_nil ?_
        simp [show (60 : Int) < proof.length by omega, show ¬ (proof.length : Int) ≤ 6000 by omega, show ¬ (6060 : Int) < proof.length by omega, show (700 : Int) < text.length by omega, show ¬ (text.length : Int) ≤ 60000 by omega]
        exact n _ _ ⟨false, fun h => ⟨by omega, by omega⟩, St.le_lit rfl (by simp) (by simp) (by simp) (by simp) (by simp)⟩
    · refine EW.region gs_nil ?_
      simp [show (60 : Int) < proof.length by omega, show ¬ (proof.length : Int) ≤ 6000 by omega, show (6060 : Int) < proof.length by omega]
      exact n _ _ ⟨true, fun h => (by cases h), St.le_lit rfl (by simp) (by simp) (by simp) (by simp) (by simp)⟩
  rename Bool => b53
  have hp1 := hp
  refine EW.cond (t := _) (by rfl) (fun hc53 => ?_) (fun hc53 => ?_)
  · clear hc53
    refine EW.seq fun Ψ3 n3 x3 => ?_
    refine EW.region (gs_cons alive_ok gs_nil) ?_
    simp
    refine n3 _ ?_; clear n3 x3
    refine EW.ret ?_
    refine x1 _ _ rfl ?_; clear n1 x1
    refine ⟨_, _, _, rfl, ?_, ?_, ?_, ?_, ?_⟩ <;> simp
  · have hb0 := hc53
    obtain ⟨hx1, hx2⟩ := hp1 (by simpa using hb0)
    clear hp1 hp hb0
    have hr0 := reaR_len proof (by omega)
    have hr1 := reaR_len L (by omega)
    have c4 := bent_ok (reaR L).1 at_ how c (by omega)
    refine EW.skip ?_
    refine n1 _ ?_; clear n1 x1
    refine EW.seq fun Ψ4 n4 x4 => ?_
    refine EW.region (gs_cons (feedOf_ok nums hl) gs_nil) ?_
    simp
    refine n4 _ ?_; clear n4 x4
    refine EW.seq fun Ψ5 n5 x5 => ?_
    refine EW.region (gs_cons c1 (gs_cons c2 (gs_cons c3 gs_nil))) ?_
    simp
    refine n5 _ ?_; clear n5 x5
    refine EW.seq fun Ψ6 n6 x6 => ?_
    refine EW.region gs_nil ?_
    simp
    refine n6 _ ?_; clear n6 x6
    refine EW.seq fun Ψ7 n7 x7 => ?_
    refine EW.seq fun Ψ8 n8 x8 => ?_
    refine EW.region gs_nil ?_
    simp
    refine n8 _ ?_; clear n8 x8
    refine EW.block ?_
    refine EW.loopA (mrS0 proof L text at_ how c) (fun i => i ≤ 2) (fun i => 2 - i) 0 (St.le_lit rfl (by simp [eLB, eTx]) (by simp) (by simp) (by simp) (by simp)) ?_ fun p hk => ?_
    · simp
    have hk2 : p ≤ 2 := hk
    rcases (show p = 0 ∨ p = 1 ∨ p = 2 by omega) with rfl | rfl | rfl
    · skip
      refine EW.seq fun Ψ9 n9 x9 => ?_
      refine EW.seq fun Ψ10 n10 x10 => ?_
      refine EW.region gs_nil ?_
      simp
      refine n10 _ ?_; clear n10 x10
      refine EW.cond (t := _) (by rfl) (fun hc73 => ?_) (fun hc73 => ?_)
      · clear hc73
        refine EW.skip ?_
        refine n9 _ ?_; clear n9 x9
        refine EW.seq fun Ψ11 n11 x11 => ?_
        refine EW.block ?_
        refine EW.seq fun Ψ12 n12 x12 => ?_
        refine EW.region gs_nil ?_
        simp [eLB, show proof.length * 24 ≤ 140737488355328 by omega]
        refine n12 _ ?_; clear n12 x12
        refine EW.seq fun Ψ13 n13 x13 => ?_
        refine EW.region (gs_cons (reasons_all proof) gs_nil) ?_
        simp
        refine n13 _ ?_; clear n13 x13
        refine EW.seq fun Ψ14 n14 x14 => ?_
        refine EW.region (gs_cons (rreasons_all proof) gs_nil) ?_
        simp [eLB]
        refine n14 _ ?_; clear n14 x14
        refine EW.seq fun Ψ15 n15 x15 => ?_
        refine EW.seq fun Ψ16 n16 x16 => ?_
        refine EW.region (gs_cons (eqBds_ok proof proof (by omega)) gs_nil) ?_
        simp [eLB]
        refine n16 _ ?_; clear n16 x16
        refine EW.cond (t := _) (by rfl) (fun hc111 => ?_) (fun hc111 => ?_)
        · simp at hc111
        · clear hc111
          refine EW.skip ?_
          refine n15 _ ?_; clear n15 x15
          refine EW.hide fun Ψ17 n17 => ?_
          refine EW.region gs_nil ?_
          simp [eTx]
          refine n17 _ _ ?_; clear n17
          refine n11 _ ?_; clear n11 x11
          refine EW.hide fun Ψ18 n18 => ?_
          refine EW.region gs_nil ?_
          simp
          refine n18 _ _ ?_; clear n18
          refine ⟨1, (St.le_lit rfl (by simp [eLB, eTx, show IntKind.i64.wrap 1 = 1 from by decide]) (by simp) (by simp) (by simp) (by simp)), ?_, ?_⟩
          · simp
          · simp
      · simp at hc73
    · skip
      refine EW.seq fun Ψ19 n19 x19 => ?_
      refine EW.seq fun Ψ20 n20 x20 => ?_
      refine EW.region gs_nil ?_
      simp
      refine n20 _ ?_; clear n20 x20
      refine EW.cond (t := _) (by rfl) (fun hc73 => ?_) (fun hc73 => ?_)
      · clear hc73
        refine EW.skip ?_
        refine n19 _ ?_; clear n19 x19
        refine EW.seq fun Ψ21 n21 x21 => ?_
        refine EW.block ?_
        refine EW.seq fun Ψ22 n22 x22 => ?_
        refine EW.region gs_nil ?_
        simp [eLB, show L.length * 24 ≤ 140737488355328 by omega]
        refine n22 _ ?_; clear n22 x22
        refine EW.seq fun Ψ23 n23 x23 => ?_
        refine EW.region (gs_cons (reasons_all L) gs_nil) ?_
        simp
        refine n23 _ ?_; clear n23 x23
        refine EW.seq fun Ψ24 n24 x24 => ?_
        refine EW.region (gs_cons (rreasons_all L) gs_nil) ?_
        simp [eLB]
        refine n24 _ ?_; clear n24 x24
        refine EW.seq fun Ψ25 n25 x25 => ?_
        refine EW.seq fun Ψ26 n26 x26 => ?_
        refine EW.region (gs_cons (eqBds_ok L L (by omega)) gs_nil) ?_
        simp [eLB]
        refine n26 _ ?_; clear n26 x26
        refine EW.cond (t := _) (by rfl) (fun hc111 => ?_) (fun hc111 => ?_)
        · simp at hc111
        · clear hc111
          refine EW.skip ?_
          refine n25 _ ?_; clear n25 x25
          refine EW.hide fun Ψ27 n27 => ?_
          refine EW.region gs_nil ?_
          simp [eTx]
          refine n27 _ _ ?_; clear n27
          refine n21 _ ?_; clear n21 x21
          refine EW.hide fun Ψ28 n28 => ?_
          refine EW.region gs_nil ?_
          simp
          refine n28 _ _ ?_; clear n28
          refine ⟨2, (St.le_lit rfl (by simp [eLB, eTx, show IntKind.i64.wrap 2 = 2 from by decide]) (by simp) (by simp) (by simp) (by simp)), ?_, ?_⟩
          · simp
          · simp
      · simp at hc73
    · skip
      refine EW.seq fun Ψ29 n29 x29 => ?_
      refine EW.seq fun Ψ30 n30 x30 => ?_
      refine EW.region gs_nil ?_
      simp
      refine n30 _ ?_; clear n30 x30
      refine EW.cond (t := _) (by rfl) (fun hc73 => ?_) (fun hc73 => ?_)
      · simp at hc73
      · clear hc73
        refine EW.exit ?_
        refine x29 _ _ rfl ?_; clear n29 x29
        refine n7 _ ?_; clear n7 x7
        refine EW.seq fun Ψ31 n31 x31 => ?_
        refine EW.region (gs_cons c4 gs_nil) ?_
        simp [eTx]
        refine n31 _ ?_; clear n31 x31
        refine EW.seq fun Ψ32 n32 x32 => ?_
        refine EW.seq fun Ψ33 n33 x33 => ?_
        refine EW.region gs_nil ?_
        simp
        refine n33 _ ?_; clear n33 x33
        refine EW.block ?_
        obtain ⟨tl, htl⟩ : ∃ x, x = [text, (reaR proof).1, (reaR L).1, bentR (reaR L).1 at_ how c] := ⟨_, rfl⟩
        have htn : tl.length = 4 := by rw [htl]; rfl
        have hta : ∀ t ∈ tl, t.length ≤ 6000 ∨ 60000 < t.length := by
          rw [htl]
          intro t ht
          simp only [List.mem_cons, List.not_mem_nil, or_false] at ht
          rcases ht with rfl | rfl | rfl | rfl
          · rcases hx2 with h | h <;> omega
          · left; omega
          · left; omega
          · left; have := bent_len (reaR L).1 at_ how c; omega
        refine EW.loopA (mrS1 tl) (fun i => i ≤ tl.length) (fun i => tl.length - i) 0 (St.le_lit rfl (by simp [htl, eTx]) (by simp) (by simp) (by simp) (by simp)) ?_ fun p hk => ?_
        · simp
        rename Nat => i
        refine EW.seq fun Ψ34 n34 x34 => ?_
        refine EW.seq fun Ψ35 n35 x35 => ?_
        refine EW.region gs_nil ?_
        simp
        refine n35 _ ?_; clear n35 x35
        refine EW.cond (t := _) (by rfl) (fun hc129 => ?_) (fun hc129 => ?_)
        · simp at hc129
          have e1 : tl[i]? = some tl[i] := List.getElem?_eq_getElem hc129
          have hti := hta _ (List.getElem_mem hc129)
          have htz := prsA_len _ hti
          refine EW.skip ?_
          refine n34 _ ?_; clear n34 x34
          refine EW.seq fun Ψ36 n36 x36 => ?_
          refine EW.block ?_
          refine EW.seq fun Ψ37 n37 x37 => ?_
          refine EW.region (gs_cons (parse_all tl[i] hti) gs_nil) ?_
          simp [hc129, e1]
          refine n37 _ ?_; clear n37 x37
          refine EW.seq fun Ψ38 n38 x38 => ?_
          refine EW.region (gs_cons (rparse_all tl[i] hti) gs_nil) ?_
          simp [hc129, e1]
          refine n38 _ ?_; clear n38 x38
          refine EW.seq fun Ψ39 n39 x39 => ?_
          refine EW.region (gs_cons (eqBds_ok (prsA tl[i]).1 (prsA tl[i]).1 (by omega)) gs_nil) ?_
          simp
          refine n39 _ ?_; clear n39 x39
          refine EW.cond (t := _) (by rfl) (fun hc163 => ?_) (fun hc163 => ?_)
          · simp at hc163
          · clear hc163
            refine EW.skip ?_
            refine n36 _ ?_; clear n36 x36
            refine EW.hide fun Ψ40 n40 => ?_
            refine EW.region gs_nil ?_
            simp
            refine n40 _ _ ?_; clear n40
            have e3 : IntKind.i64.wrap ((i : Int) + 1) = i + 1 := wr_small (by omega) (by omega)
            refine ⟨(i + 1), (St.le_lit rfl (by simp [e3]) (by simp) (by simp) (by simp) (by simp)), ?_, ?_⟩
            · omega
            · omega
        · simp at hc129
          refine EW.exit ?_
          refine x34 _ _ rfl ?_; clear n34 x34
          refine n32 _ ?_; clear n32 x32
          refine EW.seq fun Ψ41 n41 x41 => ?_
          refine EW.region (gs_cons alive_ok gs_nil) ?_
          simp
          refine n41 _ ?_; clear n41 x41
          refine EW.ret ?_
          refine ⟨_, _, _, rfl, ?_, ?_, ?_, ?_, ?_⟩ <;> simp


theorem MeltReasons_ok (proof : List MBd) (text : List UInt8) (nums : List Int) (at_ how : Int) (c : UInt8) (hl : (nums.length : Int) < 9223372036854775807) : ACalls Tryz.prog 3 [.sl false false .U .no proof.length (eBds proof), .s (tx text), .sl false false .U .no nums.length (eInts nums), .s (.int .i64 at_), .s (.int .i64 how), .s (.int .u8 c.toNat)] [] (.ret (.s (.bool true)) [] []) :=
  have m := made 3 2 3 (feedS nums) (by decide) (by decide) (by decide)
  reasons3_ok proof text nums at_ how c hl _ _ rfl rfl (m.ok (by decide) (by decide) (by decide)) (prv_short3 m)
end Go.Ev
end

section
set_option linter.all false
open Go Go.Ev Go.Proofs Go.RowKit Go.ChangeShapes Go.WideShapes
namespace Go.Ev
set_option linter.unusedSimpArgs false
set_option linter.unusedVariables false

theorem Tryz.ownK : ownKnob Tryz.prog.godebug = none := by kernel_rfl
theorem Tryz.laid : laidOutB Tryz.prog = true := by kernel_rfl
theorem Tryz.cells3' : Tryz.prog.cellsOf 3 = 1 := by kernel_rfl
theorem Tryz.bytes3' : Tryz.prog.bytesOf 3 = 8 := by kernel_rfl
theorem rds_ints {w : World} {i1 i2 : Nat → Nat → Prop} (b : Nat) (hi : ∀ o, i1 b o) : ∀ (l : List Int) (o : Nat), (∀ i, i < l.length → w.cell? ⟨b, o + i, none⟩ = some (.int .i64 (l.getD i 0))) → RDs w i1 i2 (eInts l) b o
  | [], o, _ => by simp [RDs]
  | a :: l, o, h => by
    simp only [eInts_cons, RDs]
    refine ⟨hi o, ⟨.int .i64 a, by simpa using h 0 (by simp), rfl, by simp [RD]⟩, rds_ints b hi l (o + 1) fun i hi' => ?_⟩
    have := h (i + 1) (by simp; omega)
    rw [show o + (i + 1) = o + 1 + i by omega] at this
    simpa using this
theorem ints_in {P : Program} {H : Type} {enc : TypeId × Value → H} {W : World} {base : Nat} {v : Value} {d : DataW H} {ps : List MemPlace} {t e : TypeId} (ht : P.underlying t = some (.slice e)) (he : P.underlying e = some (.int .i64)) (hc : P.cellsOf e = 1) (h : DataW.Trod enc P W 0 (fun _ => true) true t v d ps) (hval : Value.okWide P W .any base t v)
    (hlt : ∀ x ∈ ps, x.block < W.heap.size) (hsz : ∀ e s, d = .slice e s → (e.length + s.length) * 8 ≤ reachBytes) :
    ∃ l : List Int, RV W (c0 (rdO W) []) (.sl false false .U .no l.length (eInts l)) v ∧ (l.length : Int) < 1000000000000000 := by
  obtain ⟨a0, len, cap, rfl⟩ := okWide_slice ht hval
  obtain ⟨fuel, hf⟩ := h
  have hrb : reachBytes < 140737488355328 := by have := reachBytes_lt; omega
  rcases open_ints ht he hc hf with ⟨hcs, hx⟩ | ⟨a, len', cap', zs, hcs, _, hl, hm, hz, hx, hcell, hwz⟩
  · have e : (Value.slice a0 len cap) = .slice none 0 0 := by simpa [Value.cells] using hcs
    cases e
    exact ⟨[], ⟨none, 0, rfl, Nat.le_refl _, ⟨rfl, rfl, rfl, by decide⟩, trivial⟩, by simp⟩
  · have e : (Value.slice a0 len cap) = .slice (some a) len' cap' := by simpa [Value.cells] using hcs
    cases e
    have hz' : zs.length = cap := by simpa using hz
    cases hx
    have hsp := hval
    simp only [Value.okWide, ht, Cell.okWide, Cell.ok, World.has] at hsp
    have hs : a.spot = none := hsp.2.2.2.1
    obtain ⟨b, off, sp⟩ := a
    simp only at hs
    subst hs
    have sz := hsz _ _ rfl
    have e1 : (zs.take len).length = len := by rw [List.length_take]; omega
    refine ⟨zs.take len, ⟨some ⟨b, off, none⟩, cap, by rw [e1], by rw [e1]; exact hl, ⟨.inl rfl, by simp, ?_⟩, trivial⟩, ?_⟩
    · by_cases h0 : len = 0
      · subst h0; simp [RDs]
      · refine rds_ints b (fun o => ?_) _ _ fun i hi => ?_
        · exact hlt (.cell b (off + 0)) (List.mem_map.2 ⟨0, List.mem_range.2 (by omega), rfl⟩)
        · rw [e1] at hi
          have := hcell i (by omega)
          rw [add_plain] at this
          rw [this]
          simp [List.getD, List.getElem?_take, hi]
    · simp [lits] at sz
      rw [e1]
      omega
end Go.Ev
end

section
set_option linter.all false
open Go Go.Ev Go.Proofs Go.RowKit Go.ChangeShapes Go.WideShapes
namespace Go.Ev
set_option linter.unusedSimpArgs false
set_option linter.unusedVariables false
set_option linter.all false
theorem in_bnd {H : Type} : In H Tryz.prog 52 eBd (fun _ => True) :=
  (In.struct Tryz.underlying52 (by kernel_rfl) (InFs.cons rfl (In.int Tryz.underlying3) (InFs.cons (by simp) (In.int Tryz.underlying3) (InFs.cons (by simp) (In.int Tryz.underlying3) InFs.nil)))).map
    (fun a => ⟨a.1, a.2.1, a.2.2.1⟩) (fun a => rfl) (fun _ _ => trivial)
theorem in_bds {H : Type} : In H Tryz.prog 22 (fun l : List MBd => [D.sl l.length (eBds l)]) (fun _ => True) :=
  (In.slice Tryz.underlying22 (by simp) in_bnd).map (fun a => a) (fun a => rfl) (fun _ _ => trivial)
theorem int_arg {W : World} {r : Reach} {base : Nat} {v : Value} {n : Int} (hval : Value.okWide Tryz.prog W r base 3 v) (h : RC W (imO W) [D.s (.int .i64 n)] v.cells.toList) : RV W (c0 (rdO W) []) (.s (.int .i64 n)) v := by
  simp only [Value.okWide, Tryz.underlying3, Cell.okWide, Cell.ok] at hval
  split at hval
  all_goals first | (exact hval.elim; done) | skip
  all_goals first | (rename_i e; cases e; done) | skip
  rename_i k k' m e
  obtain ⟨u, q, e2, _, h2, _⟩ := h
  cases e2
  simp only [RD] at h2
  simpa [RV] using h2
end Go.Ev
end
