/- Lemmas for the claims of this seat: an evaluator over abstract values, its soundness, and the contracts of the functions of melt that it walks; no premise beyond what each theorem states. -/
import Derived.Test.YtdcelpomnboeoaaLD
import Derived.Test.YtdcelpomnboeoaaLE
import Derived.Test.YtdcelpomnboeoaaLG
import Derived.Test.YtdcelpomnboeoaaLA
import Derived.Test.YtdcelpomnboeoaaLB
import Derived.Test.YtdcelpomnboeoaaLF
import Derived.Test.YtdcelpomnboeoaaLI
import Derived.Test.YtdcelpomnboeoaaLK
import Derived.Test.YtdcelpomnboeoaaLL
import Derived.Test.YtdcelpomnboeoaaLM
import Derived.Test.YtdcelpomnboeoaaLH
import Derived.Test.YtdcelpomnboeoaaLC

section
set_option linter.all false
open Go Go.Ev Go.Proofs
namespace Go.Ev
set_option linter.unusedSimpArgs false
set_option linter.unusedVariables false


/-- Whether what comes first in a proof is right for a box, and what is left of it. -/
def verR (o : MOrd) (pr : Int) : Nat → List (Int × Int) → List MBd → Int × List MBd
  | 0, _, r => (2, r)
  | _ + 1, _, [] => (2, [])
  | n + 1, x, b :: r =>
    if b.r = 1 then
      if inB b.a 0 (wr (o.bins.length - 1)) = false then (3, r)
      else if inB b.c (x[b.a.toNat]?.getD (0, 0)).1 (wr ((x[b.a.toNat]?.getD (0, 0)).2 - 1)) = false then (1, r)
      else if (verR o pr n (setHi x b.a.toNat b.c) r).1 = 0 then verR o pr n (setLo x b.a.toNat (wr (b.c + 1))) (verR o pr n (setHi x b.a.toNat b.c) r).2
      else verR o pr n (setHi x b.a.toNat b.c) r
    else if b.r = 2 then (if lightB o x = true then 0 else 9, r)
    else if b.r = 3 then (if heavyB o x = true then 0 else 9, r)
    else if b.r = 4 then (if inB b.a 0 (wr (o.limits.length - 1)) = false then (3, r) else (if brkV o x b.a.toNat = true then 0 else 9, r))
    else if b.r = 5 then (if dearB o pr x = true then 0 else 9, r)
    else (8, r)
theorem verR_len (o : MOrd) (pr : Int) : ∀ (n : Nat) (x : List (Int × Int)) (r : List MBd), (verR o pr n x r).2.length ≤ r.length
  | 0, _, r => Nat.le_refl _
  | _ + 1, _, [] => Nat.le_refl _
  | n + 1, x, b :: r => by
    have h1 := verR_len o pr n (setHi x b.a.toNat b.c) r
    have h2 := verR_len o pr n (setLo x b.a.toNat (wr (b.c + 1))) (verR o pr n (setHi x b.a.toNat b.c) r).2
    simp only [verR, List.length_cons]
    repeat' split
    all_goals first | (simp only; omega) | omega
@[simp] theorem eBds_take (l : List MBd) (n : Nat) (h : n = l.length * 3) : List.take n (eBds l) = eBds l := by rw [h, ← eBds_len, List.take_length]

theorem check75_nil (o : MOrd) (pr : Int) (x : List (Int × Int)) (hx : x.length = 4) : ACalls Try.prog 75 [.ptr (.ext 0) 0, .agg (bxA x)] [[.sl false false .U .no o.limits.length (eInts o.limits), .s (.int .i64 o.least), .s (.int .i64 o.most), .sl false false .U .no o.bins.length (eBins o.bins), .s (.int .i64 pr), .sl false false .U .no ([] : List MBd).length (eBds ([] : List MBd))]] (.ret (.s (.int .i64 2)) [[.sl false false .U .no o.limits.length (eInts o.limits), .s (.int .i64 o.least), .s (.int .i64 o.most), .sl false false .U .no o.bins.length (eBins o.bins), .s (.int .i64 pr), .sl false false .U .no ([] : List MBd).length (eBds ([] : List MBd))]] []) := by
  refine acalls_of_ew Try.func75 rfl rfl (by simp [Try.f75]) (rs := [.tmp 4]) rfl ?_
  refine EW.seq fun Ψ0 n0 x0 => ?_
  refine EW.region gs_nil ?_
  simp
  refine n0 _ ?_; clear n0 x0
  refine EW.seq fun Ψ1 n1 x1 => ?_
  refine EW.seq fun Ψ2 n2 x2 => ?_
  refine EW.region gs_nil ?_
  simp
  refine n2 _ ?_; clear n2 x2
  refine EW.cond (t := _) (by rfl) (fun hc15 => ?_) (fun hc15 => ?_)
  · clear hc15
    refine EW.seq fun Ψ3 n3 x3 => ?_
    refine EW.region gs_nil ?_
    simp
    refine n3 _ ?_; clear n3 x3
    refine EW.ret ?_
    refine x1 _ _ rfl ?_; clear n1 x1
    refine ⟨_, _, _, rfl, ?_, ?_, ?_, ?_, ?_⟩ <;> simp
  · simp at hc15

set_option maxHeartbeats 4000000 in
theorem check75_cons (o : MOrd) (pr : Int) (n : Nat) (x : List (Int × Int)) (b : MBd) (r : List MBd) (hl : o.bins.length ≤ 4) (hx : x.length = 4) (hr : r.length < n) (hll : o.limits.length < 1000000) (hg : ∀ b ∈ o.bins, b.grams.length = o.limits.length)
  (ih : ∀ (y : List (Int × Int)) (s : List MBd), y.length = 4 → s.length < n → ACalls Try.prog 75 [.ptr (.ext 0) 0, .agg (bxA y)] [[.sl false false .U .no o.limits.length (eInts o.limits), .s (.int .i64 o.least), .s (.int .i64 o.most), .sl false false .U .no o.bins.length (eBins o.bins), .s (.int .i64 pr), .sl false false .U .no s.length (eBds s)]] (.ret (.s (.int .i64 (verR o pr n y s).1)) [[.sl false false .U .no o.limits.length (eInts o.limits), .s (.int .i64 o.least), .s (.int .i64 o.most), .sl false false .U .no o.bins.length (eBins o.bins), .s (.int .i64 pr), .sl false false .U .no (verR o pr n y s).2.length (eBds (verR o pr n y s).2)]] [])) : ACalls Try.prog 75 [.ptr (.ext 0) 0, .agg (bxA x)] [[.sl false false .U .no o.limits.length (eInts o.limits), .s (.int .i64 o.least), .s (.int .i64 o.most), .sl false false .U .no o.bins.length (eBins o.bins), .s (.int .i64 pr), .sl false false .U .no (b :: r).length (eBds (b :: r))]] (.ret (.s (.int .i64 (verR o pr (n + 1) x (b :: r)).1)) [[.sl false false .U .no o.limits.length (eInts o.limits), .s (.int .i64 o.least), .s (.int .i64 o.most), .sl false false .U .no o.bins.length (eBins o.bins), .s (.int .i64 pr), .sl false false .U .no (verR o pr (n + 1) x (b :: r)).2.length (eBds (verR o pr (n + 1) x (b :: r)).2)]] []) := by
  have l4 := verR_len o pr n
  refine acalls_of_ew Try.func75 rfl rfl (by simp [Try.f75]) (rs := [.tmp 4]) rfl ?_
  refine EW.seq fun Ψ0 n0 x0 => ?_
  refine EW.region gs_nil ?_
  simp
  refine n0 _ ?_; clear n0 x0
  refine EW.seq fun Ψ1 n1 x1 => ?_
  refine EW.seq fun Ψ2 n2 x2 => ?_
  refine EW.region gs_nil ?_
  simp
  refine n2 _ ?_; clear n2 x2
  refine EW.cond (t := _) (by rfl) (fun hc15 => ?_) (fun hc15 => ?_)
  · simp at hc15; try omega
  · clear hc15
    refine EW.skip ?_
    refine n1 _ ?_; clear n1 x1
    refine EW.seq fun Ψ3 n3 x3 => ?_
    refine EW.region gs_nil ?_
    simp
    refine n3 _ ?_; clear n3 x3
    refine EW.seq fun Ψ4 n4 x4 => ?_
    refine EW.region gs_nil ?_
    simp [show (1 : Int) ≤ (r.length : Int) + 1 by omega]
    refine n4 _ ?_; clear n4 x4
    refine EW.seq fun Ψ5 n5 x5 => ?_
    refine EW.region gs_nil ?_
    simp
    refine n5 _ ?_; clear n5 x5
    refine EW.seq fun Ψ6 n6 x6 => ?_
    refine EW.seq fun Ψ7 n7 x7 => ?_
    refine EW.region gs_nil ?_
    simp
    refine n7 _ ?_; clear n7 x7
    refine EW.block ?_
    refine EW.seq fun Ψ8 n8 x8 => ?_
    refine EW.region gs_nil ?_
    simp
    refine n8 _ ?_; clear n8 x8
    refine EW.cond (t := _) (by rfl) (fun hc32 => ?_) (fun hc32 => ?_)
    · have h1 : b.r = 1 := by simpa using hc32
      refine EW.seq fun Ψ9 n9 x9 => ?_
      refine EW.block ?_
      refine EW.seq fun Ψ10 n10 x10 => ?_
      refine EW.drawn [] mixed (gI_ok gs_nil) (by kernel_rfl) ?_
      simp
      refine n10 _ ?_; clear n10 x10
      refine EW.cond (t := _) (by rfl) (fun hc34 => ?_) (fun hc34 => ?_)
      · have h2 : inB b.a 0 (wr (o.bins.length - 1)) = false := by simpa using hc34
        have hv : verR o pr (n + 1) x (b :: r) = (3, r) := by simp [verR, h1, h2]
        refine EW.seq fun Ψ11 n11 x11 => ?_
        refine EW.region gs_nil ?_
        simp
        refine n11 _ ?_; clear n11 x11
        refine EW.ret ?_
        refine x9 _ _ rfl ?_; clear n9 x9
        refine x6 _ _ rfl ?_; clear n6 x6
        refine ⟨_, _, _, rfl, ?_, ?_, ?_, ?_, ?_⟩ <;> simp [hv]
      · have h2 : inB b.a 0 (wr (o.bins.length - 1)) = true := by simpa using hc34
        have h2b := inB_iff.1 h2
        rw [show wr ((o.bins.length : Int) - 1) = o.bins.length - 1 from wr_small (by omega) (by omega)] at h2b
        obtain ⟨k, hka⟩ : ∃ k : Nat, b.a = k := ⟨b.a.toNat, by omega⟩
        have hk4 : (k : Int) < 4 := by omega
        obtain ⟨⟨pa, pb⟩, e5⟩ : ∃ q, x[k]? = some q := ⟨_, List.getElem?_eq_getElem (by omega)⟩
        have e6 : ∀ h, x[k]'h = (pa, pb) := fun h => by rw [List.getElem?_eq_getElem h] at e5; exact Option.some.inj e5
        have hkt : b.a.toNat = k := by omega
        refine EW.seq fun Ψ12 n12 x12 => ?_
        refine EW.drawn [] mixed (gI_ok gs_nil) (by kernel_rfl) ?_
        simp [hka, hk4, hx, e5, e6, show k * 2 < 8 by omega, show k * 2 + 1 < 8 by omega]
        refine n12 _ ?_; clear n12 x12
        refine EW.cond (t := _) (by rfl) (fun hc47 => ?_) (fun hc47 => ?_)
        · have h3 : inB b.c pa (wr (pb - 1)) = false := by simpa using hc47
          have hv : verR o pr (n + 1) x (b :: r) = (1, r) := by simp only [verR, if_pos h1]; rw [if_neg (by rw [h2]; simp), hkt, e5]; simp only [Option.getD_some]; rw [if_pos h3]
          refine EW.seq fun Ψ13 n13 x13 => ?_
          refine EW.region gs_nil ?_
          simp
          refine n13 _ ?_; clear n13 x13
          refine EW.ret ?_
          refine x9 _ _ rfl ?_; clear n9 x9
          refine x6 _ _ rfl ?_; clear n6 x6
          refine ⟨_, _, _, rfl, ?_, ?_, ?_, ?_, ?_⟩ <;> simp [hv]
        · have h3 : inB b.c pa (wr (pb - 1)) = true := by simpa using hc47
          have hV : verR o pr (n + 1) x (b :: r) = if (verR o pr n (setHi x k b.c) r).1 = 0 then verR o pr n (setLo x k (wr (b.c + 1))) (verR o pr n (setHi x k b.c) r).2 else verR o pr n (setHi x k b.c) r := by simp only [verR, if_pos h1]; rw [if_neg (by rw [h2]; simp), hkt, e5]; simp only [Option.getD_some]; rw [if_neg (by rw [h3]; simp)]
          have c1 := ih (setHi x k b.c) r (by simp [hx]) hr
          have l1 := l4 (setHi x k b.c) r
          obtain ⟨⟨e1, r1⟩, g1⟩ : ∃ q, q = verR o pr n (setHi x k b.c) r := ⟨_, rfl⟩
          rw [← g1] at c1 l1 hV
          simp only at c1 l1 hV
          have c2 := ih (setLo x k (wr (b.c + 1))) r1 (by simp [hx]) (by omega)
          refine EW.skip ?_
          refine n9 _ ?_; clear n9 x9
          refine EW.seq fun Ψ14 n14 x14 => ?_
          refine EW.region (gs_cons (cut_ok x k b.c hx hk4) gs_nil) ?_
          simp [hka, hx]
          refine n14 _ ?_; clear n14 x14
          refine EW.seq fun Ψ15 n15 x15 => ?_
          refine EW.seq fun Ψ16 n16 x16 => ?_
          refine EW.region (gs_cons c1 gs_nil) ?_
          simp [hx]
          refine n16 _ ?_; clear n16 x16
          refine EW.seq fun Ψ17 n17 x17 => ?_
          refine EW.region gs_nil ?_
          simp
          refine n17 _ ?_; clear n17 x17
          refine EW.cond (t := _) (by rfl) (fun hc76 => ?_) (fun hc76 => ?_)
          · have h4 : ¬ e1 = 0 := by simpa using hc76
            have hv : verR o pr (n + 1) x (b :: r) = (e1, r1) := by rw [hV, if_neg h4]
            refine EW.seq fun Ψ18 n18 x18 => ?_
            refine EW.region gs_nil ?_
            simp
            refine n18 _ ?_; clear n18 x18
            refine EW.ret ?_
            refine x15 _ _ rfl ?_; clear n15 x15
            refine x6 _ _ rfl ?_; clear n6 x6
            refine ⟨_, _, _, rfl, ?_, ?_, ?_, ?_, ?_⟩ <;> simp [hv]
          · have h4 : e1 = 0 := by simpa using hc76
            have hv : verR o pr (n + 1) x (b :: r) = verR o pr n (setLo x k (wr (b.c + 1))) r1 := by rw [hV, if_pos h4]
            refine EW.skip ?_
            refine n15 _ ?_; clear n15 x15
            refine EW.seq fun Ψ19 n19 x19 => ?_
            refine EW.region (gs_cons c2 gs_nil) ?_
            simp [hx]
            refine n19 _ ?_; clear n19 x19
            refine EW.ret ?_
            refine x6 _ _ rfl ?_; clear n6 x6
            refine ⟨_, _, _, rfl, ?_, ?_, ?_, ?_, ?_⟩ <;> simp [hv]
    · have h1 : ¬ b.r = 1 := by simpa using hc32
      refine EW.seq fun Ψ20 n20 x20 => ?_
      refine EW.region gs_nil ?_
      simp
      refine n20 _ ?_; clear n20 x20
      refine EW.cond (t := _) (by rfl) (fun hc81 => ?_) (fun hc81 => ?_)
      · have h2 : b.r = 2 := by simpa using hc81
        refine EW.hide fun Ψ21 n21 => ?_
        refine EW.drawn [] mixed (gs_cons (light_ok o pr x hl hx) gs_nil) (by kernel_rfl) ?_
        simp [hx]
        refine n21 _ _ ?_; clear n21
        refine n6 _ ?_; clear n6 x6
        refine EW.seq fun Ψ22 n22 x22 => ?_
        refine EW.seq fun Ψ23 n23 x23 => ?_
        refine EW.region gs_nil ?_
        simp
        refine n23 _ ?_; clear n23 x23
        refine EW.cond (t := _) (by rfl) (fun hc137 => ?_) (fun hc137 => ?_)
        · have q : lightB o x = false := by simpa using hc137
          have hv : verR o pr (n + 1) x (b :: r) = (9, r) := by simp [verR, q, h1, h2]
          refine EW.seq fun Ψ24 n24 x24 => ?_
          refine EW.region gs_nil ?_
          simp
          refine n24 _ ?_; clear n24 x24
          refine EW.ret ?_
          refine x22 _ _ rfl ?_; clear n22 x22
          refine ⟨_, _, _, rfl, ?_, ?_, ?_, ?_, ?_⟩ <;> simp [hv]
        · have q : lightB o x = true := by simpa using hc137
          have hv : verR o pr (n + 1) x (b :: r) = (0, r) := by simp [verR, q, h1, h2]
          refine EW.skip ?_
          refine n22 _ ?_; clear n22 x22
          refine EW.seq fun Ψ25 n25 x25 => ?_
          refine EW.region gs_nil ?_
          simp
          refine n25 _ ?_; clear n25 x25
          refine EW.ret ?_
          refine ⟨_, _, _, rfl, ?_, ?_, ?_, ?_, ?_⟩ <;> simp [hv]
      · have h2 : ¬ b.r = 2 := by simpa using hc81
        refine EW.seq fun Ψ26 n26 x26 => ?_
        refine EW.region gs_nil ?_
        simp
        refine n26 _ ?_; clear n26 x26
        refine EW.cond (t := _) (by rfl) (fun hc92 => ?_) (fun hc92 => ?_)
        · have h3 : b.r = 3 := by simpa using hc92
          refine EW.hide fun Ψ27 n27 => ?_
          refine EW.drawn [] mixed (gs_cons (heavy_ok o pr x hl hx) gs_nil) (by kernel_rfl) ?_
          simp [hx]
          refine n27 _ _ ?_; clear n27
          refine n6 _ ?_; clear n6 x6
          refine EW.seq fun Ψ28 n28 x28 => ?_
          refine EW.seq fun Ψ29 n29 x29 => ?_
          refine EW.region gs_nil ?_
          simp
          refine n29 _ ?_; clear n29 x29
          refine EW.cond (t := _) (by rfl) (fun hc137 => ?_) (fun hc137 => ?_)
          · have q : heavyB o x = false := by simpa using hc137
            have hv : verR o pr (n + 1) x (b :: r) = (9, r) := by simp [verR, q, h1, h2, h3]
            refine EW.seq fun Ψ30 n30 x30 => ?_
            refine EW.region gs_nil ?_
            simp
            refine n30 _ ?_; clear n30 x30
            refine EW.ret ?_
            refine x28 _ _ rfl ?_; clear n28 x28
            refine ⟨_, _, _, rfl, ?_, ?_, ?_, ?_, ?_⟩ <;> simp [hv]
          · have q : heavyB o x = true := by simpa using hc137
            have hv : verR o pr (n + 1) x (b :: r) = (0, r) := by simp [verR, q, h1, h2, h3]
            refine EW.skip ?_
            refine n28 _ ?_; clear n28 x28
            refine EW.seq fun Ψ31 n31 x31 => ?_
            refine EW.region gs_nil ?_
            simp
            refine n31 _ ?_; clear n31 x31
            refine EW.ret ?_
            refine ⟨_, _, _, rfl, ?_, ?_, ?_, ?_, ?_⟩ <;> simp [hv]
        · have h3 : ¬ b.r = 3 := by simpa using hc92
          refine EW.seq fun Ψ32 n32 x32 => ?_
          refine EW.region gs_nil ?_
          simp
          refine n32 _ ?_; clear n32 x32
          refine EW.cond (t := _) (by rfl) (fun hc103 => ?_) (fun hc103 => ?_)
          · have h4 : b.r = 4 := by simpa using hc103
            refine EW.seq fun Ψ33 n33 x33 => ?_
            refine EW.seq fun Ψ34 n34 x34 => ?_
            refine EW.drawn [] mixed (gI_ok gs_nil) (by kernel_rfl) ?_
            simp
            refine n34 _ ?_; clear n34 x34
            refine EW.cond (t := _) (by rfl) (fun hc116 => ?_) (fun hc116 => ?_)
            · have h5 : inB b.a 0 (wr (o.limits.length - 1)) = false := by simpa using hc116
              have hv : verR o pr (n + 1) x (b :: r) = (3, r) := by simp [verR, h1, h2, h3, h4, h5]
              refine EW.seq fun Ψ35 n35 x35 => ?_
              refine EW.region gs_nil ?_
              simp
              refine n35 _ ?_; clear n35 x35
              refine EW.ret ?_
              refine x33 _ _ rfl ?_; clear n33 x33
              refine x6 _ _ rfl ?_; clear n6 x6
              refine ⟨_, _, _, rfl, ?_, ?_, ?_, ?_, ?_⟩ <;> simp [hv]
            · have h5 : inB b.a 0 (wr (o.limits.length - 1)) = true := by simpa using hc116
              have h5b := inB_iff.1 h5
              rw [show wr ((o.limits.length : Int) - 1) = o.limits.length - 1 from wr_small (by omega) (by omega)] at h5b
              obtain ⟨m, hma⟩ : ∃ m : Nat, b.a = m := ⟨b.a.toNat, by omega⟩
              have hmt : b.a.toNat = m := by omega
              refine EW.skip ?_
              refine n33 _ ?_; clear n33 x33
              refine EW.hide fun Ψ36 n36 => ?_
              refine EW.drawn [] mixed (gs_cons (breaks_ok o pr x m hl hx (by omega) hll hg) gs_nil) (by kernel_rfl) ?_
              simp [hx, hma]
              refine n36 _ _ ?_; clear n36
              refine n6 _ ?_; clear n6 x6
              refine EW.seq fun Ψ37 n37 x37 => ?_
              refine EW.seq fun Ψ38 n38 x38 => ?_
              refine EW.region gs_nil ?_
              simp
              refine n38 _ ?_; clear n38 x38
              refine EW.cond (t := _) (by rfl) (fun hc137 => ?_) (fun hc137 => ?_)
              · have q : brkV o x m = false := by simpa using hc137
                have hv : verR o pr (n + 1) x (b :: r) = (9, r) := by simp [verR, q, h1, h2, h3, h4, h5, hmt]
                refine EW.seq fun Ψ39 n39 x39 => ?_
                refine EW.region gs_nil ?_
                simp
                refine n39 _ ?_; clear n39 x39
                refine EW.ret ?_
                refine x37 _ _ rfl ?_; clear n37 x37
                refine ⟨_, _, _, rfl, ?_, ?_, ?_, ?_, ?_⟩ <;> simp [hv]
              · have q : brkV o x m = true := by simpa using hc137
                have hv : verR o pr (n + 1) x (b :: r) = (0, r) := by simp [verR, q, h1, h2, h3, h4, h5, hmt]
                refine EW.skip ?_
                refine n37 _ ?_; clear n37 x37
                refine EW.seq fun Ψ40 n40 x40 => ?_
                refine EW.region gs_nil ?_
                simp
                refine n40 _ ?_; clear n40 x40
                refine EW.ret ?_
                refine ⟨_, _, _, rfl, ?_, ?_, ?_, ?_, ?_⟩ <;> simp [hv]
          · have h4 : ¬ b.r = 4 := by simpa using hc103
            refine EW.seq fun Ψ41 n41 x41 => ?_
            refine EW.region gs_nil ?_
            simp
            refine n41 _ ?_; clear n41 x41
            refine EW.cond (t := _) (by rfl) (fun hc125 => ?_) (fun hc125 => ?_)
            · have h5 : b.r = 5 := by simpa using hc125
              refine EW.hide fun Ψ42 n42 => ?_
              refine EW.drawn [] mixed (gs_cons (dear_ok o pr x hl hx) gs_nil) (by kernel_rfl) ?_
              simp [hx]
              refine n42 _ _ ?_; clear n42
              refine n6 _ ?_; clear n6 x6
              refine EW.seq fun Ψ43 n43 x43 => ?_
              refine EW.seq fun Ψ44 n44 x44 => ?_
              refine EW.region gs_nil ?_
              simp
              refine n44 _ ?_; clear n44 x44
              refine EW.cond (t := _) (by rfl) (fun hc137 => ?_) (fun hc137 => ?_)
              · have q : dearB o pr x = false := by simpa using hc137
                have hv : verR o pr (n + 1) x (b :: r) = (9, r) := by simp [verR, q, h1, h2, h3, h4, h5]
                refine EW.seq fun Ψ45 n45 x45 => ?_
                refine EW.region gs_nil ?_
                simp
                refine n45 _ ?_; clear n45 x45
                refine EW.ret ?_
                refine x43 _ _ rfl ?_; clear n43 x43
                refine ⟨_, _, _, rfl, ?_, ?_, ?_, ?_, ?_⟩ <;> simp [hv]
              · have q : dearB o pr x = true := by simpa using hc137
                have hv : verR o pr (n + 1) x (b :: r) = (0, r) := by simp [verR, q, h1, h2, h3, h4, h5]
                refine EW.skip ?_
                refine n43 _ ?_; clear n43 x43
                refine EW.seq fun Ψ46 n46 x46 => ?_
                refine EW.region gs_nil ?_
                simp
                refine n46 _ ?_; clear n46 x46
                refine EW.ret ?_
                refine ⟨_, _, _, rfl, ?_, ?_, ?_, ?_, ?_⟩ <;> simp [hv]
            · have h5 : ¬ b.r = 5 := by simpa using hc125
              have hv : verR o pr (n + 1) x (b :: r) = (8, r) := by simp [verR, h1, h2, h3, h4, h5]
              refine EW.seq fun Ψ47 n47 x47 => ?_
              refine EW.region gs_nil ?_
              simp
              refine n47 _ ?_; clear n47 x47
              refine EW.ret ?_
              refine x6 _ _ rfl ?_; clear n6 x6
              refine ⟨_, _, _, rfl, ?_, ?_, ?_, ?_, ?_⟩ <;> simp [hv]

end Go.Ev
end

section
set_option linter.all false
open Go Go.Ev Go.Proofs
namespace Go.Ev
set_option linter.unusedSimpArgs false
set_option linter.all false

/-! ### What proofs prove -/
def sX (f : MBin → Int) : List MBin → List Int → Int
  | b :: bs, n :: l => n * f b + sX f bs l
  | _, _ => 0
theorem sX_nil (f : MBin → Int) (bs : List MBin) : sX f bs [] = 0 := by cases bs <;> rfl
theorem weighL_Z (bins : List MBin) (hb : ∀ b ∈ bins, (1 ≤ b.w ∧ b.w ≤ 10000) ∧ 0 ≤ b.c ∧ b.c ≤ 10000000) (h4 : bins.length ≤ 4) : ∀ (l : List Int) (i : Nat) (k c : Int), i + l.length ≤ bins.length → (∀ n ∈ l, 0 ≤ n ∧ n ≤ 6) → 0 ≤ k ∧ k ≤ 1000000000 * i → 0 ≤ c ∧ c ≤ 1000000000 * i →
    weighL bins l i k c = (k + sX (·.w) (bins.drop i) l, c + sX (·.c) (bins.drop i) l)
  | [], i, k, c, _, _, _, _ => by simp [weighL, sX_nil]
  | n :: l, i, k, c, hi, hn, hk, hc => by
    simp only [List.length_cons] at hi
    have hlt : i < bins.length := by omega
    obtain ⟨⟨w1, w2⟩, c1, c2⟩ := hb _ (List.getElem_mem hlt)
    obtain ⟨n1, n2⟩ := hn n (by simp)
    have m1 : 0 ≤ n * bins[i].w := Int.mul_nonneg n1 (by omega)
    have m2 : n * bins[i].w ≤ 6 * 10000 := Int.mul_le_mul n2 w2 (by omega) (by omega)
    have m3 : 0 ≤ n * bins[i].c := Int.mul_nonneg n1 c1
    have m4 : n * bins[i].c ≤ 6 * 10000000 := Int.mul_le_mul n2 c2 c1 (by omega)
    simp only [weighL, List.getElem?_eq_getElem hlt]
    rw [wr_small (n := n * bins[i].w) (by omega) (by omega), wr_small (n := n * bins[i].c) (by omega) (by omega), wr_small (n := k + _) (by omega) (by omega), wr_small (n := c + _) (by omega) (by omega),
      weighL_Z bins hb h4 l (i + 1) _ _ (by omega) (fun m hm => hn m (by simp [hm])) (by omega) (by omega), List.drop_eq_getElem_cons hlt]
    simp only [sX]
    rw [Int.add_assoc, Int.add_assoc]
section
variable {o : MOrd} (k : OkO o)
include k
theorem weighL_ok {l : List Int} (kb : okBl o l) : weighL o.bins l 0 0 0 = (sX (·.w) o.bins l, sX (·.c) o.bins l) := by
  have := weighL_Z o.bins (fun b hb => ⟨(k.bin b hb).w, (k.bin b hb).c⟩) k.nb l 0 0 0 (by have := kb.1; omega) (kb.pos k) (by omega) (by omega)
  simpa using this
end
/-- A box within an order, a blend within a box. -/
def okX : List MBin → List (Int × Int) → Prop
  | b :: bs, p :: x => (0 ≤ p.1 ∧ p.1 ≤ p.2 ∧ p.2 ≤ b.g) ∧ okX bs x
  | [], x => ∀ p ∈ x, p = (0, 0)
  | _ :: _, [] => False
def bX : List MBin → List (Int × Int) → List Int → Prop
  | _ :: bs, p :: x, n :: l => (p.1 ≤ n ∧ n ≤ p.2) ∧ bX bs x l
  | [], _, [] => True
  | _, _, _ => False
theorem bX_bl : ∀ {bs : List MBin} {x : List (Int × Int)} {l : List Int}, okX bs x → bX bs x l → l.length = bs.length ∧ ∀ (i : Nat) (h : i < bs.length) (h' : i < l.length), 0 ≤ l[i] ∧ l[i] ≤ bs[i].g
  | b :: bs, p :: x, n :: l, h, hi => by
    obtain ⟨e, f⟩ := bX_bl h.2 hi.2
    have h1 := h.1
    have h2 := hi.1
    refine ⟨by simp [e], fun i a c => ?_⟩
    cases i with
    | zero => simp only [List.getElem_cons_zero]; omega
    | succ i => simpa using f i (by simpa using a) (by simpa using c)
  | [], x, [], _, _ => ⟨rfl, fun i h => by simp at h⟩
  | [], x, _ :: _, _, hi => hi.elim
  | b :: bs, [], l, h, _ => h.elim
  | b :: bs, p :: x, [], _, hi => hi.elim
theorem bX_ok {o : MOrd} {x : List (Int × Int)} {l : List Int} (h : okX o.bins x) (hi : bX o.bins x l) : okBl o l := bX_bl h hi
def lowX : List MBin → List (Int × Int) → List Int
  | _ :: bs, p :: x => p.1 :: lowX bs x
  | _, _ => []
def highX : List MBin → List (Int × Int) → List Int
  | _ :: bs, p :: x => p.2 :: highX bs x
  | _, _ => []
theorem lowX_eq : ∀ (bs : List MBin) (x : List (Int × Int)), (x.take bs.length).map (·.1) = lowX bs x
  | b :: bs, p :: x => by simp [lowX, ← lowX_eq bs x]
  | [], x => by simp [lowX]
  | b :: bs, [] => by simp [lowX]
theorem highX_eq : ∀ (bs : List MBin) (x : List (Int × Int)), (x.take bs.length).map (·.2) = highX bs x
  | b :: bs, p :: x => by simp [highX, ← highX_eq bs x]
  | [], x => by simp [highX]
  | b :: bs, [] => by simp [highX]
theorem lowX_in : ∀ {bs : List MBin} {x : List (Int × Int)}, okX bs x → bX bs x (lowX bs x)
  | b :: bs, p :: x, h => ⟨⟨Int.le_refl _, h.1.2.1⟩, lowX_in h.2⟩
  | [], x, _ => trivial
  | b :: bs, [], h => h.elim
theorem highX_in : ∀ {bs : List MBin} {x : List (Int × Int)}, okX bs x → bX bs x (highX bs x)
  | b :: bs, p :: x, h => ⟨⟨h.1.2.1, Int.le_refl _⟩, highX_in h.2⟩
  | [], x, _ => trivial
  | b :: bs, [], h => h.elim
theorem sX_mono (f : MBin → Int) : ∀ {bs : List MBin} {x : List (Int × Int)} {l : List Int}, (∀ b ∈ bs, 0 ≤ f b) → bX bs x l → sX f bs (lowX bs x) ≤ sX f bs l ∧ sX f bs l ≤ sX f bs (highX bs x)
  | b :: bs, p :: x, n :: l, hf, hi => by
    obtain ⟨i1, i2⟩ := sX_mono f (fun c hc => hf c (by simp [hc])) hi.2
    have h0 := hf b (by simp)
    have h1 := Int.mul_le_mul_of_nonneg_right hi.1.1 h0
    have h2 := Int.mul_le_mul_of_nonneg_right hi.1.2 h0
    simp only [sX, lowX, highX]
    omega
  | [], x, [], _, _ => by simp [sX]
  | [], x, _ :: _, _, hi => hi.elim
  | b :: bs, [], l, _, h => by cases l <;> exact h.elim
  | b :: bs, p :: x, [], _, hi => hi.elim
def brkZ (lim : Int) (m : Nat) : List MBin → List (Int × Int) → Int
  | b :: bs, p :: x => (if 0 ≤ b.w * ((b.grams.getD m (0, 0)).2 - lim) then p.1 * (b.w * ((b.grams.getD m (0, 0)).2 - lim)) else p.2 * (b.w * ((b.grams.getD m (0, 0)).2 - lim))) + brkZ lim m bs x
  | _, _ => 0
theorem prod_in {a b A B : Int} (h1 : 0 ≤ a ∧ a ≤ A) (h2 : -B ≤ b ∧ b ≤ B) : -(A * B) ≤ a * b ∧ a * b ≤ A * B := by
  have hB : 0 ≤ B := by omega
  constructor
  · have q1 : a * (-B) ≤ a * b := Int.mul_le_mul_of_nonneg_left h2.1 h1.1
    have q2 : a * B ≤ A * B := Int.mul_le_mul_of_nonneg_right h1.2 hB
    rw [Int.mul_neg] at q1
    omega
  · have q1 : a * b ≤ a * B := Int.mul_le_mul_of_nonneg_left h2.2 h1.1
    have q2 : a * B ≤ A * B := Int.mul_le_mul_of_nonneg_right h1.2 hB
    omega
theorem brkL_Z (lim : Int) (hlim : 0 ≤ lim ∧ lim ≤ 1000000) (m nl : Nat) (x : List (Int × Int)) : ∀ (bs : List MBin) (i : Nat) (s : Int), (∀ b ∈ bs, OkB nl b) → okX bs (x.drop i) → i + bs.length ≤ 4 → -(1000000000000 * i) ≤ s ∧ s ≤ 1000000000000 * i → brkL lim m x bs i s = s + brkZ lim m bs (x.drop i)
  | [], i, s, _, _, _, _ => by simp [brkL, brkZ]
  | b :: bs, i, s, hb, hx, hi, hs => by
    simp only [List.length_cons] at hi
    cases hd : x.drop i with
    | nil => rw [hd] at hx; exact hx.elim
    | cons p y =>
      have e1 : x[i]? = some p := by
        have := List.getElem?_drop (xs := x) (i := i) (j := 0)
        rw [hd] at this
        simpa using this.symm
      have e2 : x.drop (i + 1) = y := by rw [← List.drop_drop, hd]; rfl
      rw [hd] at hx
      have kb := hb b (by simp)
      have gm := getD_in kb m
      have w := kb.w
      have hp := hx.1
      have hg := kb.g
      have t := prod_in (a := b.w) (b := (b.grams.getD m (0, 0)).2 - lim) (A := 10000) (B := 1000000) (by omega) (by omega)
      have hT : brkT lim m b = b.w * ((b.grams.getD m (0, 0)).2 - lim) := by
        unfold brkT
        rw [← List.getD_eq_getElem?_getD, wr_small (n := _ - lim) (by omega) (by omega), wr_small (by omega) (by omega)]
      generalize b.w * ((b.grams.getD m (0, 0)).2 - lim) = T at hT t
      have p1 := prod_in (a := p.1) (b := T) (A := 6) (B := 10000 * 1000000) (by omega) (by omega)
      have p2 := prod_in (a := p.2) (b := T) (A := 6) (B := 10000 * 1000000) (by omega) (by omega)
      have hT' : b.w * ((b.grams.getD m (0, 0)).2 - lim) = T := by rw [← hT]; unfold brkT; rw [← List.getD_eq_getElem?_getD, wr_small (n := _ - lim) (by omega) (by omega), wr_small]; all_goals (have := prod_in (a := b.w) (b := (b.grams.getD m (0, 0)).2 - lim) (A := 10000) (B := 1000000) (by omega) (by omega); omega)
      simp only [brkL, brkZ, hT, hT', e1, Option.getD_some]
      split
      · rw [wr_small (n := p.1 * T) (by omega) (by omega), wr_small (n := s + _) (by omega) (by omega), brkL_Z lim hlim m nl x bs (i + 1) _ (fun c hc => hb c (by simp [hc])) (by rw [e2]; exact hx.2) (by omega) (by omega), e2]
        omega
      · rw [wr_small (n := p.2 * T) (by omega) (by omega), wr_small (n := s + _) (by omega) (by omega), brkL_Z lim hlim m nl x bs (i + 1) _ (fun c hc => hb c (by simp [hc])) (by rw [e2]; exact hx.2) (by omega) (by omega), e2]
        omega
theorem brkZ_le (lim : Int) (m : Nat) : ∀ {bs : List MBin} {x : List (Int × Int)} {l : List Int}, bX bs x l → brkZ lim m bs x ≤ beyZ true m lim bs l
  | b :: bs, p :: x, n :: l, hi => by
    have ih := brkZ_le lim m hi.2
    have hi1 := hi.1
    simp only [brkZ, beyZ, endR, if_true]
    rw [Int.mul_assoc]
    generalize b.w * ((b.grams.getD m (0, 0)).2 - lim) = T
    split
    · rename_i h
      have := Int.mul_le_mul_of_nonneg_right hi1.1 h
      omega
    · rename_i h
      have h0 : 0 ≤ -T := by omega
      have := Int.mul_le_mul_of_nonneg_right hi1.2 h0
      rw [Int.mul_neg, Int.mul_neg] at this
      omega
  | [], x, [], _ => by simp [brkZ, beyZ]
  | [], x, _ :: _, hi => hi.elim
  | b :: bs, [], l, h => by cases l <;> exact h.elim
  | b :: bs, p :: x, [], hi => hi.elim
theorem brkZ_one (lim : Int) (m : Nat) : ∀ {bs : List MBin} {x : List (Int × Int)}, (∀ p ∈ x, p.1 = p.2) → okX bs x → brkZ lim m bs x = beyZ true m lim bs (lowX bs x)
  | b :: bs, p :: x, h1, h => by
    have ih := brkZ_one lim m (fun q hq => h1 q (by simp [hq])) h.2
    have e := h1 p (by simp)
    simp only [brkZ, beyZ, lowX, endR, if_true, ih]
    rw [Int.mul_assoc, ← e]
    simp
  | [], x, _, _ => by simp [brkZ, beyZ, lowX]
  | b :: bs, [], _, h => h.elim
theorem holdL_iff (q : Bool) (o : MOrd) (l : List Int) : ∀ (n j : Nat), holdL q o l n j = true ↔ ∀ i, i < n → ¬ 0 < beyL q o.limits o.bins (j + i) l 0 0
  | 0, j => by simp [holdL]
  | n + 1, j => by
    rw [holdL]
    split
    · rename_i h
      exact ⟨fun e => (by cases e), fun e => absurd h (e 0 (by omega))⟩
    · rename_i h
      rw [holdL_iff q o l n (j + 1)]
      constructor
      · intro h' i hi
        cases i with
        | zero => exact h
        | succ i => have := h' i (by omega); rwa [show j + 1 + i = j + (i + 1) by omega] at this
      · intro h' i hi
        have := h' (i + 1) (by omega)
        rwa [show j + (i + 1) = j + 1 + i by omega] at this
structure BX (o : MOrd) (x : List (Int × Int)) : Prop where
  ok : okX o.bins x
  len : x.length = 4
section
variable {o : MOrd} (k : OkO o) {x : List (Int × Int)} (bx : BX o x)
include k bx
theorem good_iff {l : List Int} (kb : okBl o l) : goodB o l = true ↔ (o.least ≤ sX (·.w) o.bins l ∧ sX (·.w) o.bins l ≤ o.most) ∧ ∀ (j : Nat) (h : j < o.limits.length), ¬ 0 < beyZ true j o.limits[j] o.bins l := by
  have e := holdL_iff true o l o.limits.length 0
  rw [← holdV] at e
  rw [goodB, decide_eq_true_eq, nW, weighL_ok k kb, keepV_1 k kb, e, and_assoc]
  refine and_congr_right fun _ => and_congr_right fun _ => ?_
  constructor
  · intro h j hj
    have := h j hj
    rwa [Nat.zero_add, bey_Z k kb true j hj] at this
  · intro h j hj
    have := h j hj
    rwa [Nat.zero_add, bey_Z k kb true j hj]
theorem low_bl : okBl o (lowX o.bins x) := bX_ok bx.ok (lowX_in bx.ok)
theorem high_bl : okBl o (highX o.bins x) := bX_ok bx.ok (highX_in bx.ok)
theorem lightB_iff : lightB o x = true ↔ sX (·.w) o.bins (highX o.bins x) < o.least := by
  rw [lightB, decide_eq_true_eq, highsB, highX_eq, weighL_ok k (high_bl k bx)]
theorem heavyB_iff : heavyB o x = true ↔ o.most < sX (·.w) o.bins (lowX o.bins x) := by
  rw [heavyB, decide_eq_true_eq, lowsB, lowX_eq, weighL_ok k (low_bl k bx)]
theorem dearB_iff (pr : Int) : dearB o pr x = true ↔ pr ≤ sX (·.c) o.bins (lowX o.bins x) := by
  rw [dearB, decide_eq_true_eq, lowsB, lowX_eq, weighL_ok k (low_bl k bx)]
theorem brkV_iff (j : Nat) (hj : j < o.limits.length) : brkV o x j = true ↔ 0 < brkZ o.limits[j] j o.bins x := by
  rw [brkV, decide_eq_true_eq, List.getElem?_eq_getElem hj, Option.getD_some, brkL_Z o.limits[j] (k.lim _ (List.getElem_mem hj)) j o.limits.length x o.bins 0 0 k.bin (by simpa using bx.ok) (by have := k.nb; omega) (by omega)]
  simp
/-- No blend of the box is good, and costs less than the price. -/
def noneB (o : MOrd) (pr : Int) (x : List (Int × Int)) : Prop := ∀ l, bX o.bins x l → goodB o l = true → ¬ cW o l < pr
theorem light_none (pr : Int) (h : lightB o x = true) : noneB o pr x := by
  intro l hl hg _
  have h1 := (lightB_iff k bx).1 h
  have h2 := ((good_iff k bx (bX_ok bx.ok hl)).1 hg).1.1
  have h3 := (sX_mono (·.w) (fun b hb => by have := (k.bin b hb).w; omega) hl).2
  omega
theorem heavy_none (pr : Int) (h : heavyB o x = true) : noneB o pr x := by
  intro l hl hg _
  have h1 := (heavyB_iff k bx).1 h
  have h2 := ((good_iff k bx (bX_ok bx.ok hl)).1 hg).1.2
  have h3 := (sX_mono (·.w) (fun b hb => by have := (k.bin b hb).w; omega) hl).1
  omega
theorem dear_none (pr : Int) (h : dearB o pr x = true) : noneB o pr x := by
  intro l hl hg hc
  have h1 := (dearB_iff k bx pr).1 h
  have h3 := (sX_mono (·.c) (fun b hb => by have := (k.bin b hb).c; omega) hl).1
  rw [cW, weighL_ok k (bX_ok bx.ok hl)] at hc
  simp only at hc
  omega
theorem brk_none (pr : Int) (j : Nat) (hj : j < o.limits.length) (h : brkV o x j = true) : noneB o pr x := by
  intro l hl hg _
  have h1 := (brkV_iff k bx j hj).1 h
  have h2 := ((good_iff k bx (bX_ok bx.ok hl)).1 hg).2 j hj
  have h3 := brkZ_le o.limits[j] j hl
  omega
end
theorem brokL_none (o : MOrd) (x : List (Int × Int)) : ∀ (n j : Nat), (brokL o x n j = none → ∀ i, i < n → brkV o x (j + i) = false) ∧ (∀ i, brokL o x n j = some i → j ≤ i ∧ i < j + n ∧ brkV o x i = true)
  | 0, j => by simp [brokL]
  | n + 1, j => by
    obtain ⟨a, b⟩ := brokL_none o x n (j + 1)
    rw [brokL]
    split
    · rename_i h
      exact ⟨fun e => (by cases e), fun i e => by cases e; exact ⟨by omega, by omega, h⟩⟩
    · rename_i h
      refine ⟨fun e i hi => ?_, fun i e => by have := b i e; exact ⟨by omega, by omega, this.2.2⟩⟩
      cases i with
      | zero => simpa using h
      | succ i => have := a e i (by omega); rwa [show j + 1 + i = j + (i + 1) by omega] at this
/-! cuts -/
theorem setHi_x : ∀ {bs : List MBin} {x : List (Int × Int)} {i : Nat} {p : Int × Int} {v : Int}, x[i]? = some p → okX bs x → i < bs.length → p.1 ≤ v → v ≤ p.2 → okX bs (setHi x i v) ∧ ∀ l, bX bs (setHi x i v) l → bX bs x l
  | b :: bs, q :: x, 0, p, v, h, hx, _, h1, h2 => by
    simp at h; subst h
    refine ⟨⟨⟨hx.1.1, h1, by have := hx.1; show v ≤ _; omega⟩, hx.2⟩, fun l hl => ?_⟩
    cases l with
    | nil => exact hl
    | cons n l => exact ⟨⟨hl.1.1, by have : n ≤ v := hl.1.2; omega⟩, hl.2⟩
  | b :: bs, q :: x, i + 1, p, v, h, hx, hi, h1, h2 => by
    obtain ⟨a, c⟩ := setHi_x (i := i) (by simpa using h) hx.2 (by simpa using hi) h1 h2
    refine ⟨⟨hx.1, a⟩, fun l hl => ?_⟩
    cases l with
    | nil => exact hl
    | cons n l => exact ⟨hl.1, c l hl.2⟩
  | [], x, i, p, v, _, _, hi, _, _ => by simp at hi
  | b :: bs, [], i, p, v, _, hx, _, _, _ => hx.elim
theorem setLo_x : ∀ {bs : List MBin} {x : List (Int × Int)} {i : Nat} {p : Int × Int} {v : Int}, x[i]? = some p → okX bs x → i < bs.length → p.1 ≤ v → v ≤ p.2 → okX bs (setLo x i v) ∧ ∀ l, bX bs (setLo x i v) l → bX bs x l
  | b :: bs, q :: x, 0, p, v, h, hx, _, h1, h2 => by
    simp at h; subst h
    refine ⟨⟨⟨by have := hx.1; show 0 ≤ v; omega, h2, hx.1.2.2⟩, hx.2⟩, fun l hl => ?_⟩
    cases l with
    | nil => exact hl
    | cons n l => exact ⟨⟨by have : v ≤ n := hl.1.1; omega, hl.1.2⟩, hl.2⟩
  | b :: bs, q :: x, i + 1, p, v, h, hx, hi, h1, h2 => by
    obtain ⟨a, c⟩ := setLo_x (i := i) (by simpa using h) hx.2 (by simpa using hi) h1 h2
    refine ⟨⟨hx.1, a⟩, fun l hl => ?_⟩
    cases l with
    | nil => exact hl
    | cons n l => exact ⟨hl.1, c l hl.2⟩
  | [], x, i, p, v, _, _, hi, _, _ => by simp at hi
  | b :: bs, [], i, p, v, _, hx, _, _, _ => hx.elim
theorem cut_x : ∀ {bs : List MBin} {x : List (Int × Int)} {l : List Int} (i : Nat) (v : Int), bX bs x l → bX bs (setHi x i v) l ∨ bX bs (setLo x i (v + 1)) l
  | b :: bs, q :: x, n :: l, 0, v, h => by
    have h1 := h.1
    by_cases hv : n ≤ v
    · exact .inl ⟨⟨h1.1, hv⟩, h.2⟩
    · exact .inr ⟨⟨by show v + 1 ≤ n; omega, h1.2⟩, h.2⟩
  | b :: bs, q :: x, n :: l, i + 1, v, h => by
    rcases cut_x i v h.2 with c | c
    · exact .inl ⟨h.1, c⟩
    · exact .inr ⟨h.1, c⟩
  | [], x, [], i, v, _ => .inl trivial
  | [], x, _ :: _, i, v, h => h.elim
  | b :: bs, [], l, i, v, h => by cases l <;> exact h.elim
  | b :: bs, p :: x, [], i, v, h => h.elim
theorem okX_get : ∀ {bs : List MBin} {x : List (Int × Int)} {i : Nat} {p : Int × Int}, okX bs x → x[i]? = some p → (i < bs.length → ∃ b ∈ bs, 0 ≤ p.1 ∧ p.1 ≤ p.2 ∧ p.2 ≤ b.g) ∧ (¬ i < bs.length → p = (0, 0))
  | b :: bs, q :: x, 0, p, h, hp => by
    simp at hp; subst hp
    exact ⟨fun _ => ⟨b, by simp, h.1⟩, fun e => absurd (by simp) e⟩
  | b :: bs, q :: x, i + 1, p, h, hp => by
    obtain ⟨a, c⟩ := okX_get (i := i) h.2 (by simpa using hp)
    refine ⟨fun hi => ?_, fun hi => c (by simpa using hi)⟩
    obtain ⟨b', hb', r⟩ := a (by simpa using hi)
    exact ⟨b', by simp [hb'], r⟩
  | [], x, i, p, h, hp => ⟨fun e => by simp at e, fun _ => h p (List.mem_of_getElem? hp)⟩
  | b :: bs, [], i, p, h, _ => h.elim
section
variable {o : MOrd} (k : OkO o)
include k
theorem BX.bx {x : List (Int × Int)} (b : BX o x) : okBx x := by
  intro p hp
  obtain ⟨i, hi⟩ := List.getElem?_of_mem hp
  obtain ⟨a, c⟩ := okX_get b.ok hi
  by_cases h : i < o.bins.length
  · obtain ⟨q, hq, r⟩ := a h
    have := (k.bin q hq).g
    omega
  · rw [c h]; exact ⟨Int.le_refl _, Int.le_refl _, by decide⟩
theorem BX.hi {x : List (Int × Int)} (b : BX o x) {i : Nat} {p : Int × Int} {v : Int} (hp : x[i]? = some p) (hi : i < o.bins.length) (h1 : p.1 ≤ v) (h2 : v ≤ p.2) : BX o (setHi x i v) := ⟨(setHi_x hp b.ok hi h1 h2).1, by rw [setHi_len, b.len]⟩
theorem BX.lo {x : List (Int × Int)} (b : BX o x) {i : Nat} {p : Int × Int} {v : Int} (hp : x[i]? = some p) (hi : i < o.bins.length) (h1 : p.1 ≤ v) (h2 : v ≤ p.2) : BX o (setLo x i v) := ⟨(setLo_x hp b.ok hi h1 h2).1, by rw [setLo_len, b.len]⟩
/-- What is right for Verify holds. -/
theorem ver_none (pr : Int) : ∀ (m : Nat) (x : List (Int × Int)) (r r' : List MBd), BX o x → verR o pr m x r = (0, r') → noneB o pr x
  | 0, x, r, r', _, h => by simp [verR] at h
  | m + 1, x, [], r', _, h => by simp [verR] at h
  | m + 1, x, b :: r, r', bx, h => by
    simp only [verR] at h
    have hn := k.nb
    split at h
    · split at h
      · cases h
      · rename_i h1 h2
        have h2 := inB_iff.1 (by simpa [-wr_def] using h2)
        rw [wr_small (by omega) (by omega)] at h2
        split at h
        · cases h
        · rename_i h3
          have hlen := bx.len
          obtain ⟨p, hp⟩ : ∃ p, x[b.a.toNat]? = some p := ⟨_, List.getElem?_eq_getElem (by omega)⟩
          have hpb := okBx_get (BX.bx k bx) hp
          rw [hp, Option.getD_some] at h3
          have h3 := inB_iff.1 (by simpa [-wr_def] using h3)
          rw [wr_small (by omega) (by omega)] at h3
          split at h
          · rename_i h4
            have b1 := BX.hi k bx hp (v := b.c) (by omega) (by omega) (by omega)
            rw [wr_small (n := b.c + 1) (by omega) (by omega)] at h
            have b2 := BX.lo k bx hp (v := b.c + 1) (by omega) (by omega) (by omega)
            have n1 := ver_none pr m _ r (verR o pr m (setHi x b.a.toNat b.c) r).2 b1 (by rw [← h4])
            have n2 := ver_none pr m _ _ _ b2 h
            intro l hl
            rcases cut_x b.a.toNat b.c hl with c | c
            · exact n1 l c
            · exact n2 l c
          · rename_i h4
            exact absurd (by rw [h]) h4
    · split at h
      · split at h
        · rename_i q; exact light_none k bx pr q
        · cases h
      · split at h
        · split at h
          · rename_i q; exact heavy_none k bx pr q
          · cases h
        · split at h
          · split at h
            · cases h
            · rename_i h2
              have h2 := inB_iff.1 (by simpa [-wr_def] using h2)
              have := k.nl
              rw [wr_small (by omega) (by omega)] at h2
              split at h
              · rename_i q; exact brk_none k bx pr b.a.toNat (by omega) q
              · cases h
          · split at h
            · split at h
              · rename_i q; exact dear_none k bx pr q
              · cases h
            · cases h
theorem one_good {x : List (Int × Int)} (bx : BX o x) (pr : Int) (h1 : x = oneB x) (g1 : ¬ lightB o x = true) (g2 : ¬ heavyB o x = true) (g3 : ¬ brokI o x = true) (g4 : ¬ dearB o pr x = true) : ∃ l, bX o.bins x l ∧ goodB o l = true ∧ cW o l < pr := by
  have hq : ∀ p ∈ x, p.1 = p.2 := by
    intro p hp
    rw [h1] at hp
    obtain ⟨q, _, rfl⟩ := List.mem_map.1 hp
    rfl
  have hlh : highX o.bins x = lowX o.bins x := by
    have : ∀ (bs : List MBin) (x : List (Int × Int)), (∀ p ∈ x, p.1 = p.2) → highX bs x = lowX bs x := by
      intro bs
      induction bs with
      | nil => intro x _; rfl
      | cons b bs ih =>
        intro x hx
        cases x with
        | nil => rfl
        | cons p x => simp only [highX, lowX]; rw [ih x fun q hq => hx q (by simp [hq]), hx p (by simp)]
    exact this _ _ hq
  have kb := low_bl k bx
  refine ⟨lowX o.bins x, lowX_in bx.ok, (good_iff k bx kb).2 ⟨⟨?_, ?_⟩, fun j hj => ?_⟩, ?_⟩
  · have := mt (lightB_iff k bx).2 g1; rw [hlh] at this; omega
  · have := mt (heavyB_iff k bx).2 g2; omega
  · have hb : brokV o x = none := by
      cases hb : brokV o x with
      | none => rfl
      | some i => exact absurd (by rw [brokI, hb]; rfl) g3
    have := (brokL_none o x o.limits.length 0).1 hb j hj
    rw [Nat.zero_add] at this
    have := mt (brkV_iff k bx j hj).2 (by rw [this]; simp)
    rwa [brkZ_one o.limits[j] j hq bx.ok] at this
  · have := mt (dearB_iff k bx pr).2 g4
    rw [cW, weighL_ok k kb]
    simp only
    omega
theorem plain_spec (pr : Int) : ∀ (n : Nat) (x : List (Int × Int)), BX o x → sizeBx x < n →
    (plainL o pr n x = none → ∃ l, bX o.bins x l ∧ goodB o l = true ∧ cW o l < pr) ∧
    ∀ p, plainL o pr n x = some p → ∀ (m : Nat) (rest : List MBd), p.length + rest.length < m → verR o pr m x (p ++ rest) = (0, rest)
  | 0, x, _, h => by omega
  | n + 1, x, bx, hs => by
    have hbx := BX.bx k bx
    have hn := k.nb
    rw [plainL]
    split
    · rename_i g1
      refine ⟨fun e => (by cases e), fun p e m rest hm => ?_⟩
      cases e
      obtain ⟨m, rfl⟩ : ∃ q, m = q + 1 := ⟨m - 1, by omega⟩
      simp [verR, g1]
    rename_i g1
    split
    · rename_i g2
      refine ⟨fun e => (by cases e), fun p e m rest hm => ?_⟩
      cases e
      obtain ⟨m, rfl⟩ : ∃ q, m = q + 1 := ⟨m - 1, by omega⟩
      simp [verR, g2]
    rename_i g2
    split
    · rename_i g3
      refine ⟨fun e => (by cases e), fun p e m rest hm => ?_⟩
      cases e
      obtain ⟨m, rfl⟩ : ∃ q, m = q + 1 := ⟨m - 1, by omega⟩
      have hb : ∃ i, brokV o x = some i := by
        cases hb : brokV o x with
        | none => rw [brokI, hb] at g3; cases g3
        | some i => exact ⟨i, rfl⟩
      obtain ⟨i, hi⟩ := hb
      obtain ⟨_, q1, q2⟩ := (brokL_none o x o.limits.length 0).2 i hi
      have hA : brokA o x = i := by rw [brokA, hi]
      have := k.nl
      have hin : inB (i : Int) 0 (wr (o.limits.length - 1)) = true := by
        rw [wr_small (by omega) (by omega)]
        exact inB_iff.2 (by omega)
      simp only [wr] at hin
      simp [verR, hA, hin, q2]
    rename_i g3
    split
    · rename_i g4
      refine ⟨fun e => (by cases e), fun p e m rest hm => ?_⟩
      cases e
      obtain ⟨m, rfl⟩ : ∃ q, m = q + 1 := ⟨m - 1, by omega⟩
      simp [verR, g4]
    rename_i g4
    split
    · rename_i g5
      exact ⟨fun _ => one_good k bx pr g5 g1 g2 g3 g4, fun p e => by cases e⟩
    rename_i g5
    obtain ⟨f1, p0, f2, f3⟩ := firstD_lt x g5
    have hp0 := okBx_get hbx f2
    have hlt : firstD x < o.bins.length := by
      rcases Nat.lt_or_ge (firstD x) o.bins.length with h | h
      · exact h
      · have := (okX_get bx.ok f2).2 (by omega)
        rw [this] at f3
        exact absurd rfl f3
    have hmid := midB_eq hbx f2
    have hm1 : p0.1 ≤ midB x := by omega
    have hm2 : midB x < p0.2 := by omega
    have hw : wr (midB x + 1) = midB x + 1 := wr_small (by omega) (by omega)
    obtain ⟨⟨_, z1⟩, _, z2⟩ := halves hbx g5
    rw [hw] at z2 ⊢
    have b1 := BX.hi k bx f2 hlt hm1 (by omega)
    have b2 := BX.lo k bx f2 (v := midB x + 1) hlt (by omega) (by omega)
    obtain ⟨i1, i2⟩ := plain_spec pr n _ b1 (by omega)
    obtain ⟨j1, j2⟩ := plain_spec pr n _ b2 (by omega)
    have back1 := (setHi_x f2 bx.ok hlt hm1 (by omega)).2
    have back2 := (setLo_x (v := midB x + 1) f2 bx.ok hlt (by omega) (by omega)).2
    cases hA : plainL o pr n (setHi x (firstD x) (midB x)) with
    | none =>
      refine ⟨fun _ => ?_, fun p e => by cases e⟩
      obtain ⟨l, q1, q2⟩ := i1 hA
      exact ⟨l, back1 l q1, q2⟩
    | some a =>
      cases hB : plainL o pr n (setLo x (firstD x) (midB x + 1)) with
      | none =>
        refine ⟨fun _ => ?_, fun p e => by cases e⟩
        obtain ⟨l, q1, q2⟩ := j1 hB
        exact ⟨l, back2 l q1, q2⟩
      | some b =>
        refine ⟨fun e => (by cases e), fun p e m rest hm => ?_⟩
        cases e
        obtain ⟨m, rfl⟩ : ∃ q, m = q + 1 := ⟨m - 1, by omega⟩
        simp only [List.length_cons, List.length_append] at hm
        have v1 := i2 a hA m (b ++ rest) (by simp; omega)
        have v2 := j2 b hB m rest (by omega)
        have hin : inB (firstD x : Int) 0 (wr (o.bins.length - 1)) = true := by
          rw [wr_small (by omega) (by omega)]
          exact inB_iff.2 (by omega)
        have hin2 : inB (midB x) p0.1 (wr (p0.2 - 1)) = true := by
          rw [wr_small (by omega) (by omega)]
          exact inB_iff.2 (by omega)
        rw [List.cons_append, List.append_assoc]
        simp only [verR, if_true]
        rw [if_neg (by rw [hin]; simp), Int.toNat_natCast, f2, Option.getD_some, if_neg (by rw [hin2]; simp), v1, hw]
        simp [v2]
theorem whole_X : BX o (wholeB o) := by
  refine ⟨?_, (whole_facts k).1⟩
  have hg := fun b hb => (k.bin b hb).g
  have hn := k.nb
  unfold wholeB
  generalize o.bins = bs at hg hn
  match bs, hn with
  | [], _ => intro p hp; simp [wholeL, bx0] at hp; exact hp
  | [a], _ =>
    have h1 := hg a (by simp)
    simp only [wholeL, setHi, bx0, okX]
    refine ⟨by simp; omega, ?_⟩
    simp
  | [a, b], _ =>
    have h1 := hg a (by simp); have h2 := hg b (by simp)
    simp only [wholeL, setHi, bx0, okX]
    refine ⟨by simp; omega, by simp; omega, ?_⟩
    simp
  | [a, b, c], _ =>
    have h1 := hg a (by simp); have h2 := hg b (by simp); have h3 := hg c (by simp)
    simp only [wholeL, setHi, bx0, okX]
    refine ⟨by simp; omega, by simp; omega, by simp; omega, ?_⟩
    simp
  | [a, b, c, d], _ =>
    have h1 := hg a (by simp); have h2 := hg b (by simp); have h3 := hg c (by simp); have h4 := hg d (by simp)
    simp only [wholeL, setHi, bx0, okX]
    refine ⟨by simp; omega, by simp; omega, by simp; omega, by simp; omega, ?_⟩
    simp
theorem whole_in {l : List Int} (kb : okBl o l) : bX o.bins (wholeB o) l := by
  have hn := k.nb
  obtain ⟨e, h⟩ := kb
  unfold wholeB
  generalize o.bins = bs at hn e h
  match bs, l, hn, e with
  | [], [], _, _ => trivial
  | [a], [n], _, _ =>
    have h1 := h 0 (by simp) (by simp)
    simp only [List.getElem_cons_zero] at h1
    exact ⟨h1, trivial⟩
  | [a, b], [n, m], _, _ =>
    have h1 := h 0 (by simp) (by simp); have h2 := h 1 (by simp) (by simp)
    simp only [List.getElem_cons_zero, List.getElem_cons_succ] at h1 h2
    exact ⟨h1, h2, trivial⟩
  | [a, b, c], [n, m, q], _, _ =>
    have h1 := h 0 (by simp) (by simp); have h2 := h 1 (by simp) (by simp); have h3 := h 2 (by simp) (by simp)
    simp only [List.getElem_cons_zero, List.getElem_cons_succ] at h1 h2 h3
    exact ⟨h1, h2, h3, trivial⟩
  | [a, b, c, d], [n, m, q, r], _, _ =>
    have h1 := h 0 (by simp) (by simp); have h2 := h 1 (by simp) (by simp); have h3 := h 2 (by simp) (by simp); have h4 := h 3 (by simp) (by simp)
    simp only [List.getElem_cons_zero, List.getElem_cons_succ] at h1 h2 h3 h4
    exact ⟨h1, h2, h3, h4, trivial⟩
end
end Go.Ev
end

section
set_option linter.all false
open Go Go.Ev Go.Proofs
namespace Go.Ev
set_option linter.unusedSimpArgs false
set_option linter.unusedVariables false

set_option maxRecDepth 100000

theorem check75_ok (o : MOrd) (pr : Int) (hl : o.bins.length ≤ 4) (hll : o.limits.length < 1000000) (hg : ∀ b ∈ o.bins, b.grams.length = o.limits.length) : ∀ (n : Nat) (x : List (Int × Int)) (r : List MBd), x.length = 4 → r.length < n →
    ACalls Try.prog 75 [.ptr (.ext 0) 0, .agg (bxA x)] [[.sl false false .U .no o.limits.length (eInts o.limits), .s (.int .i64 o.least), .s (.int .i64 o.most), .sl false false .U .no o.bins.length (eBins o.bins), .s (.int .i64 pr), .sl false false .U .no r.length (eBds r)]] (.ret (.s (.int .i64 (verR o pr n x r).1)) [[.sl false false .U .no o.limits.length (eInts o.limits), .s (.int .i64 o.least), .s (.int .i64 o.most), .sl false false .U .no o.bins.length (eBins o.bins), .s (.int .i64 pr), .sl false false .U .no (verR o pr n x r).2.length (eBds (verR o pr n x r).2)]] [])
  | 0, x, r, _, h => by omega
  | n + 1, x, [], hx, h => check75_nil o pr x hx
  | n + 1, x, b :: r, hx, h => check75_cons o pr n x b r hl hx (by simpa using h) hll hg fun y s hy hs => check75_ok o pr hl hll hg n y s hy hs
def verE (o : MOrd) (pr : Int) (p : List MBd) : Int :=
  if priceErr o pr = 0 then if 6000 < p.length then 6 else if (verR o pr (p.length + 1) (wholeB o) p).1 = 0 then (if 0 < (verR o pr (p.length + 1) (wholeB o) p).2.length then 2 else 0) else (verR o pr (p.length + 1) (wholeB o) p).1
  else priceErr o pr

theorem Verify_ok (o : MOrd) (pr : Int) (p : List MBd) (hz : szO o) : ACalls Try.prog 41 [.agg [.sl false false .U .no o.limits.length (eInts o.limits), .s (.int .i64 o.least), .s (.int .i64 o.most), .sl false false .U .no o.bins.length (eBins o.bins)], .s (.int .i64 pr), .sl false false .U .no p.length (eBds p)] [] (.ret (.s (.int .i64 (verE o pr p))) [] []) := by
  refine acalls_of_ew Try.func41 rfl rfl (by simp [Try.f41]) (rs := [.tmp 6]) rfl ?_
  refine EW.seq fun Ψ0 n0 x0 => ?_
  refine EW.region gs_nil ?_
  simp
  refine n0 _ ?_; clear n0 x0
  refine EW.seq fun Ψ1 n1 x1 => ?_
  refine EW.seq fun Ψ2 n2 x2 => ?_
  refine EW.region (gs_cons (checkPrice_ok o pr hz) gs_nil) ?_
  simp
  refine n2 _ ?_; clear n2 x2
  refine EW.seq fun Ψ3 n3 x3 => ?_
  refine EW.region gs_nil ?_
  simp
  refine n3 _ ?_; clear n3 x3
  refine EW.cond (t := _) (by rfl) (fun hc14 => ?_) (fun hc14 => ?_)
  · have g1 : ¬ priceErr o pr = 0 := by simpa using hc14
    have hv : verE o pr p = priceErr o pr := by rw [verE, if_neg g1]
    refine EW.seq fun Ψ4 n4 x4 => ?_
    refine EW.region gs_nil ?_
    simp
    refine n4 _ ?_; clear n4 x4
    refine EW.ret ?_
    refine x1 _ _ rfl ?_; clear n1 x1
    refine ⟨_, _, _, rfl, ?_, ?_, ?_, ?_, ?_⟩ <;> simp [hv]
  · have g1 : priceErr o pr = 0 := by simpa using hc14
    have k := ordErr_ok (priceErr_ord g1)
    have w4 := (whole_facts k).1
    have kn := k.nl
    refine EW.skip ?_
    refine n1 _ ?_; clear n1 x1
    refine EW.seq fun Ψ5 n5 x5 => ?_
    refine EW.seq fun Ψ6 n6 x6 => ?_
    refine EW.region gs_nil ?_
    simp
    refine n6 _ ?_; clear n6 x6
    refine EW.cond (t := _) (by rfl) (fun hc18 => ?_) (fun hc18 => ?_)
    · have g2 : 6000 < p.length := by simp at hc18; omega
      have hv : verE o pr p = 6 := by rw [verE, if_pos g1, if_pos g2]
      refine EW.seq fun Ψ7 n7 x7 => ?_
      refine EW.region gs_nil ?_
      simp
      refine n7 _ ?_; clear n7 x7
      refine EW.ret ?_
      refine x5 _ _ rfl ?_; clear n5 x5
      refine ⟨_, _, _, rfl, ?_, ?_, ?_, ?_, ?_⟩ <;> simp [hv]
    · have g2 : ¬ 6000 < p.length := by simp at hc18; omega
      have c1 := check75_ok o pr k.nb (by omega) (fun b hb => (k.bin b hb).len) (p.length + 1) (wholeB o) p w4 (by omega)
      obtain ⟨⟨e1, r1⟩, g3⟩ : ∃ q, q = verR o pr (p.length + 1) (wholeB o) p := ⟨_, rfl⟩
      rw [← g3] at c1
      simp only at c1
      refine EW.skip ?_
      refine n5 _ ?_; clear n5 x5
      refine EW.seq fun Ψ8 n8 x8 => ?_
      refine EW.region gs_nil ?_
      simp
      refine n8 _ ?_; clear n8 x8
      refine EW.seq fun Ψ9 n9 x9 => ?_
      refine EW.seq fun Ψ10 n10 x10 => ?_
      refine EW.region (gs_cons (whole_ok o k.nb) (gs_cons c1 gs_nil)) ?_
      simp [w4]
      refine n10 _ ?_; clear n10 x10
      refine EW.seq fun Ψ11 n11 x11 => ?_
      refine EW.region gs_nil ?_
      simp
      refine n11 _ ?_; clear n11 x11
      refine EW.cond (t := _) (by rfl) (fun hc30 => ?_) (fun hc30 => ?_)
      · have h4 : ¬ e1 = 0 := by simpa using hc30
        have hv : verE o pr p = e1 := by rw [verE, if_pos g1, if_neg g2, ← g3, if_neg h4]
        refine EW.seq fun Ψ12 n12 x12 => ?_
        refine EW.region gs_nil ?_
        simp
        refine n12 _ ?_; clear n12 x12
        refine EW.ret ?_
        refine x9 _ _ rfl ?_; clear n9 x9
        refine ⟨_, _, _, rfl, ?_, ?_, ?_, ?_, ?_⟩ <;> simp [hv]
      · have h4 : e1 = 0 := by simpa using hc30
        refine EW.skip ?_
        refine n9 _ ?_; clear n9 x9
        refine EW.seq fun Ψ13 n13 x13 => ?_
        refine EW.seq fun Ψ14 n14 x14 => ?_
        refine EW.region gs_nil ?_
        simp
        refine n14 _ ?_; clear n14 x14
        refine EW.cond (t := _) (by rfl) (fun hc37 => ?_) (fun hc37 => ?_)
        · have h5 : 0 < r1.length := by first | (simpa using hc37) | (simp at hc37; omega)
          have hv : verE o pr p = 2 := by rw [verE, if_pos g1, if_neg g2, ← g3, if_pos h4, if_pos h5]
          refine EW.seq fun Ψ15 n15 x15 => ?_
          refine EW.region gs_nil ?_
          simp
          refine n15 _ ?_; clear n15 x15
          refine EW.ret ?_
          refine x13 _ _ rfl ?_; clear n13 x13
          refine ⟨_, _, _, rfl, ?_, ?_, ?_, ?_, ?_⟩ <;> simp [hv]
        · have h5 : ¬ 0 < r1.length := by first | (simpa using hc37) | (simp at hc37; omega)
          have hv : verE o pr p = 0 := by rw [verE, if_pos g1, if_neg g2, ← g3, if_pos h4, if_neg h5]
          refine EW.skip ?_
          refine n13 _ ?_; clear n13 x13
          refine EW.seq fun Ψ16 n16 x16 => ?_
          refine EW.region gs_nil ?_
          simp
          refine n16 _ ?_; clear n16 x16
          refine EW.ret ?_
          refine ⟨_, _, _, rfl, ?_, ?_, ?_, ?_, ?_⟩ <;> simp [hv]


/-- How many blends a box has. -/
def volX : List (Int × Int) → Nat
  | [] => 1
  | p :: x => (p.2 - p.1 + 1).toNat * volX x
theorem volX_cut : ∀ (x : List (Int × Int)) (i : Nat) (p : Int × Int) (v : Int), x[i]? = some p → p.1 ≤ v → v < p.2 → volX (setHi x i v) + volX (setLo x i (v + 1)) = volX x
  | [], i, p, v, h, _, _ => by simp at h
  | q :: x, 0, p, v, h, h1, h2 => by
    simp at h; subst h
    simp only [setHi, setLo, volX]
    rw [← Nat.add_mul]
    congr 1
    omega
  | q :: x, i + 1, p, v, h, h1, h2 => by
    simp only [setHi, setLo, volX]
    rw [← Nat.mul_add, volX_cut x i p v (by simpa using h) h1 h2]
theorem volX_pos : ∀ (x : List (Int × Int)), okBx x → 1 ≤ volX x
  | [], _ => by simp [volX]
  | p :: x, h => by
    have h1 := h p (by simp)
    have h2 := volX_pos x fun q hq => h q (by simp [hq])
    simp only [volX]
    exact Nat.mul_pos (by omega) h2
theorem volX_le : ∀ (x : List (Int × Int)), (∀ p ∈ x, 0 ≤ p.1 ∧ p.2 ≤ 6) → volX x ≤ 7 ^ x.length
  | [], _ => by simp [volX]
  | p :: x, h => by
    have h1 := h p (by simp)
    have h2 := volX_le x fun q hq => h q (by simp [hq])
    simp only [volX, List.length_cons]
    rw [Nat.pow_succ, Nat.mul_comm]
    exact Nat.mul_le_mul h2 (by omega)
theorem plain_vol {o : MOrd} (k : OkO o) (pr : Int) : ∀ (n : Nat) (x : List (Int × Int)), BX o x → ∀ p, plainL o pr n x = some p → p.length + 1 ≤ 2 * volX x
  | 0, x, _, p, h => by simp [plainL] at h
  | n + 1, x, bx, p, h => by
    have hbx := BX.bx k bx
    have hv := volX_pos x hbx
    rw [plainL] at h
    split at h
    · cases h; simp; omega
    split at h
    · cases h; simp; omega
    split at h
    · cases h; simp; omega
    split at h
    · cases h; simp; omega
    split at h
    · cases h
    rename_i g5
    obtain ⟨f1, p0, f2, f3⟩ := firstD_lt x g5
    have hp0 := okBx_get hbx f2
    have hlt : firstD x < o.bins.length := by
      rcases Nat.lt_or_ge (firstD x) o.bins.length with h | h
      · exact h
      · have := (okX_get bx.ok f2).2 (by omega)
        rw [this] at f3
        exact absurd rfl f3
    have hmid := midB_eq hbx f2
    have hw : wr (midB x + 1) = midB x + 1 := wr_small (by omega) (by omega)
    rw [hw] at h
    have b1 := BX.hi k bx f2 (v := midB x) hlt (by omega) (by omega)
    have b2 := BX.lo k bx f2 (v := midB x + 1) hlt (by omega) (by omega)
    have hc := volX_cut x (firstD x) p0 (midB x) f2 (by omega) (by omega)
    split at h
    · rename_i a b hA hB
      cases h
      have := plain_vol k pr n _ b1 a hA
      have := plain_vol k pr n _ b2 b hB
      simp only [List.length_cons, List.length_append]
      omega
    · cases h
theorem whole_vol {o : MOrd} (k : OkO o) : volX (wholeB o) ≤ 2401 := by
  have bx := whole_X k
  have h := volX_le (wholeB o) fun p hp => by
    obtain ⟨i, hi⟩ := List.getElem?_of_mem hp
    obtain ⟨a, c⟩ := okX_get bx.ok hi
    by_cases h : i < o.bins.length
    · obtain ⟨q, hq, r⟩ := a h
      have := (k.bin q hq).g
      omega
    · rw [c h]; exact ⟨Int.le_refl _, by decide⟩
  rw [bx.len] at h
  exact h
theorem allB_of : ∀ {bs : List MBin} {l r : List Int}, okR bs r → l ++ r ∈ allB bs l
  | [], l, [], _ => by simp [allB]
  | [], l, _ :: _, h => h.elim
  | b :: bs, l, [], h => h.elim
  | b :: bs, l, n :: r, h => by
    rw [allB]
    have key : ∀ (m k : Nat) (j : Nat), k ≤ j → j < k + m → ∀ x ∈ allB bs (l ++ [(j : Int)]), x ∈ catN (fun k => allB bs (l ++ [(k : Int)])) m k := by
      intro m
      induction m with
      | zero => intro k j h1 h2; omega
      | succ m ih =>
        intro k j h1 h2 x hx
        rw [catN, List.mem_append]
        by_cases e : j = k
        · subst e; exact .inl hx
        · exact .inr (ih (k + 1) j (by omega) (by omega) x hx)
    have hn := h.1
    have := allB_of (l := l ++ [n]) h.2
    refine key _ 0 n.toNat (by omega) (by omega) _ ?_
    rw [show ((n.toNat : Nat) : Int) = n by omega]
    simpa using this
theorem okR_of : ∀ {bs : List MBin} {l : List Int}, l.length = bs.length → (∀ (i : Nat) (h : i < bs.length) (h' : i < l.length), 0 ≤ l[i] ∧ l[i] ≤ bs[i].g) → okR bs l
  | [], [], _, _ => trivial
  | [], _ :: _, e, _ => by simp at e
  | _ :: _, [], e, _ => by simp at e
  | b :: bs, n :: l, e, h => ⟨h 0 (by simp) (by simp), okR_of (by simpa using e) fun i a c => h (i + 1) (by simpa using a) (by simpa using c)⟩
theorem all_of {o : MOrd} {l : List Int} (h : okBl o l) : l ∈ allB o.bins [] := by simpa using allB_of (l := []) (okR_of h.1 h.2)
section
variable {o : MOrd} (k : OkO o)
include k
theorem cost_in {l : List Int} (kb : okBl o l) : 0 ≤ cW o l ∧ cW o l ≤ 240000000 := by
  rw [cW, weighL_ok k kb]
  have key : ∀ (bs : List MBin) (l : List Int), (∀ b ∈ bs, 0 ≤ b.c ∧ b.c ≤ 10000000) → (∀ n ∈ l, 0 ≤ n ∧ n ≤ 6) → 0 ≤ sX (·.c) bs l ∧ sX (·.c) bs l ≤ 60000000 * bs.length := by
    intro bs
    induction bs with
    | nil => intro l _ _; cases l <;> simp [sX]
    | cons b bs ih =>
      intro l hb hl
      cases l with
      | nil => simp only [sX, List.length_cons]; omega
      | cons n l =>
        have i := ih l (fun c hc => hb c (by simp [hc])) (fun m hm => hl m (by simp [hm]))
        have hb0 := hb b (by simp)
        have hn := hl n (by simp)
        have p1 : 0 ≤ n * b.c := Int.mul_nonneg hn.1 hb0.1
        have p2 : n * b.c ≤ 6 * 10000000 := Int.mul_le_mul hn.2 hb0.2 hb0.1 (by omega)
        simp only [sX, List.length_cons]
        omega
  have := key o.bins l (fun b hb => (k.bin b hb).c) (kb.pos k)
  have := k.nb
  simp only
  omega
theorem cheap_facts : (cheapE o = 13 ∧ cheapC o = 0 ∧ cheapB o = [] ∧ ∀ l, okBl o l → goodB o l = false) ∨
    (cheapE o = 0 ∧ (0 ≤ cheapC o ∧ cheapC o ≤ 240000000) ∧ (∃ l, okBl o l ∧ goodB o l = true ∧ cW o l = cheapC o) ∧ ∀ l, okBl o l → goodB o l = true → cheapC o ≤ cW o l) := by
  have e0 := ordErr_0 k
  simp only [cheapE, cheapC, cheapB, if_pos e0]
  rcases cheap_FS k with ⟨h, hn⟩ | ⟨h1, h2, h3, h4⟩
  · left
    rw [h]
    exact ⟨by simp, by simp, by simp, fun l hl => hn l (all_of hl)⟩
  · right
    have kb := all_ok h1
    have hne : ¬ (cheapR o).1.length = 0 := by
      rw [kb.1]; intro e; exact k.ne (List.length_eq_zero_iff.1 e)
    simp only [if_neg hne]
    refine ⟨by simp, by rw [h3]; exact cost_in k kb, ⟨_, kb, h2, h3.symm⟩, fun l hl hg => ?_⟩
    obtain ⟨i, hi, rfl⟩ := List.getElem_of_mem (all_of hl)
    exact (h4 i hi hg).1
theorem prove_facts (pr : Int) (hp : 0 ≤ pr ∧ pr ≤ 300000000) : (prvE o pr = 13 ∧ prvL o pr = [] ∧ ∃ l, okBl o l ∧ goodB o l = true ∧ cW o l < pr) ∨
    (prvE o pr = 0 ∧ verE o pr (prvL o pr) = 0 ∧ (prvL o pr).length ≤ 6000 ∧ ∀ l, okBl o l → goodB o l = true → ¬ cW o l < pr) := by
  have e0 := ordErr_0 k
  have ep : priceErr o pr = 0 := by rw [priceErr, if_pos e0, if_pos (inB_iff.2 hp)]
  have bx := whole_X k
  obtain ⟨s1, s2⟩ := plain_spec k pr 41 (wholeB o) bx (whole_facts k).2.2
  simp only [prvE, prvL, proveN, if_pos ep]
  have hq : plainL o pr 41 (wholeB o) = none ∨ ∃ p, plainL o pr 41 (wholeB o) = some p := by cases plainL o pr 41 (wholeB o) <;> simp
  rcases hq with hq | ⟨p, hq⟩
  · left
    obtain ⟨l, a, b⟩ := s1 hq
    simp only [hq]
    exact ⟨by simp, rfl, l, bX_ok bx.ok a, b⟩
  · right
    have hv := plain_vol k pr 41 _ bx p hq
    have hw := whole_vol k
    have hr := s2 p hq (p.length + 1) [] (by simp)
    rw [List.append_nil] at hr
    simp only [hq]
    refine ⟨by simp, ?_, by simp only [Option.getD_some]; omega, fun l hl hg => ver_none k pr _ _ _ _ bx hr l (whole_in k hl) hg⟩
    rw [verE, if_pos ep, Option.getD_some, if_neg (by omega), hr]
    rfl
end

set_option maxHeartbeats 4000000 in
theorem MeltProved_ok (nums : List Int) (hl : (nums.length : Int) < 9223372036854775807) : ACalls Try.prog 11 [.sl false false .U .no nums.length (eInts nums)] [] (.ret (.s (.bool true)) [] []) := by
  have c1 := orderOf_ok 4 3 4 (feedS nums) (by decide) (by decide)
  have k := (made 4 3 4 (feedS nums) (by decide) (by decide) (by decide)).ok (by decide) (by decide) (by decide)
  generalize ordOf 4 3 4 (feedS nums) = o at c1 k
  generalize ordS 4 3 4 (feedS nums) = y0 at c1
  have F := cheap_facts k
  have c2 := Cheapest_ok' o k.sz
  have hc0 : 0 ≤ cheapC o ∧ cheapC o ≤ 240000000 := by rcases F with ⟨_, e, _⟩ | ⟨_, e, _⟩ <;> omega
  have q1 := bel_ge (wr (cheapC o + 1)) y0 (wr_lt _)
  have w1 : wr (cheapC o + 1) = cheapC o + 1 := wr_small (by omega) (by omega)
  have q2 := bel_lt (wr (cheapC o + 1)) y0 (by omega) (by omega)
  have q3 := bel_ge 50 (belS (wr (cheapC o + 1)) y0) (by omega)
  have q4 := bel_lt 50 (belS (wr (cheapC o + 1)) y0) (by omega) (by omega)
  have w2 : wr (cheapC o + belV 50 (belS (wr (cheapC o + 1)) y0)) = cheapC o + belV 50 (belS (wr (cheapC o + 1)) y0) := wr_small (by omega) (by omega)
  have c4 := either_ok [cheapC o, wr (cheapC o + 1), belV (wr (cheapC o + 1)) y0, wr (cheapC o + belV 50 (belS (wr (cheapC o + 1)) y0))] (belS 50 (belS (wr (cheapC o + 1)) y0)) (by show ((4 : Nat) : Int) < _; omega)
  have hm := eit_mem [cheapC o, wr (cheapC o + 1), belV (wr (cheapC o + 1)) y0, wr (cheapC o + belV 50 (belS (wr (cheapC o + 1)) y0))] (belS 50 (belS (wr (cheapC o + 1)) y0)) (by simp) (by show ((4 : Nat) : Int) < _; omega)
  generalize hp0 : eitV [cheapC o, wr (cheapC o + 1), belV (wr (cheapC o + 1)) y0, wr (cheapC o + belV 50 (belS (wr (cheapC o + 1)) y0))] (belS 50 (belS (wr (cheapC o + 1)) y0)) = p0 at c4 hm
  generalize eitS [cheapC o, wr (cheapC o + 1), belV (wr (cheapC o + 1)) y0, wr (cheapC o + belV 50 (belS (wr (cheapC o + 1)) y0))] (belS 50 (belS (wr (cheapC o + 1)) y0)) = y3 at c4
  have hp0b : 0 ≤ p0 ∧ p0 ≤ 300000000 := by
    rw [w2] at hm; simp only [List.mem_cons, List.not_mem_nil, or_false] at hm; rcases hm with h | h | h | h <;> rw [h] <;> omega
  have c5 := either_ok [0, belV 100 y3, 300000000] (belS 100 y3) (by show ((3 : Nat) : Int) < _; omega)
  have hm5 := eit_mem [0, belV 100 y3, 300000000] (belS 100 y3) (by simp) (by show ((3 : Nat) : Int) < _; omega)
  have q5 := bel_ge 100 y3 (by omega)
  have q6 := bel_lt 100 y3 (by omega) (by omega)
  generalize hp1 : eitV [0, belV 100 y3, 300000000] (belS 100 y3) = p1 at c5 hm5
  have hp1b : 0 ≤ p1 ∧ p1 ≤ 300000000 := by
    simp only [List.mem_cons, List.not_mem_nil, or_false] at hm5; rcases hm5 with h | h | h <;> rw [h] <;> omega
  refine acalls_of_ew Try.func11 rfl rfl (by simp [Try.f11]) (rs := [.tmp 2]) rfl ?_
  refine EW.seq fun Ψ0 n0 x0 => ?_
  refine EW.region gs_nil ?_
  simp
  refine n0 _ ?_; clear n0 x0
  refine EW.seq fun Ψ1 n1 x1 => ?_
  refine EW.region (gs_cons (feedOf_ok nums hl) gs_nil) ?_
  simp
  refine n1 _ ?_; clear n1 x1
  refine EW.seq fun Ψ2 n2 x2 => ?_
  refine EW.region (gs_cons c1 gs_nil) ?_
  simp
  refine n2 _ ?_; clear n2 x2
  refine EW.seq fun Ψ3 n3 x3 => ?_
  refine EW.region (gs_cons c2 gs_nil) ?_
  simp
  refine n3 _ ?_; clear n3 x3
  refine EW.seq fun Ψ4 n4 x4 => ?_
  refine EW.region (gF_ok (gs_cons c4 gs_nil)) ?_
  simp
  refine n4 _ ?_; clear n4 x4
  refine EW.seq fun Ψ5 n5 x5 => ?_
  refine EW.seq fun Ψ6 n6 x6 => ?_
  refine EW.region gs_nil ?_
  simp
  refine n6 _ ?_; clear n6 x6
  refine EW.cond (t := _) (by rfl) (fun hc36 => ?_) (fun hc36 => ?_)
  · have he : ¬ cheapE o = 0 := by simpa using hc36
    have he13 : cheapE o = 13 := by rcases F with ⟨e, _⟩ | ⟨e, _⟩; exact e; exact absurd e he
    have hno : ∀ l, okBl o l → goodB o l = false := by rcases F with ⟨_, _, _, e⟩ | ⟨e, _⟩; exact e; exact absurd e he
    obtain ⟨pr, hpr, hpe⟩ : ∃ pr, (0 ≤ pr ∧ pr ≤ 300000000) ∧ pr = p1 := ⟨_, hp1b, rfl⟩
    refine EW.region (gF_ok (gs_cons c5 gs_nil)) ?_
    simp
    rw [← hpe]
    refine n5 _ ?_; clear n5 x5
    refine EW.seq fun Ψ7 n7 x7 => ?_
    refine EW.region (gs_cons (Prove_ok o pr k.sz) gs_nil) ?_
    simp
    refine n7 _ ?_; clear n7 x7
    refine EW.seq fun Ψ8 n8 x8 => ?_
    refine EW.seq fun Ψ9 n9 x9 => ?_
    refine EW.region gs_nil ?_
    simp [he13]
    refine n9 _ ?_; clear n9 x9
    refine EW.cond (t := _) (by rfl) (fun hc54 => ?_) (fun hc54 => ?_)
    · simp [he13] at hc54
    · clear hc54
      obtain ⟨r1, r2, r3⟩ : prvE o pr = 0 ∧ verE o pr (prvL o pr) = 0 ∧ (prvL o pr).length ≤ 6000 := by
        rcases prove_facts k pr hpr with ⟨_, _, l, a, b, _⟩ | ⟨a, b, c, _⟩
        · rw [hno l a] at b; cases b
        · exact ⟨a, b, c⟩
      refine EW.skip ?_
      refine n8 _ ?_; clear n8 x8
      refine EW.seq fun Ψ10 n10 x10 => ?_
      refine EW.region (gs_cons (Verify_ok o pr (prvL o pr) k.sz) (gs_cons alive_ok gs_nil)) ?_
      simp [r1, r2, he13]
      refine n10 _ ?_; clear n10 x10
      refine EW.ret ?_
      refine ⟨_, _, _, rfl, ?_, ?_, ?_, ?_, ?_⟩ <;> simp
  · have he : cheapE o = 0 := by simpa using hc36
    have hF : (∃ l, okBl o l ∧ goodB o l = true ∧ cW o l = cheapC o) ∧ ∀ l, okBl o l → goodB o l = true → cheapC o ≤ cW o l := by rcases F with ⟨e, _⟩ | ⟨_, _, e⟩; omega; exact e
    obtain ⟨pr, hpr, hpe⟩ : ∃ pr, (0 ≤ pr ∧ pr ≤ 300000000) ∧ pr = p0 := ⟨_, hp0b, rfl⟩
    rw [← hpe]
    refine EW.skip ?_
    refine n5 _ ?_; clear n5 x5
    refine EW.seq fun Ψ11 n11 x11 => ?_
    refine EW.region (gs_cons (Prove_ok o pr k.sz) gs_nil) ?_
    simp
    refine n11 _ ?_; clear n11 x11
    refine EW.seq fun Ψ12 n12 x12 => ?_
    refine EW.seq fun Ψ13 n13 x13 => ?_
    refine EW.region gs_nil ?_
    simp [he]
    refine n13 _ ?_; clear n13 x13
    refine EW.cond (t := _) (by rfl) (fun hc54 => ?_) (fun hc54 => ?_)
    · have hgt : cheapC o < pr := by simpa [he] using hc54
      obtain ⟨r1, r2⟩ : prvE o pr = 13 ∧ prvL o pr = [] := by
        rcases prove_facts k pr hpr with ⟨a, b, _⟩ | ⟨_, _, _, a⟩
        · exact ⟨a, b⟩
        · obtain ⟨l, q1, q2, q3⟩ := hF.1
          exact absurd (by omega) (a l q1 q2)
      refine EW.seq fun Ψ14 n14 x14 => ?_
      refine EW.region (gs_cons alive_ok gs_nil) ?_
      simp [r1, r2]
      refine n14 _ ?_; clear n14 x14
      refine EW.ret ?_
      refine x12 _ _ rfl ?_; clear n12 x12
      refine ⟨_, _, _, rfl, ?_, ?_, ?_, ?_, ?_⟩ <;> simp
    · have hle : ¬ cheapC o < pr := by simpa [he] using hc54
      obtain ⟨r1, r2, r3⟩ : prvE o pr = 0 ∧ verE o pr (prvL o pr) = 0 ∧ (prvL o pr).length ≤ 6000 := by
        rcases prove_facts k pr hpr with ⟨_, _, l, a, b, c⟩ | ⟨a, b, c, _⟩
        · have := hF.2 l a b; omega
        · exact ⟨a, b, c⟩
      refine EW.skip ?_
      refine n12 _ ?_; clear n12 x12
      refine EW.seq fun Ψ15 n15 x15 => ?_
      refine EW.region (gs_cons (Verify_ok o pr (prvL o pr) k.sz) (gs_cons alive_ok gs_nil)) ?_
      simp [r1, r2, he]
      refine n15 _ ?_; clear n15 x15
      refine EW.ret ?_
      refine ⟨_, _, _, rfl, ?_, ?_, ?_, ?_, ?_⟩ <;> simp

end Go.Ev
end
