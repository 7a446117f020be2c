/- Lemmas for the claims of this seat: an evaluator over abstract values, its soundness, and the contracts of the functions of melt that it walks; no premise beyond what each theorem states. -/
import Derived.Test.YtdcelpomnboeoaaGreatDoorGAJ
import Derived.Test.YtdcelpomnboeoaaGreatDoorGAH

section
set_option linter.all false
open Go Go.Ev Go.Proofs
namespace Go.Ev
set_option linter.unusedSimpArgs false
set_option linter.unusedVariables false


/-! ### The order that the feed makes -/
def limL : Nat → Int → List Int
  | 0, _ => []
  | k + 1, x => betV 20 300 x :: limL k (betS 20 300 x)
def limS : Nat → Int → Int
  | 0, x => x
  | k + 1, x => limS k (betS 20 300 x)
def grE (l : Int) : List Int := [l, wr (2 * l)]
def grmL : List Int → Int → List (Int × Int)
  | [], _ => []
  | l :: r, x => (rngA 0 (eitV (grE l) x) (eitS (grE l) x), rngB 0 (eitV (grE l) x) (eitS (grE l) x)) :: grmL r (rngS 0 (eitV (grE l) x) (eitS (grE l) x))
def grmS : List Int → Int → Int
  | [], x => x
  | l :: r, x => grmS r (rngS 0 (eitV (grE l) x) (eitS (grE l) x))
def wgL (x : Int) : List Int := [1, 2, betV 1 20 x]
def binW (x : Int) : Int := eitV (wgL x) (betS 1 20 x)
def binX1 (x : Int) : Int := eitS (wgL x) (betS 1 20 x)
def binC (x : Int) : Int := belV 50 (binX1 x)
def binX2 (x : Int) : Int := belS 50 (binX1 x)
def binG (g x : Int) : Int := betV 0 g (binX2 x)
def binX (g x : Int) : Int := betS 0 g (binX2 x)
def binOf (ls : List Int) (g x : Int) : MBin := ⟨grmL ls (binX g x), binW x, binC x, binG g x⟩
def binsL (ls : List Int) (g : Int) : Nat → Int → List MBin
  | 0, _ => []
  | k + 1, x => binOf ls g x :: binsL ls g k (grmS ls (binX g x))
def binsS (ls : List Int) (g : Int) : Nat → Int → Int
  | 0, x => x
  | k + 1, x => binsS ls g k (grmS ls (binX g x))
def sumW : List MBin → Int → Int
  | [], a => a
  | b :: l, a => sumW l (wr (a + wr (b.w * b.g)))
section
variable (bins metals grabs x : Int)
def ooN : Nat := (belV (wr (metals + 1)) x).toNat
def ooX0 : Int := belS (wr (metals + 1)) x
def ooL : List Int := limL (ooN metals x) (ooX0 metals x)
def ooX1 : Int := limS (ooN metals x) (ooX0 metals x)
def ooM : Nat := (betV 1 bins (ooX1 metals x)).toNat
def ooX2 : Int := betS 1 bins (ooX1 metals x)
def ooB : List MBin := binsL (ooL metals x) grabs (ooM bins metals x) (ooX2 bins metals x)
def ooX3 : Int := binsS (ooL metals x) grabs (ooM bins metals x) (ooX2 bins metals x)
def ooA : Int := sumW (ooB bins metals grabs x) 0
def ooLe : Int := belV (wr (ooA bins metals grabs x + 2)) (ooX3 bins metals grabs x)
def ooX4 : Int := belS (wr (ooA bins metals grabs x + 2)) (ooX3 bins metals grabs x)
def ooX5 : Int := belS 5 (ooX4 bins metals grabs x)
def ooX6 : Int := belS (wr (ooA bins metals grabs x + 1)) (ooX5 bins metals grabs x)
def ooE : List Int := [0, belV 5 (ooX4 bins metals grabs x), belV (wr (ooA bins metals grabs x + 1)) (ooX5 bins metals grabs x)]
def ooMo : Int := wr (ooLe bins metals grabs x + eitV (ooE bins metals grabs x) (ooX6 bins metals grabs x))
def ordOf : MOrd := ⟨ooL metals x, ooLe bins metals grabs x, ooMo bins metals grabs x, ooB bins metals grabs x⟩
def ordS : Int := eitS (ooE bins metals grabs x) (ooX6 bins metals grabs x)
end
@[simp] theorem limL_len : ∀ (k : Nat) (x : Int), (limL k x).length = k
  | 0, _ => rfl
  | k + 1, x => by simp [limL, limL_len k]
@[simp] theorem grmL_len : ∀ (l : List Int) (x : Int), (grmL l x).length = l.length
  | [], _ => rfl
  | l :: r, x => by simp [grmL, grmL_len r]
@[simp] theorem binsL_len (ls : List Int) (g : Int) : ∀ (k : Nat) (x : Int), (binsL ls g k x).length = k
  | 0, _ => rfl
  | k + 1, x => by simp [binsL, binsL_len ls g k]
theorem bet_in (lo hi x : Int) (h : lo ≤ hi) (h1 : -1000000000 ≤ lo) (h2 : hi ≤ 1000000000) : lo ≤ betV lo hi x ∧ betV lo hi x ≤ hi := by
  have e1 : wr (hi - lo) = hi - lo := wr_small (by omega) (by omega)
  have e2 : wr (hi - lo + 1) = hi - lo + 1 := wr_small (by omega) (by omega)
  have a := bel_ge (hi - lo + 1) x (by omega)
  have b := bel_lt (hi - lo + 1) x (by omega) (by omega)
  unfold betV
  rw [e1, e2, wr_small (by omega) (by omega)]
  omega
def zO : AV := .s (.int .i64 0)
attribute [simp] zO
def ooE0 (b m g : Int) (r : List (Nat × AV)) : List (Nat × AV) := (0, .ptr (.ext 0) 0) :: (1, .s (.int .i64 b)) :: (2, .s (.int .i64 m)) :: (3, .s (.int .i64 g)) :: (8, .ptr (.own 8) 0) :: (9, .ptr (.own 9) 0) :: r
def ooS0 (b m g : Int) (p : Nat × List Int × Int) : St :=
  St.lit 124 (ooE0 b m g [(10, .s (.int .i64 p.1))]) [(8, [AV.nilsl, zO, zO, AV.nilsl]), (9, [.sl false false .Z (.tok 29) p.2.1.length (eInts p.2.1), zO, zO, AV.nilsl])] [[.s (.int .u64 p.2.2)]] [(29, (p.2.1.length, 1))]
def ooS1 (b m g : Int) (ls : List Int) (p : Nat × List MBin × Int) : St :=
  St.lit 124 (ooE0 b m g [(11, .s (.int .i64 p.1))]) [(8, [AV.nilsl, zO, zO, AV.nilsl]), (9, [.sl false false .Z .no ls.length (eInts ls), zO, zO, .sl false false .Z (.tok 81) p.2.1.length (eBins p.2.1)])] [[.s (.int .u64 p.2.2)]] [(81, (p.2.1.length, 4))]
def ooS2 (b m g : Int) (ls : List Int) (k : Nat) (acc : List MBin) (w c q : Int) (p : Nat × List (Int × Int) × Int) : St :=
  St.lit 124 (ooE0 b m g [(11, .s (.int .i64 k)), (12, .ptr (.own 12) 0), (13, .s (.int .i64 p.1))]) [(8, [AV.nilsl, zO, zO, AV.nilsl]), (9, [.sl false false .Z .no ls.length (eInts ls), zO, zO, .sl false false .Z (.tok 81) acc.length (eBins acc)]), (12, [.sl false false .Z (.tok 75) p.2.1.length (eRngs p.2.1), .s (.int .i64 w), .s (.int .i64 c), .s (.int .i64 q)])] [[.s (.int .u64 p.2.2)]] [(81, (acc.length, 4)), (75, (p.2.1.length, 2))]
def ooS3 (b m g : Int) (ls : List Int) (bs : List MBin) (y : Int) (p : Nat × Int) : St :=
  St.lit 124 (ooE0 b m g [(14, .s (.int .i64 p.2)), (15, .s (.int .i64 p.1))]) [(8, [AV.nilsl, zO, zO, AV.nilsl]), (9, [.sl false false .Z .no ls.length (eInts ls), zO, zO, .sl false false .Z .no bs.length (eBins bs)])] [[.s (.int .u64 y)]] []
attribute [simp] ooE0 ooS0 ooS1 ooS2 ooS3

set_option maxHeartbeats 4000000 in
theorem orderOf_ok (b m g x : Int) (hb : 1 ≤ b ∧ b < 1000) (hm : 0 ≤ m ∧ m < 1000) : ACalls Tryz.prog 7 [.ptr (.ext 0) 0, .s (.int .i64 b), .s (.int .i64 m), .s (.int .i64 g)] [[.s (.int .u64 x)]] (.ret (.agg [.sl false false .Z .no (ordOf b m g x).limits.length (eInts (ordOf b m g x).limits), .s (.int .i64 (ordOf b m g x).least), .s (.int .i64 (ordOf b m g x).most), .sl false false .Z .no (ordOf b m g x).bins.length (eBins (ordOf b m g x).bins)]) [[.s (.int .u64 (ordS b m g x))]] []) := by
  have q1 : wr (m + 1) = m + 1 := wr_small (by omega) (by omega)
  have q2 := bel_ge (m + 1) x (by omega)
  have q3 := bel_lt (m + 1) x (by omega) (by omega)
  have q4 : belV (wr (m + 1)) x = (ooN m x : Int) := by unfold ooN; rw [q1]; omega
  have q5 : (ooN m x : Int) < 1000 := by rw [← q4, q1]; omega
  have q6 := bet_in 1 b (ooX1 m x) hb.1 (by omega) (by omega)
  have q7 : betV 1 b (ooX1 m x) = (ooM b m x : Int) := by unfold ooM; omega
  have q8 : (ooM b m x : Int) < 1000 := by omega
  have q9 : (ooL m x).length = ooN m x := by simp [ooL]
  refine acalls_of_ew Tryz.func7 rfl rfl (by simp [Tryz.f7]) (rs := [.cell 8 32]) rfl ?_
  refine EW.seq fun Ψ0 n0 x0 => ?_
  refine EW.region gs_nil ?_
  simp
  refine n0 _ ?_; clear n0 x0
  refine EW.seq fun Ψ1 n1 x1 => ?_
  refine EW.region gs_nil ?_
  simp
  refine n1 _ ?_; clear n1 x1
  refine EW.seq fun Ψ2 n2 x2 => ?_
  refine EW.seq fun Ψ3 n3 x3 => ?_
  refine EW.region (gG_ok gs_nil) ?_
  simp
  refine n3 _ ?_; clear n3 x3
  refine EW.block ?_
  refine EW.loopA (ooS0 b m g) (fun p => p.1 ≤ ooN m x ∧ p.2.1.length + p.1 = ooN m x ∧ p.2.1 ++ limL p.1 p.2.2 = ooL m x ∧ limS p.1 p.2.2 = ooX1 m x) (fun p => p.1) (ooN m x, [], ooX0 m x) (St.le_lit rfl (by simp [q4]) (by simp) (by simp [ooX0]) (by simp) (by simp)) ?_ fun p hk => ?_
  · simp [ooL, ooX1]
  obtain ⟨k, acc, y⟩ := p
  obtain ⟨hk, hn, hw, hz⟩ := hk
  simp only at hk hn hw hz
  refine EW.seq fun Ψ4 n4 x4 => ?_
  refine EW.seq fun Ψ5 n5 x5 => ?_
  refine EW.region gs_nil ?_
  simp
  refine n5 _ ?_; clear n5 x5
  refine EW.cond (t := _) (by rfl) (fun hc21 => ?_) (fun hc21 => ?_)
  · simp at hc21
    refine EW.skip ?_
    refine n4 _ ?_; clear n4 x4
    refine EW.seq fun Ψ6 n6 x6 => ?_
    refine EW.block ?_
    refine EW.hide fun Ψ7 n7 => ?_
    refine EW.drawn [(1, 3)] mixed (gG_ok gs_nil) (by kernel_rfl) ?_
    simp [show (acc.length + 1) * 8 ≤ 140737488355328 by omega]
    refine n7 _ _ ?_; clear n7
    refine n6 _ ?_; clear n6 x6
    refine EW.hide fun Ψ8 n8 => ?_
    refine EW.region gs_nil ?_
    simp
    refine n8 _ _ ?_; clear n8
    have e3 : IntKind.i64.wrap ((k : Int) - 1) = ((k - 1 : Nat) : Int) := by rw [show ((k : Int) - 1) = ((k - 1 : Nat) : Int) by omega]; exact wr_small (by omega) (by omega)
    refine ⟨(k - 1, acc ++ [betV 20 300 y], betS 20 300 y), (St.le_lit rfl (by simp [e3]) (by simp) (by simp) (by simp) (by simp)), ?_, ?_⟩
    · obtain ⟨k, rfl⟩ : ∃ j, k = j + 1 := ⟨k - 1, by omega⟩
      refine ⟨by simp; omega, by simp; omega, ?_, ?_⟩
      · rw [← hw]; simp [limL]
      · rw [← hz]; simp [limS]
    · simp; omega
  · simp at hc21
    have hkl : k = 0 := by omega
    subst hkl
    simp [limL, limS] at hw hz
    refine EW.exit ?_
    refine x4 _ _ rfl ?_; clear n4 x4
    refine n2 _ ?_; clear n2 x2
    refine EW.seq fun Ψ9 n9 x9 => ?_
    refine EW.seq fun Ψ10 n10 x10 => ?_
    refine EW.region (gG_ok gs_nil) ?_
    simp
    refine n10 _ ?_; clear n10 x10
    refine EW.block ?_
    refine EW.loopA (ooS1 b m g (ooL m x)) (fun p => p.1 ≤ ooM b m x ∧ p.2.1.length + p.1 = ooM b m x ∧ p.2.1 ++ binsL (ooL m x) g p.1 p.2.2 = ooB b m g x ∧ binsS (ooL m x) g p.1 p.2.2 = ooX3 b m g x) (fun p => p.1) (ooM b m x, [], ooX2 b m x) (St.le_lit rfl (by simp [q7, hz]) (by simp [hw]) (by simp [ooX2, hz]) (by simp) (by simp)) ?_ fun p hk => ?_
    · simp [ooB, ooX3]
    obtain ⟨k, acc, y⟩ := p
    obtain ⟨hk, hn, hw, hz⟩ := hk
    simp only at hk hn hw hz
    refine EW.seq fun Ψ11 n11 x11 => ?_
    refine EW.seq fun Ψ12 n12 x12 => ?_
    refine EW.region gs_nil ?_
    simp
    refine n12 _ ?_; clear n12 x12
    refine EW.cond (t := _) (by rfl) (fun hc35 => ?_) (fun hc35 => ?_)
    · simp at hc35
      refine EW.skip ?_
      refine n11 _ ?_; clear n11 x11
      refine EW.seq fun Ψ13 n13 x13 => ?_
      refine EW.block ?_
      refine EW.seq fun Ψ14 n14 x14 => ?_
      refine EW.region (gG_ok (gs_cons (either_ok (wgL y) (betS 1 20 y) (by show ((3 : Nat) : Int) < _; omega)) gs_nil)) ?_
      simp [wgL]
      refine n14 _ ?_; clear n14 x14
      refine EW.seq fun Ψ15 n15 x15 => ?_
      refine EW.seq fun Ψ16 n16 x16 => ?_
      refine EW.region gs_nil ?_
      simp
      refine n16 _ ?_; clear n16 x16
      refine EW.block ?_
      refine EW.loopA (ooS2 b m g (ooL m x) k acc (binW y) (binC y) (binG g y)) (fun p => p.1 ≤ (ooL m x).length ∧ p.2.1.length = p.1 ∧ p.2.1 ++ grmL ((ooL m x).drop p.1) p.2.2 = grmL (ooL m x) (binX g y) ∧ grmS ((ooL m x).drop p.1) p.2.2 = grmS (ooL m x) (binX g y)) (fun p => (ooL m x).length - p.1) (0, [], binX g y) (St.le_lit rfl (by simp) (by simp [binW, binC, binG, binX2, binX1, wgL]) (by simp [binX, binX2, binX1, wgL]) (by simp) (by simp)) ?_ fun p hk => ?_
      · simp
      obtain ⟨j, gr, z⟩ := p
      obtain ⟨gk, gn, gw, gz⟩ := hk
      simp only at gk gn gw gz
      refine EW.seq fun Ψ17 n17 x17 => ?_
      refine EW.seq fun Ψ18 n18 x18 => ?_
      refine EW.region gs_nil ?_
      simp
      refine n18 _ ?_; clear n18 x18
      refine EW.cond (t := _) (by rfl) (fun hc53 => ?_) (fun hc53 => ?_)
      · simp at hc53
        have e1 : (ooL m x)[j]? = some (ooL m x)[j] := List.getElem?_eq_getElem hc53
        refine EW.skip ?_
        refine n17 _ ?_; clear n17 x17
        refine EW.seq fun Ψ19 n19 x19 => ?_
        refine EW.block ?_
        refine EW.hide fun Ψ20 n20 => ?_
        refine EW.drawn [(1, 16), (1, 17)] mixed (gG_ok (gs_cons (either_ok (grE (ooL m x)[j]) z (by show ((2 : Nat) : Int) < _; omega)) gs_nil)) (by kernel_rfl) ?_
        simp [grE, hc53, e1, gn, show (j + 1) * 16 ≤ 140737488355328 by omega]
        refine n20 _ _ ?_; clear n20
        refine n19 _ ?_; clear n19 x19
        refine EW.hide fun Ψ21 n21 => ?_
        refine EW.region gs_nil ?_
        simp
        refine n21 _ _ ?_; clear n21
        have e3 : IntKind.i64.wrap ((j : Int) + 1) = j + 1 := wr_small (by omega) (by omega)
        refine ⟨(j + 1, gr ++ [(rngA 0 (eitV (grE (ooL m x)[j]) z) (eitS (grE (ooL m x)[j]) z), rngB 0 (eitV (grE (ooL m x)[j]) z) (eitS (grE (ooL m x)[j]) z))], rngS 0 (eitV (grE (ooL m x)[j]) z) (eitS (grE (ooL m x)[j]) z)), (St.le_lit rfl (by simp [e3]) (by simp [gn, grE]) (by simp [grE]) (by simp [gn]) (by simp)), ?_, ?_⟩
        · refine ⟨by omega, by simp [gn], ?_, ?_⟩
          · rw [← gw, List.drop_eq_getElem_cons hc53]; simp [grmL]
          · rw [← gz, List.drop_eq_getElem_cons hc53]; simp [grmS]
        · simp; omega
      · simp at hc53
        have hkl : j = (ooL m x).length := by omega
        subst hkl
        simp [grmL, grmS] at gw gz
        refine EW.exit ?_
        refine x17 _ _ rfl ?_; clear n17 x17
        refine n15 _ ?_; clear n15 x15
        refine EW.hide fun Ψ22 n22 => ?_
        refine EW.region gs_nil ?_
        simp [show (acc.length + 1) * 48 ≤ 140737488355328 by omega]
        refine n22 _ _ ?_; clear n22
        refine n13 _ ?_; clear n13 x13
        refine EW.hide fun Ψ23 n23 => ?_
        refine EW.region gs_nil ?_
        simp
        refine n23 _ _ ?_; clear n23
        have e3 : IntKind.i64.wrap ((k : Int) - 1) = ((k - 1 : Nat) : Int) := by rw [show ((k : Int) - 1) = ((k - 1 : Nat) : Int) by omega]; exact wr_small (by omega) (by omega)
        refine ⟨(k - 1, acc ++ [binOf (ooL m x) g y], grmS (ooL m x) (binX g y)), (St.le_lit rfl (by simp [e3]) (by simp [binOf, gw]) (by simp [gz]) (by simp) (by simp)), ?_, ?_⟩
        · obtain ⟨k, rfl⟩ : ∃ j, k = j + 1 := ⟨k - 1, by omega⟩
          refine ⟨by simp; omega, by simp; omega, ?_, ?_⟩
          · rw [← hw]; simp [binsL]
          · rw [← hz]; simp [binsS]
        · simp; omega
    · simp at hc35
      have hkl : k = 0 := by omega
      subst hkl
      simp [binsL, binsS] at hw hz
      have s1 : (ooB b m g x).length = ooM b m x := by simp [ooB]
      refine EW.exit ?_
      refine x11 _ _ rfl ?_; clear n11 x11
      refine n9 _ ?_; clear n9 x9
      refine EW.seq fun Ψ24 n24 x24 => ?_
      refine EW.region gs_nil ?_
      simp
      refine n24 _ ?_; clear n24 x24
      refine EW.seq fun Ψ25 n25 x25 => ?_
      refine EW.seq fun Ψ26 n26 x26 => ?_
      refine EW.region gs_nil ?_
      simp
      refine n26 _ ?_; clear n26 x26
      refine EW.block ?_
      refine EW.loopA (ooS3 b m g (ooL m x) (ooB b m g x) (ooX3 b m g x)) (fun p => p.1 ≤ (ooB b m g x).length ∧ sumW ((ooB b m g x).drop p.1) p.2 = ooA b m g x) (fun p => (ooB b m g x).length - p.1) (0, 0) (St.le_lit rfl (by simp) (by simp [hw]) (by simp [hz]) (by simp) (by simp)) ?_ fun p hk => ?_
      · simp [ooA]
      obtain ⟨k, a⟩ := p
      obtain ⟨ak, aw⟩ := hk
      simp only at ak aw
      refine EW.seq fun Ψ27 n27 x27 => ?_
      refine EW.seq fun Ψ28 n28 x28 => ?_
      refine EW.region gs_nil ?_
      simp
      refine n28 _ ?_; clear n28 x28
      refine EW.cond (t := _) (by rfl) (fun hc87 => ?_) (fun hc87 => ?_)
      · simp at hc87
        have e1 : (ooB b m g x)[k]? = some (ooB b m g x)[k] := List.getElem?_eq_getElem hc87
        refine EW.skip ?_
        refine n27 _ ?_; clear n27 x27
        refine EW.seq fun Ψ29 n29 x29 => ?_
        refine EW.block ?_
        refine EW.hide fun Ψ30 n30 => ?_
        refine EW.drawn [] mixed gs_nil (by kernel_rfl) ?_
        simp [hc87, e1]
        refine n30 _ _ ?_; clear n30
        refine n29 _ ?_; clear n29 x29
        refine EW.hide fun Ψ31 n31 => ?_
        refine EW.region gs_nil ?_
        simp
        refine n31 _ _ ?_; clear n31
        have e3 : IntKind.i64.wrap ((k : Int) + 1) = k + 1 := wr_small (by omega) (by omega)
        refine ⟨(k + 1, wr (a + wr ((ooB b m g x)[k].w * (ooB b m g x)[k].g))), (St.le_lit rfl (by simp [e3]) (by simp) (by simp) (by simp) (by simp)), ?_, ?_⟩
        · refine ⟨by omega, ?_⟩
          rw [← aw, List.drop_eq_getElem_cons hc87]; simp [sumW]
        · simp; omega
      · simp at hc87
        have hkl : k = (ooB b m g x).length := by omega
        subst hkl
        simp [sumW] at aw
        refine EW.exit ?_
        refine x27 _ _ rfl ?_; clear n27 x27
        refine n25 _ ?_; clear n25 x25
        refine EW.seq fun Ψ32 n32 x32 => ?_
        refine EW.region (gG_ok gs_nil) ?_
        simp
        refine n32 _ ?_; clear n32 x32
        refine EW.seq fun Ψ33 n33 x33 => ?_
        refine EW.drawn [(1, 4), (1, 8), (1, 10)] mixed (gG_ok (gs_cons (either_ok (ooE b m g x) (ooX6 b m g x) (by show ((3 : Nat) : Int) < _; omega)) gs_nil)) (by kernel_rfl) ?_
        simp [aw, ooE, ooX6, ooX5, ooX4, ooLe]
        refine n33 _ ?_; clear n33 x33
        refine EW.seq fun Ψ34 n34 x34 => ?_
        refine EW.region gs_nil ?_
        simp
        refine n34 _ ?_; clear n34 x34
        refine EW.ret ?_
        refine ⟨_, _, _, rfl, ?_, ?_, ?_, ?_, ?_⟩ <;> simp [ordOf, ordS, ooMo, ooE, ooX6, ooX5, ooX4, ooLe, aw]

end Go.Ev
end

section
set_option linter.all false
open Go Go.Ev Go.Proofs
namespace Go.Ev
set_option linter.unusedSimpArgs false
set_option linter.unusedVariables false


/-- The blend that the feed makes, and the feed behind it. -/
def blendL : List MBin → Int → List Int
  | [], _ => []
  | b :: l, x => belV (wr (b.g + 1)) x :: blendL l (belS (wr (b.g + 1)) x)
def blendS : List MBin → Int → Int
  | [], x => x
  | b :: l, x => blendS l (belS (wr (b.g + 1)) x)
@[simp] theorem blendL_len : ∀ (l : List MBin) (x : Int), (blendL l x).length = l.length
  | [], _ => rfl
  | b :: l, x => by simp [blendL, blendL_len l]
def blendOfS (o : MOrd) (p : Nat × List Int × Int) : St :=
  St.lit 27 [(0, .ptr (.ext 0) 0), (3, .ptr (.own 3) 0), (5, .sl true true .Z (.tok 25) p.2.1.length (eInts p.2.1)), (6, .s (.int .i64 p.1))] [(3, aOrdC o)] [[.s (.int .u64 p.2.2)]] [(25, (p.2.1.length, 1))]
attribute [simp] blendOfS

end Go.Ev
end

section
set_option linter.all false
open Go Go.Ev Go.Proofs
namespace Go.Ev
set_option linter.unusedSimpArgs false
set_option linter.unusedVariables false

/-! ### What is made of numbers -/
theorem eit_mem (l : List Int) (x : Int) (h : l ≠ []) (h2 : (l.length : Int) < 9223372036854775807) : eitV l x ∈ l := by
  have hne : ¬ l.length = 0 := by cases l <;> simp_all
  have b1 := bel_ge l.length x (by omega)
  have b2 := bel_lt l.length x (by omega) (by omega)
  unfold eitV
  rw [if_neg hne, List.getD_eq_getElem?_getD, List.getElem?_eq_getElem (by omega)]
  exact List.getElem_mem _
theorem min_le (a b : Int) : minI a b ≤ a ∧ minI a b ≤ b ∧ (minI a b = a ∨ minI a b = b) := by
  unfold minI; split <;> omega
theorem rng_in (lo hi x : Int) (h : lo ≤ hi) (h1 : 0 ≤ lo) (h2 : hi ≤ 1000000) : lo ≤ rngA lo hi x ∧ rngA lo hi x ≤ rngB lo hi x ∧ rngB lo hi x ≤ hi := by
  have a := bet_in lo hi x h (by omega) (by omega)
  have e : rngA lo hi x = betV lo hi x := rfl
  rw [← e] at a
  have m := eit_mem (rngL lo hi x) (rngX3 lo hi x) (by simp [rngL]) (by simp [rngL])
  have c := bet_in (rngA lo hi x) hi (rngX2 lo hi x) a.2 (by omega) (by omega)
  have f1 := bel_ge 4 (rngX1 lo hi x) (by decide)
  have f2 := bel_lt 4 (rngX1 lo hi x) (by decide) (by decide)
  have d := min_le hi (wr (rngA lo hi x + belV 4 (rngX1 lo hi x)))
  rw [wr_small (by omega) (by omega)] at d
  refine ⟨a.1, ?_⟩
  show rngA lo hi x ≤ eitV _ _ ∧ eitV _ _ ≤ hi
  simp only [rngL, List.mem_cons, List.not_mem_nil, or_false] at m
  rcases m with m | m | m
  · rw [rngL, m]; exact ⟨Int.le_refl _, a.2⟩
  · rw [rngL, m, rngM, wr_small (by omega) (by omega)]; omega
  · rw [rngL, m]; exact c
theorem inV_in (a b x : Int) (h : a ≤ b) (h1 : -1000000000 ≤ a) (h2 : b ≤ 1000000000) : a ≤ inV a b x ∧ inV a b x ≤ b := by
  have m := eit_mem (inL a b x) (inX a b x) (by simp [inL]) (by simp [inL])
  have c1 := bet_in a b x h h1 h2
  have c2 := bet_in a b (betS a b x) h h1 h2
  show a ≤ eitV _ _ ∧ eitV _ _ ≤ b
  simp only [inL, List.mem_cons, List.not_mem_nil, or_false] at m
  rcases m with m | m | m | m
  · rw [inL, m]; omega
  · rw [inL, m]; omega
  · rw [inL, m]; exact c1
  · rw [inL, m]; exact c2

/-- A bin that the feed makes. -/
structure MkB (nl : Nat) (g : Int) (b : MBin) : Prop where
  len : b.grams.length = nl
  rng : ∀ r ∈ b.grams, 0 ≤ r.1 ∧ r.1 ≤ r.2 ∧ r.2 ≤ 600
  w : 1 ≤ b.w ∧ b.w ≤ 20
  c : 0 ≤ b.c ∧ b.c ≤ 49
  g : 0 ≤ b.g ∧ b.g ≤ g
theorem limL_in : ∀ (k : Nat) (x : Int), ∀ n ∈ limL k x, 20 ≤ n ∧ n ≤ 300
  | 0, x, n, h => by cases h
  | k + 1, x, n, h => by
    rcases List.mem_cons.1 h with rfl | h
    · exact bet_in 20 300 x (by decide) (by decide) (by decide)
    · exact limL_in k _ n h
theorem grmL_in : ∀ (l : List Int) (x : Int), (∀ n ∈ l, 20 ≤ n ∧ n ≤ 300) → ∀ r ∈ grmL l x, 0 ≤ r.1 ∧ r.1 ≤ r.2 ∧ r.2 ≤ 600
  | [], x, _, r, h => by cases h
  | n :: l, x, hl, r, h => by
    rcases List.mem_cons.1 h with rfl | h
    · have hn := hl n (by simp)
      have m := eit_mem (grE n) x (by simp [grE]) (by simp [grE])
      simp only [grE, List.mem_cons, List.not_mem_nil, or_false] at m
      rw [wr_small (by omega) (by omega)] at m
      have e : 0 ≤ eitV (grE n) x ∧ eitV (grE n) x ≤ 600 := by
        rw [grE, wr_small (by omega) (by omega)]
        rcases m with m | m <;> rw [m] <;> omega
      have q := rng_in 0 (eitV (grE n) x) (eitS (grE n) x) e.1 (by decide) (by omega)
      exact ⟨q.1, q.2.1, by show rngB _ _ _ ≤ _; omega⟩
    · exact grmL_in l _ (fun n hn => hl n (by simp [hn])) r h
theorem binOf_ok (ls : List Int) (g x : Int) (hg : 0 ≤ g ∧ g ≤ 1000) (hl : ∀ n ∈ ls, 20 ≤ n ∧ n ≤ 300) : MkB ls.length g (binOf ls g x) where
  len := by simp [binOf]
  rng := grmL_in ls _ hl
  w := by
    have b := bet_in 1 20 x (by decide) (by decide) (by decide)
    have m := eit_mem (wgL x) (betS 1 20 x) (by simp [wgL]) (by simp [wgL])
    simp only [wgL, List.mem_cons, List.not_mem_nil, or_false] at m
    show 1 ≤ eitV (wgL x) _ ∧ eitV (wgL x) _ ≤ 20
    rcases m with m | m | m <;> rw [wgL, m] <;> omega
  c := by
    have b1 := bel_ge 50 (binX1 x) (by decide)
    have b2 := bel_lt 50 (binX1 x) (by decide) (by decide)
    show 0 ≤ belV 50 _ ∧ belV 50 _ ≤ 49
    omega
  g := bet_in 0 g (binX2 x) hg.1 (by decide) (by omega)
theorem binsL_ok (ls : List Int) (g : Int) (hg : 0 ≤ g ∧ g ≤ 1000) (hl : ∀ n ∈ ls, 20 ≤ n ∧ n ≤ 300) : ∀ (k : Nat) (x : Int), ∀ b ∈ binsL ls g k x, MkB ls.length g b
  | 0, x, b, h => by cases h
  | k + 1, x, b, h => by
    rcases List.mem_cons.1 h with rfl | h
    · exact binOf_ok ls g x hg hl
    · exact binsL_ok ls g hg hl k _ b h
theorem sumW_in (nl : Nat) (g : Int) (hg : 0 ≤ g ∧ g ≤ 1000) : ∀ (l : List MBin) (a : Int), (∀ b ∈ l, MkB nl g b) → 0 ≤ a → a + l.length * 20000 < 1000000000 → a ≤ sumW l a ∧ sumW l a ≤ a + l.length * (20 * g)
  | [], a, _, ha, hs => by simp [sumW]
  | b :: l, a, h, ha, hs => by
    have k := h b (by simp)
    have w1 : 0 ≤ b.w * b.g := Int.mul_nonneg (by have := k.w; omega) k.g.1
    have w2 : b.w * b.g ≤ 20 * g := Int.mul_le_mul k.w.2 k.g.2 k.g.1 (by decide)
    simp only [List.length_cons] at hs ⊢
    rw [show ((l.length + 1 : Nat) : Int) = (l.length : Int) + 1 by omega] at hs ⊢
    rw [Int.add_mul] at hs ⊢
    have e1 : wr (b.w * b.g) = b.w * b.g := wr_small (by omega) (by omega)
    have e2 : wr (a + b.w * b.g) = a + b.w * b.g := wr_small (by omega) (by omega)
    have q := sumW_in nl g hg l (a + b.w * b.g) (fun c hc => h c (by simp [hc])) (by omega) (by omega)
    simp only [sumW]
    rw [e1, e2]
    omega
/-- An order that the feed makes. -/
structure MkO (b m g : Int) (o : MOrd) : Prop where
  nl : (o.limits.length : Int) ≤ m
  lim : ∀ n ∈ o.limits, 20 ≤ n ∧ n ≤ 300
  nb : 1 ≤ o.bins.length ∧ (o.bins.length : Int) ≤ b
  bin : ∀ c ∈ o.bins, MkB o.limits.length g c
  lo : 0 ≤ o.least ∧ o.least ≤ o.most ∧ o.most ≤ 3000
theorem least_in (A y : Int) (hA : 0 ≤ A ∧ A ≤ 1200) : 0 ≤ belV (wr (A + 2)) y ∧ belV (wr (A + 2)) y ≤ 1201 := by
  have e1 : wr (A + 2) = A + 2 := wr_small (by omega) (by omega)
  have l1 := bel_ge (A + 2) y (by omega)
  have l2 := bel_lt (A + 2) y (by omega) (by omega)
  rw [e1]; omega
theorem most_in (A L y1 y2 y3 : Int) (hA : 0 ≤ A ∧ A ≤ 1200) (hL : 0 ≤ L ∧ L ≤ 1201) : L ≤ wr (L + eitV [0, belV 5 y1, belV (wr (A + 1)) y2] y3) ∧ wr (L + eitV [0, belV 5 y1, belV (wr (A + 1)) y2] y3) ≤ 3000 := by
  have e2 : wr (A + 1) = A + 1 := wr_small (by omega) (by omega)
  rw [e2]
  have m5 := eit_mem [0, belV 5 y1, belV (A + 1) y2] y3 (by simp) (by simp)
  have f1 := bel_ge 5 y1 (by omega)
  have f2 := bel_lt 5 y1 (by omega) (by omega)
  have f3 := bel_ge (A + 1) y2 (by omega)
  have f4 := bel_lt (A + 1) y2 (by omega) (by omega)
  have hE : 0 ≤ eitV [0, belV 5 y1, belV (A + 1) y2] y3 ∧ eitV [0, belV 5 y1, belV (A + 1) y2] y3 ≤ 1201 := by
    simp only [List.mem_cons, List.not_mem_nil, or_false] at m5
    generalize eitV [0, belV 5 y1, belV (A + 1) y2] y3 = t at *
    generalize belV 5 y1 = u at *
    generalize belV (A + 1) y2 = v at *
    omega
  generalize eitV [0, belV 5 y1, belV (A + 1) y2] y3 = t at *
  rw [wr_small (by omega) (by omega)]
  omega
theorem all_in (n : Nat) (g S b : Int) (hn : (n : Int) ≤ b) (hb : b ≤ 10) (hg : 0 ≤ g ∧ g ≤ 6) (h : 0 ≤ S ∧ S ≤ 0 + n * (20 * g)) : 0 ≤ S ∧ S ≤ 1200 := by
  have : (n : Int) * (20 * g) ≤ 10 * 120 := Int.mul_le_mul (by omega) (by omega) (by omega) (by omega)
  omega
theorem made (b m g x : Int) (hb : 1 ≤ b ∧ b ≤ 10) (hm : 0 ≤ m ∧ m ≤ 10) (hg : 0 ≤ g ∧ g ≤ 6) : MkO b m g (ordOf b m g x) := by
  have hg' : 0 ≤ g ∧ g ≤ 1000 := ⟨hg.1, by omega⟩
  have hl : ∀ n ∈ ooL m x, 20 ≤ n ∧ n ≤ 300 := limL_in _ _
  have hB : ∀ c ∈ ooB b m g x, MkB (ooL m x).length g c := binsL_ok _ g hg' hl _ _
  have nL : ((ooL m x).length : Int) ≤ m := by
    have e : (ooL m x).length = (belV (wr (m + 1)) x).toNat := limL_len _ _
    rw [e]
    have q1 : wr (m + 1) = m + 1 := wr_small (by omega) (by omega)
    have q2 := bel_ge (m + 1) x (by omega)
    have q3 := bel_lt (m + 1) x (by omega) (by omega)
    rw [q1]
    generalize belV (m + 1) x = t at *
    omega
  have nB : 1 ≤ (ooB b m g x).length ∧ ((ooB b m g x).length : Int) ≤ b := by
    have e : (ooB b m g x).length = (betV 1 b (ooX1 m x)).toNat := binsL_len _ _ _ _
    rw [e]
    have q6 := bet_in 1 b (ooX1 m x) hb.1 (by omega) (by omega)
    generalize betV 1 b (ooX1 m x) = t at *
    omega
  have hA : 0 ≤ ooA b m g x ∧ ooA b m g x ≤ 1200 :=
    all_in _ g _ b nB.2 hb.2 hg (sumW_in (ooL m x).length g hg' (ooB b m g x) 0 hB (by decide) (by have := nB.2; generalize (ooB b m g x).length = t at *; omega))
  have hL := least_in (ooA b m g x) (ooX3 b m g x) hA
  have hM := most_in (ooA b m g x) _ (ooX4 b m g x) (ooX5 b m g x) (ooX6 b m g x) hA hL
  exact ⟨nL, hl, nB, hB, hL.1, hM.1, hM.2⟩
theorem MkO.ok {b m g : Int} {o : MOrd} (h : MkO b m g o) (hb : b ≤ 4) (hm : m ≤ 3) (hg : g ≤ 6) : OkO o where
  nl := by have := h.nl; omega
  lim := fun n hn => by have := h.lim n hn; omega
  lo := by have := h.lo; omega
  ne := fun e => by have := h.nb.1; rw [e] at this; simp at this
  nb := by have := h.nb.2; omega
  bin := fun c hc => by
    have k := h.bin c hc
    exact ⟨k.len, fun r hr => by have := k.rng r hr; omega, by have := k.w; omega, by have := k.c; omega, by have := k.g; omega⟩
theorem rngsErr_0 : ∀ (l : List (Int × Int)), (∀ r ∈ l, 0 ≤ r.1 ∧ r.1 ≤ r.2 ∧ r.2 ≤ 1000000) → rngsErr l = 0
  | [], _ => rfl
  | r :: l, h => by
    have k := h r (by simp)
    have e : rngErr r = 0 := by
      unfold rngErr
      rw [if_neg, if_neg (by omega)]
      simp only [Bool.not_eq_false, Bool.and_eq_true, inB_iff]
      omega
    rw [rngsErr, if_pos e]
    exact rngsErr_0 l fun s hs => h s (by simp [hs])
theorem binErr_0 {nl : Nat} {b : MBin} (h : OkB nl b) : binErr nl b = 0 := by
  unfold binErr
  rw [if_pos h.len, if_pos (rngsErr_0 _ h.rng), if_pos]
  simp only [Bool.and_eq_true, inB_iff]
  exact ⟨⟨h.w, h.c⟩, h.g⟩
theorem binsErr_0 (nl : Nat) : ∀ (l : List MBin), (∀ b ∈ l, OkB nl b) → binsErr nl l = 0
  | [], _ => rfl
  | b :: l, h => by
    rw [binsErr, if_pos (binErr_0 (h b (by simp)))]
    exact binsErr_0 nl l fun c hc => h c (by simp [hc])
theorem ordErr_0 {o : MOrd} (h : OkO o) : ordErr o = 0 := by
  have h0 := h.nl
  have h1 := h.lo
  have h2 := h.nb
  have h3 := h.ne
  unfold ordErr
  rw [if_neg (by omega), if_neg, if_neg, if_neg (by omega), if_neg, if_neg (by omega)]
  · exact binsErr_0 _ _ h.bin
  · intro e; exact h3 (List.length_eq_zero_iff.1 e)
  · simp only [Bool.not_eq_false, Bool.and_eq_true, inB_iff]; omega
  · intro e
    simp only [anyBad, List.any_eq_true, Bool.not_eq_true'] at e
    obtain ⟨n, hn, e⟩ := e
    have := inB_iff.2 (h.lim n hn)
    rw [this] at e; cases e
/-- A blend that an order allows. -/
def okBl (o : MOrd) (l : List Int) : Prop := l.length = o.bins.length ∧ ∀ (i : Nat) (h : i < o.bins.length) (h' : i < l.length), 0 ≤ l[i] ∧ l[i] ≤ o.bins[i].g
theorem grabErr_0 (bins : List MBin) : ∀ (l : List Int) (i : Nat), l.length + i ≤ bins.length → (∀ (k : Nat) (h : i + k < bins.length) (h' : k < l.length), 0 ≤ l[k] ∧ l[k] ≤ bins[i + k].g) → grabErr bins l i = 0
  | [], i, _, _ => rfl
  | n :: l, i, h, hk => by
    simp only [List.length_cons] at h
    have hi : i < bins.length := by omega
    have k0 := hk 0 (by omega) (by simp)
    simp only [Nat.add_zero, List.getElem_cons_zero] at k0
    simp only [grabErr, List.getElem?_eq_getElem hi]
    rw [if_pos (inB_iff.2 k0)]
    refine grabErr_0 bins l (i + 1) (by omega) fun k h1 h2 => ?_
    have := hk (k + 1) (by omega) (by simp; omega)
    simpa [Nat.add_assoc, Nat.add_comm 1 k] using this
theorem blendErr_0 {o : MOrd} {l : List Int} (h : OkO o) (hl : okBl o l) : blendErr o l = 0 := by
  rw [blendErr, if_pos (ordErr_0 h), if_pos hl.1]
  exact grabErr_0 _ _ _ (by have := hl.1; omega) fun k h1 h2 => by simpa using hl.2 k (by omega) h2
theorem blendL_in (nl : Nat) : ∀ (bs : List MBin) (x : Int), (∀ b ∈ bs, OkB nl b) → ∀ (i : Nat) (h : i < bs.length) (h' : i < (blendL bs x).length), 0 ≤ (blendL bs x)[i] ∧ (blendL bs x)[i] ≤ bs[i].g
  | [], x, _, i, h, _ => by simp at h
  | b :: bs, x, hb, i, h, h' => by
    have k := (hb b (by simp)).g
    cases i with
    | zero =>
      have e : wr (b.g + 1) = b.g + 1 := wr_small (by omega) (by omega)
      have b1 := bel_ge (b.g + 1) x (by omega)
      have b2 := bel_lt (b.g + 1) x (by omega) (by omega)
      simp only [blendL, List.getElem_cons_zero]
      rw [e]; omega
    | succ i =>
      simp only [blendL, List.getElem_cons_succ]
      exact blendL_in nl bs _ (fun c hc => hb c (by simp [hc])) i (by simpa using h) (by simpa [blendL] using h')
theorem blendL_ok {o : MOrd} (h : OkO o) (x : Int) : okBl o (blendL o.bins x) := ⟨by simp, blendL_in _ _ _ h.bin⟩
end Go.Ev
end

section
set_option linter.all false
open Go Go.Ev Go.Proofs
namespace Go.Ev
set_option linter.unusedSimpArgs false
set_option linter.unusedVariables false


/-- The state of a feed made of a list. -/
def feedGo : List Int → Int → Int
  | [], x => x
  | n :: l, x => feedGo l (nxS (xorI .u64 x (IntKind.u64.wrap (IntKind.u64.wrap n * 15485907386658061715))))
def feedS (l : List Int) : Int := feedGo l 88172645463325252
def feedOfS (l : List Int) (p : Nat × Int) : St :=
  St.lit 30 [(0, .sl false false .U .no l.length (eInts l)), (3, .ptr (.own 6) 0), (4, .s (.int .i64 p.1))] [(6, [.s (.int .u64 p.2)])] [] []
attribute [simp] feedOfS

theorem feedOf_ok (l : List Int) (hl : (l.length : Int) < 9223372036854775807) : ACalls Tryz.prog 5 [.sl false false .U .no l.length (eInts l)] [] (.ret (.ptr (.own 6) 0) [] [(6, [.s (.int .u64 (feedS l))])]) := by
  refine acalls_of_ew Tryz.func5 rfl rfl (by simp [Tryz.f5]) (rs := [.tmp 2]) rfl ?_
  refine EW.seq fun Ψ0 n0 x0 => ?_
  refine EW.region gs_nil ?_
  simp
  refine n0 _ ?_; clear n0 x0
  refine EW.seq fun Ψ1 n1 x1 => ?_
  refine EW.region gs_nil ?_
  simp
  refine n1 _ ?_; clear n1 x1
  refine EW.seq fun Ψ2 n2 x2 => ?_
  refine EW.seq fun Ψ3 n3 x3 => ?_
  refine EW.region gs_nil ?_
  simp
  refine n3 _ ?_; clear n3 x3
  refine EW.block ?_
  refine EW.loopA (feedOfS l) (fun p => p.1 ≤ l.length ∧ feedGo (l.drop p.1) p.2 = feedS l) (fun p => l.length - p.1) (0, 88172645463325252) (St.le_lit rfl (by simp) (by simp) (by simp) (by simp) (by simp)) ?_ fun p hk => ?_
  · simp [feedS]
  obtain ⟨k, y⟩ := p
  obtain ⟨hk, hw⟩ := hk
  simp only at hk hw
  refine EW.seq fun Ψ4 n4 x4 => ?_
  refine EW.seq fun Ψ5 n5 x5 => ?_
  refine EW.region gs_nil ?_
  simp
  refine n5 _ ?_; clear n5 x5
  refine EW.cond (t := _) (by rfl) (fun hc10 => ?_) (fun hc10 => ?_)
  · simp at hc10
    have e1 : l[k]? = some l[k] := List.getElem?_eq_getElem hc10
    refine EW.skip ?_
    refine n4 _ ?_; clear n4 x4
    refine EW.seq fun Ψ6 n6 x6 => ?_
    refine EW.block ?_
    refine EW.seq fun Ψ7 n7 x7 => ?_
    refine EW.drawn [] mixed gs_nil (by kernel_rfl) ?_
    simp [hc10, e1, conv_int _ _ _ _ _ _ Tryz.underlying3 Tryz.underlying55]
    refine n7 _ ?_; clear n7 x7
    refine EW.hide fun Ψ8 n8 => ?_
    refine EW.region (gG_ok gs_nil) ?_
    simp
    refine n8 _ _ ?_; clear n8
    refine n6 _ ?_; clear n6 x6
    refine EW.hide fun Ψ9 n9 => ?_
    refine EW.region gs_nil ?_
    simp
    refine n9 _ _ ?_; clear n9
    have e3 : IntKind.i64.wrap ((k : Int) + 1) = k + 1 := wr_small (by omega) (by omega)
    refine ⟨(k + 1, nxS (xorI .u64 y (IntKind.u64.wrap (IntKind.u64.wrap l[k] * 15485907386658061715)))), (St.le_lit rfl (by simp [e3]) (by simp) (by simp) (by simp) (by simp)), ?_, ?_⟩
    · refine ⟨hc10, ?_⟩
      rw [← hw, List.drop_eq_getElem_cons hc10]
      rfl
    · simp; omega
  · simp at hc10
    have hkl : k = l.length := by omega
    subst hkl
    simp [feedGo] at hw
    refine EW.exit ?_
    refine x4 _ _ rfl ?_; clear n4 x4
    refine n2 _ ?_; clear n2 x2
    refine EW.seq fun Ψ10 n10 x10 => ?_
    refine EW.region gs_nil ?_
    simp
    refine n10 _ ?_; clear n10 x10
    refine EW.ret ?_
    refine ⟨_, _, _, rfl, ?_, ?_, ?_, ?_, ?_⟩ <;> simp [hw]

end Go.Ev
end

section
set_option linter.all false
open Go Go.Ev Go.Proofs
namespace Go.Ev
set_option linter.unusedSimpArgs false
set_option linter.unusedVariables false


/-- What each grab of a blend has of each metal, if all have the least (or the most). -/
def endG (q : Bool) : List MBin → List Int → List (List Int)
  | b :: bs, n :: l => List.replicate n.toNat (b.grams.map (endR q)) ++ endG q bs l
  | _, _ => []
@[simp] theorem endG_nil (q : Bool) (bs : List MBin) : endG q bs [] = [] := by cases bs <;> rfl
theorem endG_len (q : Bool) : ∀ (bs : List MBin) (l : List Int), (endG q bs l).length = (gwL bs l).length
  | b :: bs, n :: l => by simp [endG, gwL, endG_len q bs l]
  | [], [] => rfl
  | [], _ :: _ => rfl
  | _ :: _, [] => rfl
theorem endG_mem {nl : Nat} : ∀ {bs : List MBin}, (∀ b ∈ bs, OkB nl b) → ∀ (l : List Int) (q : Bool), ∀ g ∈ endG q bs l, g.length = nl
  | [], _, [], _, g, hg => by simp at hg
  | [], _, _ :: _, _, g, hg => by simp [endG] at hg
  | b :: bs, _, [], _, g, hg => by simp at hg
  | b :: bs, h, n :: l, q, g, hg => by
    rw [endG, List.mem_append] at hg
    rcases hg with hg | hg
    · rw [(List.mem_replicate.1 hg).2, List.length_map]
      exact (h b (by simp)).len
    · exact endG_mem (fun c hc => h c (by simp [hc])) l q g hg
def enE (o : MOrd) (l : List Int) (v e : Int) (A B : List (List Int)) (r : List (Nat × AV)) : List (Nat × AV) := (3, .ptr (.own 17006) 0) :: (4, .ptr (.own 4) 0) :: (5, .sl false false .U .no l.length (eInts l)) :: (6, .s (.int .i64 v)) :: (7, .s (.int .i64 e)) :: (8, .sl false false .Z (.tok 78) A.length (eLL A)) :: (9, .sl false false .Z (.tok 82) B.length (eLL B)) :: r
def enS0 (o : MOrd) (l : List Int) (v e x : Int) (p : Nat × List (List Int) × List (List Int)) : St :=
  St.lit 107 (enE o l v e p.2.1 p.2.2 [(10, .s (.int .i64 p.1))]) [(17006, [.s (.int .u64 x)]), (4, aOrdC o)] [] [(78, (p.2.1.length, 1)), (82, (p.2.2.length, 1))]
def enS1 (o : MOrd) (l : List Int) (v e x : Int) (i : Nat) (p : Nat × List (List Int) × List (List Int)) : St :=
  St.lit 107 (enE o l v e p.2.1 p.2.2 [(10, .s (.int .i64 i)), (11, .s (.int .i64 p.1))]) [(17006, [.s (.int .u64 x)]), (4, aOrdC o)] [] [(78, (p.2.1.length, 1)), (82, (p.2.2.length, 1))]
def enS2 (o : MOrd) (l : List Int) (v e x : Int) (i k : Nat) (A B : List (List Int)) (p : Nat × List Int × List Int) : St :=
  St.lit 107 (enE o l v e A B [(10, .s (.int .i64 i)), (11, .s (.int .i64 k)), (14, .s (.int .i64 p.1)), (12, .sl false false .Z (.tok 61) p.2.1.length (eInts p.2.1)), (13, .sl false false .Z (.tok 74) p.2.2.length (eInts p.2.2))]) [(17006, [.s (.int .u64 x)]), (4, aOrdC o)] [] [(78, (A.length, 1)), (82, (B.length, 1)), (61, (p.2.1.length, 1)), (74, (p.2.2.length, 1))]
attribute [simp] enE enS0 enS1 enS2

end Go.Ev
end

section
set_option linter.all false
open Go Go.Ev Go.Proofs
namespace Go.Ev
set_option linter.unusedSimpArgs false
set_option linter.unusedVariables false

/-! ### Sums without bounds -/
def sumZ (j : Nat) (m : Int) : List Int → List (List Int) → Int
  | w :: ws, g :: gs => w * (g.getD j 0 - m) + sumZ j m ws gs
  | _, _ => 0
theorem mulB (w d W D : Int) (h1 : 0 ≤ w) (h2 : w ≤ W) (h3 : -D ≤ d) (h4 : d ≤ D) (hD : 0 ≤ D) : -(W * D) ≤ w * d ∧ w * d ≤ W * D := by
  have a1 : w * d ≤ w * D := Int.mul_le_mul_of_nonneg_left h4 h1
  have a2 : w * D ≤ W * D := Int.mul_le_mul_of_nonneg_right h2 hD
  have a3 : w * -D ≤ w * d := Int.mul_le_mul_of_nonneg_left h3 h1
  rw [Int.mul_neg] at a3
  omega
theorem sumG_eq (j : Nat) (m : Int) (hm : 0 ≤ m ∧ m ≤ 1000000) : ∀ (ws : List Int) (gs : List (List Int)) (s : Int), (∀ w ∈ ws, 0 ≤ w ∧ w ≤ 10000) → (∀ g ∈ gs, 0 ≤ g.getD j 0 ∧ g.getD j 0 ≤ 1000000) →
    -1000000000000000000 ≤ s - ws.length * 10000000000 → s + ws.length * 10000000000 ≤ 1000000000000000000 → sumG j m ws gs s = s + sumZ j m ws gs
  | [], gs, s, _, _, _, _ => by cases gs <;> simp [sumG, sumZ]
  | w :: ws, [], s, _, _, _, _ => by simp [sumG, sumZ]
  | w :: ws, g :: gs, s, hw, hg, h1, h2 => by
    have w1 := hw w (by simp)
    have g1 := hg g (by simp)
    simp only [sumG, sumZ]
    simp only [List.length_cons] at h1 h2
    generalize g.getD j 0 = x at *
    have e1 : wr (x - m) = x - m := wr_small (by omega) (by omega)
    have b := mulB w (x - m) 10000 1000000 w1.1 w1.2 (by omega) (by omega) (by decide)
    rw [e1]
    generalize w * (x - m) = p at *
    have e2 : wr p = p := wr_small (by omega) (by omega)
    have e3 : wr (s + p) = s + p := wr_small (by omega) (by omega)
    rw [e2, e3, sumG_eq j m hm ws gs (s + p) (fun v hv => hw v (by simp [hv])) (fun v hv => hg v (by simp [hv])) (by omega) (by omega)]
    omega
theorem sumZ_rep (j : Nat) (m w : Int) (g : List Int) (W : List Int) (G : List (List Int)) : ∀ k : Nat, sumZ j m (List.replicate k w ++ W) (List.replicate k g ++ G) = k * w * (g.getD j 0 - m) + sumZ j m W G
  | 0 => by simp
  | k + 1 => by
    rw [List.replicate_succ, List.replicate_succ, List.cons_append, List.cons_append, sumZ, sumZ_rep j m w g W G k, show ((k + 1 : Nat) : Int) * w * (g.getD j 0 - m) = (k : Int) * w * (g.getD j 0 - m) + w * (g.getD j 0 - m) by rw [← Int.add_mul]; congr 1; rw [show ((k + 1 : Nat) : Int) = (k : Int) + 1 by omega, Int.add_mul, Int.one_mul]]
    omega
/-- By how much a blend is beyond a limit. -/
def beyZ (q : Bool) (j : Nat) (m : Int) : List MBin → List Int → Int
  | b :: bs, n :: l => n * b.w * (endR q (b.grams.getD j (0, 0)) - m) + beyZ q j m bs l
  | _, _ => 0
theorem endR_getD (q : Bool) (l : List (Int × Int)) (j : Nat) : (l.map (endR q)).getD j 0 = endR q (l.getD j (0, 0)) := by
  rw [List.getD_eq_getElem?_getD, List.getD_eq_getElem?_getD, List.getElem?_map]
  cases l[j]? with
  | none => cases q <;> rfl
  | some x => rfl
/-- The grabs of a blend are not below 0. -/
def posL (l : List Int) : Prop := ∀ n ∈ l, 0 ≤ n ∧ n ≤ 6
theorem sumZ_end (q : Bool) (j : Nat) (m : Int) : ∀ (bs : List MBin) (l : List Int), posL l → sumZ j m (gwL bs l) (endG q bs l) = beyZ q j m bs l
  | b :: bs, n :: l, h => by
    have hn := h n (by simp)
    rw [gwL, endG, sumZ_rep, beyZ, endR_getD, sumZ_end q j m bs l fun k hk => h k (by simp [hk]), show (n.toNat : Int) = n by omega]
  | [], [], _ => rfl
  | [], _ :: _, _ => rfl
  | _ :: _, [], _ => rfl
theorem endR_in {q : Bool} {r : Int × Int} (h : 0 ≤ r.1 ∧ r.1 ≤ r.2 ∧ r.2 ≤ 1000000) : 0 ≤ endR q r ∧ endR q r ≤ 1000000 := by
  cases q <;> simp [endR] <;> omega
theorem beyL_eq (q : Bool) (lims : List Int) (bins : List MBin) (nl j : Nat) (hB : ∀ b ∈ bins, OkB nl b) (hn : nl = lims.length) (hj : j < lims.length) (hm : ∀ n ∈ lims, 0 ≤ n ∧ n ≤ 1000000) : ∀ (l : List Int) (i : Nat) (s : Int), posL l → l.length + i ≤ bins.length →
    -1000000000000000000 ≤ s - l.length * 60000000000 → s + l.length * 60000000000 ≤ 1000000000000000000 → beyL q lims bins j l i s = s + beyZ q j lims[j] (bins.drop i) l
  | [], i, s, _, _, _, _ => by cases bins.drop i <;> simp [beyL, beyZ]
  | n :: l, i, s, hl, hi, h1, h2 => by
    simp only [List.length_cons] at hi h1 h2
    have n1 := hl n (by simp)
    have hib : i < bins.length := by omega
    have kb := hB _ (List.getElem_mem hib)
    have hjg : j < bins[i].grams.length := by rw [kb.len]; omega
    have m1 := hm _ (List.getElem_mem hj)
    have r1 := @endR_in q _ (kb.rng _ (List.getElem_mem hjg))
    rw [List.drop_eq_getElem_cons hib, beyZ]
    simp only [beyL, List.getElem?_eq_getElem hib, List.getElem?_eq_getElem hjg, List.getElem?_eq_getElem hj, List.getD_eq_getElem?_getD, Option.getD_some]
    have w1 := kb.w
    generalize endR q bins[i].grams[j] = x at *
    have e1 : wr (x - lims[j]) = x - lims[j] := wr_small (by omega) (by omega)
    have a := mulB n bins[i].w 6 10000 n1.1 n1.2 (by omega) w1.2 (by decide)
    have a0 : 0 ≤ n * bins[i].w := Int.mul_nonneg n1.1 (by omega)
    rw [e1]
    generalize n * bins[i].w = p at *
    have e2 : wr p = p := wr_small (by omega) (by omega)
    have b := mulB p (x - lims[j]) 60000 1000000 a0 (by omega) (by omega) (by omega) (by decide)
    rw [e2]
    generalize p * (x - lims[j]) = t at *
    have e3 : wr t = t := wr_small (by omega) (by omega)
    have e4 : wr (s + t) = s + t := wr_small (by omega) (by omega)
    rw [e3, e4, beyL_eq q lims bins nl j hB hn hj hm l (i + 1) (s + t) (fun k hk => hl k (by simp [hk])) (by omega) (by omega) (by omega)]
    omega
theorem beyZ_mono (j : Nat) (m : Int) (nl : Nat) : ∀ (bs : List MBin) (l : List Int), (∀ b ∈ bs, OkB nl b) → posL l → beyZ false j m bs l ≤ beyZ true j m bs l
  | b :: bs, n :: l, hB, h => by
    have ih := beyZ_mono j m nl bs l (fun c hc => hB c (by simp [hc])) fun k hk => h k (by simp [hk])
    have kb := hB b (by simp)
    have hn := h n (by simp)
    have a0 : 0 ≤ n * b.w := Int.mul_nonneg hn.1 (by have := kb.w; omega)
    have r : (b.grams.getD j (0, 0)).1 ≤ (b.grams.getD j (0, 0)).2 := by
      rw [List.getD_eq_getElem?_getD]
      by_cases hj : j < b.grams.length
      · rw [List.getElem?_eq_getElem hj]; exact (kb.rng _ (List.getElem_mem hj)).2.1
      · rw [List.getElem?_eq_none (by omega)]; exact Int.le_refl _
    have := Int.mul_le_mul_of_nonneg_left (show endR false (b.grams.getD j (0, 0)) - m ≤ endR true (b.grams.getD j (0, 0)) - m by simp only [endR, Bool.false_eq_true, if_false, if_true]; omega) a0
    simp only [beyZ]
    omega
  | [], [], _, _ => by simp [beyZ]
  | [], _ :: _, _, _ => by simp [beyZ]
  | _ :: _, [], _, _ => by simp [beyZ]
/-! ### What Keeps says -/
theorem keepL_1 (o : MOrd) (l : List Int) : ∀ (n j : Nat) (v : Int), v = 1 ∨ v = 3 → (keepL o l n j v = 1 ↔ v = 1 ∧ ∀ k, k < n → ¬ 0 < beyL false o.limits o.bins (j + k) l 0 0 ∧ ¬ 0 < beyL true o.limits o.bins (j + k) l 0 0)
  | 0, j, v, _ => by simp [keepL]
  | n + 1, j, v, hv => by
    simp only [keepL]
    split
    · rename_i h
      constructor
      · intro h'; omega
      · intro ⟨_, h'⟩; exact absurd h (h' 0 (by omega)).1
    · rename_i h
      rw [keepL_1 o l n (j + 1) _ (by split <;> simp [hv])]
      constructor
      · intro ⟨h1, h2⟩
        split at h1
        · omega
        · rename_i h3
          refine ⟨h1, fun k hk => ?_⟩
          cases k with
          | zero => exact ⟨h, h3⟩
          | succ k => have := h2 k (by omega); rwa [show j + 1 + k = j + (k + 1) by omega] at this
      · intro ⟨h1, h2⟩
        refine ⟨by rw [if_neg (show ¬ 0 < beyL true o.limits o.bins j l 0 0 from (h2 0 (by omega)).2)]; exact h1, fun k hk => ?_⟩
        have := h2 (k + 1) (by omega)
        rwa [show j + (k + 1) = j + 1 + k by omega] at this
theorem keepL_2 (o : MOrd) (l : List Int) : ∀ (n j : Nat) (v : Int), v = 1 ∨ v = 3 → (keepL o l n j v = 2 ↔ ∃ k, k < n ∧ 0 < beyL false o.limits o.bins (j + k) l 0 0)
  | 0, j, v, hv => by simp [keepL]; omega
  | n + 1, j, v, hv => by
    simp only [keepL]
    split
    · rename_i h
      exact ⟨fun _ => ⟨0, by omega, h⟩, fun _ => rfl⟩
    · rename_i h
      rw [keepL_2 o l n (j + 1) _ (by split <;> simp [hv])]
      constructor
      · rintro ⟨k, hk, h2⟩
        exact ⟨k + 1, by omega, by rwa [show j + (k + 1) = j + 1 + k by omega]⟩
      · rintro ⟨k, hk, h2⟩
        cases k with
        | zero => exact absurd h2 h
        | succ k => exact ⟨k, by omega, by rwa [show j + 1 + k = j + (k + 1) by omega]⟩
theorem keepL_in (o : MOrd) (l : List Int) : ∀ (n j : Nat) (v : Int), v = 1 ∨ v = 3 → 1 ≤ keepL o l n j v ∧ keepL o l n j v ≤ 3
  | 0, j, v, hv => by simp [keepL]; omega
  | n + 1, j, v, hv => by
    simp only [keepL]
    split
    · omega
    · exact keepL_in o l n (j + 1) _ (by split <;> simp [hv])
theorem keptL_iff (ws : List Int) (gs : List (List Int)) : ∀ (r : List Int) (j : Nat), keptL ws gs r j = true ↔ ∀ (k : Nat) (h : k < r.length), ¬ 0 < sumG (j + k) r[k] ws gs 0
  | [], j => by simp [keptL]
  | m :: r, j => by
    simp only [keptL]
    split
    · rename_i h
      exact ⟨fun h' => (Bool.noConfusion h'), fun h' => absurd h (h' 0 (by simp))⟩
    · rename_i h
      rw [keptL_iff ws gs r (j + 1)]
      constructor
      · intro h' k hk
        cases k with
        | zero => exact h
        | succ k => have := h' k (by simpa using hk); rwa [show j + 1 + k = j + (k + 1) by omega] at this
      · intro h' k hk
        have := h' (k + 1) (by simpa using hk)
        rwa [show j + (k + 1) = j + 1 + k by omega] at this
theorem okBl.pos {o : MOrd} {l : List Int} (k : OkO o) (h : okBl o l) : posL l := by
  intro n hn
  obtain ⟨i, hi, rfl⟩ := List.getElem_of_mem hn
  have q1 := h.2 i (by rw [← h.1]; exact hi) hi
  have q2 := (k.bin _ (List.getElem_mem (show i < o.bins.length by rw [← h.1]; exact hi))).g
  omega
theorem gwL_in (nl : Nat) : ∀ (bs : List MBin) (l : List Int), (∀ b ∈ bs, OkB nl b) → posL l → (∀ w ∈ gwL bs l, 0 ≤ w ∧ w ≤ 10000) ∧ (gwL bs l).length ≤ 6 * l.length
  | b :: bs, n :: l, hB, h => by
    have ih := gwL_in nl bs l (fun c hc => hB c (by simp [hc])) fun k hk => h k (by simp [hk])
    have hn := h n (by simp)
    have kb := (hB b (by simp)).w
    refine ⟨fun w hw => ?_, ?_⟩
    · rw [gwL, List.mem_append] at hw
      rcases hw with hw | hw
      · rw [(List.mem_replicate.1 hw).2]; omega
      · exact ih.1 w hw
    · simp only [gwL, List.length_append, List.length_replicate, List.length_cons]
      have := ih.2
      omega
  | [], [], _, _ => by simp [gwL]
  | [], _ :: _, _, _ => by simp [gwL]
  | _ :: _, [], _, _ => by simp
/-- What truly is in the grabs. -/
def leG (j : Nat) : List (List Int) → List (List Int) → Prop
  | a :: A, b :: B => a.getD j 0 ≤ b.getD j 0 ∧ leG j A B
  | [], [] => True
  | _, _ => False
theorem leG_same (j : Nat) : ∀ A, leG j A A
  | [] => trivial
  | a :: A => ⟨Int.le_refl _, leG_same j A⟩
theorem sumZ_mono (j : Nat) (m : Int) : ∀ (ws : List Int) (A B : List (List Int)), (∀ w ∈ ws, 0 ≤ w ∧ w ≤ 10000) → leG j A B → sumZ j m ws A ≤ sumZ j m ws B
  | [], A, B, _, _ => by simp [sumZ]
  | w :: ws, [], [], _, _ => by simp [sumZ]
  | w :: ws, a :: A, b :: B, hw, h => by
    have ih := sumZ_mono j m ws A B (fun v hv => hw v (by simp [hv])) h.2
    have := Int.mul_le_mul_of_nonneg_left (show a.getD j 0 - m ≤ b.getD j 0 - m by have := h.1; omega) (hw w (by simp)).1
    simp only [sumZ]
    omega
  | _ :: _, [], _ :: _, _, h => h.elim
  | _ :: _, _ :: _, [], _, h => h.elim
structure inG (o : MOrd) (l : List Int) (gs : List (List Int)) : Prop where
  lo : ∀ j, leG j (endG false o.bins l) gs
  hi : ∀ j, leG j gs (endG true o.bins l)
  sz : ∀ j, ∀ g ∈ gs, 0 ≤ g.getD j 0 ∧ g.getD j 0 ≤ 1000000
section
variable {o : MOrd} {l : List Int} (k : OkO o) (kb : okBl o l)
include k kb
theorem gw_lt : (gwL o.bins l).length < 1000000 := by
  have := (gwL_in _ o.bins l k.bin (kb.pos k)).2
  have := k.nb
  have := kb.1
  omega
theorem bey_Z (q : Bool) (j : Nat) (hj : j < o.limits.length) : beyL q o.limits o.bins j l 0 0 = beyZ q j o.limits[j] o.bins l := by
  have e1 := k.nb
  have e2 := kb.1
  rw [beyL_eq q o.limits o.bins _ j k.bin rfl hj k.lim l 0 0 (kb.pos k) (by omega) (by omega) (by omega)]
  simp
theorem sum_Z {gs : List (List Int)} (h : inG o l gs) (j : Nat) (hj : j < o.limits.length) : sumG j o.limits[j] (gwL o.bins l) gs 0 = sumZ j o.limits[j] (gwL o.bins l) gs := by
  have w := gwL_in _ o.bins l k.bin (kb.pos k)
  have e1 := k.nb
  have e2 := kb.1
  have e3 := w.2
  rw [sumG_eq j _ (k.lim _ (List.getElem_mem hj)) _ _ 0 w.1 (h.sz j) (by omega) (by omega)]
  omega
theorem sum_in {gs : List (List Int)} (h : inG o l gs) (j : Nat) (hj : j < o.limits.length) : beyL false o.limits o.bins j l 0 0 ≤ sumG j o.limits[j] (gwL o.bins l) gs 0 ∧ sumG j o.limits[j] (gwL o.bins l) gs 0 ≤ beyL true o.limits o.bins j l 0 0 := by
  have w := gwL_in _ o.bins l k.bin (kb.pos k)
  rw [sum_Z k kb h j hj, bey_Z k kb false j hj, bey_Z k kb true j hj, ← sumZ_end false _ _ _ _ (kb.pos k), ← sumZ_end true _ _ _ _ (kb.pos k)]
  exact ⟨sumZ_mono j _ _ _ _ w.1 (h.lo j), sumZ_mono j _ _ _ _ w.1 (h.hi j)⟩
theorem kept_1 {gs : List (List Int)} (h : inG o l gs) (hv : keepV o l = 1) : keptV o l gs = true := by
  have e := (keepL_1 o l _ 0 1 (Or.inl rfl)).1 hv
  refine (keptL_iff _ _ _ 0).2 fun j hj => ?_
  have a := (e.2 j hj).2
  have b := (sum_in k kb h j hj).2
  rw [Nat.zero_add] at a ⊢
  omega
theorem kept_2 {gs : List (List Int)} (h : inG o l gs) (hv : keepV o l = 2) : keptV o l gs = false := by
  obtain ⟨j, hj, a⟩ := (keepL_2 o l _ 0 1 (Or.inl rfl)).1 hv
  have b := (sum_in k kb h j hj).1
  rw [← Bool.not_eq_true]
  intro hk
  have := (keptL_iff _ _ _ 0).1 hk j hj
  rw [Nat.zero_add] at a this
  omega
end
theorem leG_app {j : Nat} : ∀ {A B C D : List (List Int)}, leG j A B → leG j C D → leG j (A ++ C) (B ++ D)
  | [], [], _, _, _, h => h
  | a :: A, b :: B, _, _, h, h' => ⟨h.1, leG_app h.2 h'⟩
  | [], _ :: _, _, _, h, _ => h.elim
  | _ :: _, [], _, _, h, _ => h.elim
theorem leG_rep {j : Nat} {a b : List Int} (h : a.getD j 0 ≤ b.getD j 0) : ∀ n : Nat, leG j (List.replicate n a) (List.replicate n b)
  | 0 => trivial
  | n + 1 => ⟨h, leG_rep h n⟩
theorem getD_in {nl : Nat} {b : MBin} (kb : OkB nl b) (j : Nat) : 0 ≤ (b.grams.getD j (0, 0)).1 ∧ (b.grams.getD j (0, 0)).1 ≤ (b.grams.getD j (0, 0)).2 ∧ (b.grams.getD j (0, 0)).2 ≤ 1000000 := by
  rw [List.getD_eq_getElem?_getD]
  by_cases hj : j < b.grams.length
  · rw [List.getElem?_eq_getElem hj]; exact kb.rng _ (List.getElem_mem hj)
  · rw [List.getElem?_eq_none (by omega)]; exact ⟨Int.le_refl _, Int.le_refl _, by decide⟩
theorem endG_sz (q : Bool) (j nl : Nat) : ∀ (bs : List MBin) (l : List Int), (∀ b ∈ bs, OkB nl b) → ∀ g ∈ endG q bs l, 0 ≤ g.getD j 0 ∧ g.getD j 0 ≤ 1000000
  | b :: bs, n :: l, hB, g, hg => by
    rw [endG, List.mem_append] at hg
    rcases hg with hg | hg
    · rw [(List.mem_replicate.1 hg).2, endR_getD]
      exact endR_in (getD_in (hB b (by simp)) j)
    · exact endG_sz q j nl bs l (fun c hc => hB c (by simp [hc])) g hg
  | [], [], _, g, hg => by simp at hg
  | [], _ :: _, _, g, hg => by simp [endG] at hg
  | _ :: _, [], _, g, hg => by simp at hg
theorem endG_le (j nl : Nat) : ∀ (bs : List MBin) (l : List Int), (∀ b ∈ bs, OkB nl b) → leG j (endG false bs l) (endG true bs l)
  | b :: bs, n :: l, hB => by
    refine leG_app (leG_rep ?_ _) (endG_le j nl bs l fun c hc => hB c (by simp [hc]))
    rw [endR_getD, endR_getD]
    exact (getD_in (hB b (by simp)) j).2.1
  | [], [], _ => trivial
  | [], _ :: _, _ => trivial
  | _ :: _, [], _ => by simp [leG]
theorem endG_in {o : MOrd} (k : OkO o) (l : List Int) (q : Bool) : inG o l (endG q o.bins l) where
  lo := fun j => by cases q; exact leG_same _ _; exact endG_le j _ _ _ k.bin
  hi := fun j => by cases q; exact endG_le j _ _ _ k.bin; exact leG_same _ _
  sz := fun j => endG_sz q j _ _ _ k.bin
theorem ends_1 {o : MOrd} {l : List Int} (k : OkO o) (kb : okBl o l) : decide (keepV o l = 1) = keptV o l (endG true o.bins l) := by
  by_cases h : keepV o l = 1
  · rw [kept_1 k kb (endG_in k l true) h]; simp [h]
  · rw [decide_eq_false h]
    symm
    rw [← Bool.not_eq_true]
    intro h'
    apply h
    refine (keepL_1 o l _ 0 1 (Or.inl rfl)).2 ⟨rfl, fun j hj => ?_⟩
    have a := (keptL_iff _ _ _ 0).1 h' j hj
    rw [Nat.zero_add] at a ⊢
    have e : beyL true o.limits o.bins j l 0 0 = sumG j o.limits[j] (gwL o.bins l) (endG true o.bins l) 0 := by
      rw [sum_Z k kb (endG_in k l true) j hj, bey_Z k kb true j hj, sumZ_end true _ _ _ _ (kb.pos k)]
    have b := (sum_in k kb (endG_in k l true) j hj).1
    rw [e]
    omega
theorem ends_2 {o : MOrd} {l : List Int} (k : OkO o) (kb : okBl o l) : decide (keepV o l = 2) = !keptV o l (endG false o.bins l) := by
  by_cases h : keepV o l = 2
  · rw [kept_2 k kb (endG_in k l false) h]; simp [h]
  · rw [decide_eq_false h]
    symm
    rw [Bool.not_eq_false']
    refine (keptL_iff _ _ _ 0).2 fun j hj h' => h ?_
    refine (keepL_2 o l _ 0 1 (Or.inl rfl)).2 ⟨j, hj, ?_⟩
    rw [Nat.zero_add] at h' ⊢
    rw [bey_Z k kb false j hj, ← sumZ_end false _ _ _ _ (kb.pos k), ← sum_Z k kb (endG_in k l false) j hj]
    exact h'
end Go.Ev
end

section
set_option linter.all false
open Go Go.Ev Go.Proofs
namespace Go.Ev
set_option linter.unusedSimpArgs false
set_option linter.unusedVariables false


/-- What each grab of a blend truly has. -/
def grabL : List (Int × Int) → Int → List Int
  | [], _ => []
  | r :: l, x => inV r.1 r.2 x :: grabL l (inS r.1 r.2 x)
def grabS : List (Int × Int) → Int → Int
  | [], x => x
  | r :: l, x => grabS l (inS r.1 r.2 x)
def repG (g : List (Int × Int)) : Nat → Int → List (List Int)
  | 0, _ => []
  | k + 1, x => grabL g x :: repG g k (grabS g x)
def repS (g : List (Int × Int)) : Nat → Int → Int
  | 0, x => x
  | k + 1, x => repS g k (grabS g x)
def gramL : List MBin → List Int → Int → List (List Int)
  | b :: bs, n :: l, x => repG b.grams n.toNat x ++ gramL bs l (repS b.grams n.toNat x)
  | _, _, _ => []
def gramS : List MBin → List Int → Int → Int
  | b :: bs, n :: l, x => gramS bs l (repS b.grams n.toNat x)
  | _, _, x => x
@[simp] theorem gramL_nil (bs : List MBin) (x : Int) : gramL bs [] x = [] := by cases bs <;> rfl
@[simp] theorem gramS_nil (bs : List MBin) (x : Int) : gramS bs [] x = x := by cases bs <;> rfl
@[simp] theorem grabL_len : ∀ (g : List (Int × Int)) (x : Int), (grabL g x).length = g.length
  | [], _ => rfl
  | r :: g, x => by simp [grabL, grabL_len g]
@[simp] theorem repG_len (g : List (Int × Int)) : ∀ (k : Nat) (x : Int), (repG g k x).length = k
  | 0, _ => rfl
  | k + 1, x => by simp [repG, repG_len g k]
theorem gramL_len : ∀ (bs : List MBin) (l : List Int) (x : Int), (gramL bs l x).length = (gwL bs l).length
  | b :: bs, n :: l, x => by simp [gramL, gwL, gramL_len bs l]
  | [], [], _ => rfl
  | [], _ :: _, _ => rfl
  | _ :: _, [], _ => rfl
def grE0 (l : List Int) (A : List (List Int)) (r : List (Nat × AV)) : List (Nat × AV) := (0, .ptr (.ext 0) 0) :: (2, .sl false false .U .no l.length (eInts l)) :: (4, .ptr (.own 4) 0) :: (7, .sl false false .Z (.tok 50) A.length (eLL A)) :: r
def grS0 (o : MOrd) (l : List Int) (p : Nat × List (List Int) × Int) : St :=
  St.lit 52 (grE0 l p.2.1 [(8, .s (.int .i64 p.1))]) [(4, aOrdC o)] [[.s (.int .u64 p.2.2)]] [(50, (p.2.1.length, 1))]
def grS1 (o : MOrd) (l : List Int) (i : Nat) (p : Nat × List (List Int) × Int) : St :=
  St.lit 52 (grE0 l p.2.1 [(8, .s (.int .i64 i)), (9, .s (.int .i64 p.1))]) [(4, aOrdC o)] [[.s (.int .u64 p.2.2)]] [(50, (p.2.1.length, 1))]
def grS2 (o : MOrd) (l : List Int) (i k : Nat) (A : List (List Int)) (p : Nat × List Int × Int) : St :=
  St.lit 52 (grE0 l A [(8, .s (.int .i64 i)), (9, .s (.int .i64 k)), (11, .s (.int .i64 p.1)), (10, .sl false false .Z (.tok 46) p.2.1.length (eInts p.2.1))]) [(4, aOrdC o)] [[.s (.int .u64 p.2.2)]] [(50, (A.length, 1)), (46, (p.2.1.length, 1))]
attribute [simp] grE0 grS0 grS1 grS2

theorem grab_in : ∀ (g : List (Int × Int)) (x : Int) (j : Nat), (∀ r ∈ g, 0 ≤ r.1 ∧ r.1 ≤ r.2 ∧ r.2 ≤ 1000000) → (g.getD j (0, 0)).1 ≤ (grabL g x).getD j 0 ∧ (grabL g x).getD j 0 ≤ (g.getD j (0, 0)).2
  | [], x, j, _ => by simp [grabL]
  | r :: g, x, 0, h => by
    have k := h r (by simp)
    have q := inV_in r.1 r.2 x k.2.1 (by omega) (by omega)
    rw [grabL, List.getD_cons_zero, List.getD_cons_zero]
    exact q
  | r :: g, x, j + 1, h => by
    have q := grab_in g (inS r.1 r.2 x) j fun s hs => h s (by simp [hs])
    rw [grabL, List.getD_cons_succ, List.getD_cons_succ]
    exact q
theorem repG_in (j : Nat) (g : List (Int × Int)) (h : ∀ r ∈ g, 0 ≤ r.1 ∧ r.1 ≤ r.2 ∧ r.2 ≤ 1000000) : ∀ (k : Nat) (x : Int), leG j (List.replicate k (g.map (endR false))) (repG g k x) ∧ leG j (repG g k x) (List.replicate k (g.map (endR true)))
  | 0, _ => ⟨trivial, trivial⟩
  | k + 1, x => by
    have a := grab_in g x j h
    have b := repG_in j g h k (grabS g x)
    rw [List.replicate_succ, List.replicate_succ, repG]
    refine ⟨⟨?_, b.1⟩, ⟨?_, b.2⟩⟩
    · rw [endR_getD]; exact a.1
    · rw [endR_getD]; exact a.2
theorem gramL_in (j nl : Nat) : ∀ (bs : List MBin) (l : List Int) (x : Int), (∀ b ∈ bs, OkB nl b) → leG j (endG false bs l) (gramL bs l x) ∧ leG j (gramL bs l x) (endG true bs l)
  | b :: bs, n :: l, x, h => by
    have a := repG_in j b.grams (h b (by simp)).rng n.toNat x
    have c := gramL_in j nl bs l (repS b.grams n.toNat x) fun c hc => h c (by simp [hc])
    exact ⟨leG_app a.1 c.1, leG_app a.2 c.2⟩
  | [], [], _, _ => ⟨trivial, trivial⟩
  | [], _ :: _, _, _ => ⟨trivial, trivial⟩
  | _ :: _, [], _, _ => by simp [leG]
theorem leG_sz {j : Nat} : ∀ {A B C : List (List Int)}, leG j A B → leG j B C → (∀ g ∈ A, 0 ≤ g.getD j 0) → (∀ g ∈ C, g.getD j 0 ≤ 1000000) → ∀ g ∈ B, 0 ≤ g.getD j 0 ∧ g.getD j 0 ≤ 1000000
  | [], [], _, _, _, _, _, g, hg => by cases hg
  | a :: A, b :: B, c :: C, h, h', ha, hc, g, hg => by
    rcases List.mem_cons.1 hg with rfl | hg
    · have := ha a (by simp); have := hc c (by simp); have := h.1; have := h'.1; omega
    · exact leG_sz h.2 h'.2 (fun x hx => ha x (by simp [hx])) (fun x hx => hc x (by simp [hx])) g hg
  | [], _ :: _, _, h, _, _, _, _, _ => h.elim
  | _ :: _, [], _, h, _, _, _, _, _ => h.elim
  | _ :: _, _ :: _, [], _, h', _, _, _, _ => h'.elim
theorem gramL_mem : ∀ (bs : List MBin) (l : List Int) (x : Int) (nl : Nat), (∀ b ∈ bs, OkB nl b) → ∀ g ∈ gramL bs l x, g.length = nl
  | b :: bs, n :: l, x, nl, h, g, hg => by
    rw [gramL, List.mem_append] at hg
    rcases hg with hg | hg
    · rw [rep_mem _ _ _ g hg]; exact (h b (by simp)).len
    · exact gramL_mem bs l _ nl (fun c hc => h c (by simp [hc])) g hg
  | [], [], _, _, _, g, hg => by simp at hg
  | [], _ :: _, _, _, _, g, hg => by simp [gramL] at hg
  | _ :: _, [], _, _, _, g, hg => by simp at hg
where rep_mem : ∀ (g : List (Int × Int)) (k : Nat) (x : Int), ∀ a ∈ repG g k x, a.length = g.length
  | g, 0, x, a, ha => by cases ha
  | g, k + 1, x, a, ha => by
    rcases List.mem_cons.1 ha with rfl | ha
    · simp
    · exact rep_mem g k _ a ha
theorem gram_in {o : MOrd} (k : OkO o) (l : List Int) (x : Int) : inG o l (gramL o.bins l x) where
  lo := fun j => (gramL_in j _ _ _ _ k.bin).1
  hi := fun j => (gramL_in j _ _ _ _ k.bin).2
  sz := fun j => leG_sz (gramL_in j _ _ _ _ k.bin).1 (gramL_in j _ _ _ _ k.bin).2 (fun g hg => (endG_sz false j _ _ _ k.bin g hg).1) (fun g hg => (endG_sz true j _ _ _ k.bin g hg).2)
theorem gram_gs {o : MOrd} (k : OkO o) (l : List Int) (x : Int) : okGs o l (gramL o.bins l x) := ⟨gramL_len _ _ _, gramL_mem _ _ _ _ k.bin⟩
def trS (o : MOrd) (l : List Int) (v : Int) (p : Nat × Int) : St :=
  St.lit 58 [(3, .ptr (.own 12006) 0), (4, .ptr (.own 4) 0), (5, .sl false false .U .no l.length (eInts l)), (6, .s (.int .i64 v)), (7, .s (.int .i64 0)), (8, .s (.int .i64 p.1))] [(12006, [.s (.int .u64 p.2)]), (4, aOrdC o)] [] []
attribute [simp] trS

end Go.Ev
end

section
set_option linter.all false
open Go Go.Ev Go.Proofs
namespace Go.Ev
set_option linter.unusedSimpArgs false
set_option linter.unusedVariables false


@[simp] theorem eLL_app (l m : List (List Int)) : eLL l ++ eLL m = eLL (l ++ m) := by simp [eLL]
def catN {α : Type} (f : Nat → List α) : Nat → Nat → List α
  | 0, _ => []
  | n + 1, k => f k ++ catN f n (k + 1)
/-- All blends that begin with some numbers. -/
def allB : List MBin → List Int → List (List Int)
  | [], l => [l]
  | b :: bs, l => catN (fun k => allB bs (l ++ [(k : Int)])) (b.g + 1).toNat 0
theorem catN_len {α : Type} (f : Nat → List α) (M : Nat) (h : ∀ k, (f k).length ≤ M) : ∀ n k, (catN f n k).length ≤ n * M
  | 0, _ => by simp [catN]
  | n + 1, k => by
    have a := h k
    have b := catN_len f M h n (k + 1)
    rw [catN, List.length_append, Nat.succ_mul]
    omega
theorem allB_len {N : Nat} : ∀ (bs : List MBin) (l : List Int), (∀ b ∈ bs, 0 ≤ b.g ∧ b.g ≤ 6) → (allB bs l).length ≤ 7 ^ bs.length
  | [], l, _ => by simp [allB]
  | b :: bs, l, h => by
    have hb := h b (by simp)
    have q := catN_len (fun k => allB bs (l ++ [(k : Int)])) (7 ^ bs.length) (fun k => allB_len (N := N) bs _ fun c hc => h c (by simp [hc])) (b.g + 1).toNat 0
    have q2 : (b.g + 1).toNat * 7 ^ bs.length ≤ 7 * 7 ^ bs.length := Nat.mul_le_mul_right _ (by omega)
    rw [allB, List.length_cons, Nat.pow_succ]
    omega
def abS (o : MOrd) (l : List Int) (p : Nat × List (List Int)) : St :=
  St.lit 37 [(1, .sl false false .U .no l.length (eInts l)), (2, .ptr (.own 2) 0), (5, .sl false false .Z (.tok 35) p.2.length (eLL p.2)), (6, .s (.int .i64 p.1))] [(2, aOrdC o)] [] [(35, (p.2.length, 1))]
attribute [simp] abS


end Go.Ev
end

section
set_option linter.all false
open Go Go.Ev Go.Proofs
namespace Go.Ev
set_option linter.unusedSimpArgs false
set_option linter.unusedVariables false


abbrev nW (o : MOrd) (x : List Int) : Int := (weighL o.bins x 0 0 0).1
abbrev cW (o : MOrd) (x : List Int) : Int := (weighL o.bins x 0 0 0).2
def goodB (o : MOrd) (x : List Int) : Bool := decide (o.least ≤ nW o x ∧ nW o x ≤ o.most ∧ keepV o x = 1)
def befB (e : Int) (best : List Int) (l : List (List Int)) : Bool := !decide (e = 0 ∧ best ∈ l)
theorem three (p q : Prop) [Decidable p] [Decidable q] : ¬ p ∨ (p ∧ ¬ q) ∨ (p ∧ q) := by by_cases p <;> by_cases q <;> simp [*]
def beE (o : MOrd) (best : List Int) (cost e : Int) (all : List (List Int)) (bf : Bool) (i : Nat) (r : List (Nat × AV)) : List (Nat × AV) :=
  (4, .ptr (.own 4) 0) :: (5, .sl false false .U .no best.length (eInts best)) :: (6, .s (.int .i64 cost)) :: (7, .s (.int .i64 e)) :: (8, .sl false false .U .no all.length (eLL all)) :: (9, .s (.bool bf)) :: (10, .s (.int .i64 i)) :: r
def beS0 (o : MOrd) (best : List Int) (cost e : Int) (all : List (List Int)) (p : Nat × Bool) : St := St.lit 139 (beE o best cost e all p.2 p.1 []) [(4, aOrdC o)] [] []
def beS1 (o : MOrd) (best : List Int) (cost e : Int) (all : List (List Int)) (bf : Bool) (i : Nat) (n c v : Int) (sm : Bool) : St :=
  St.lit 139 (beE o best cost e all bf i [(11, .s (.int .i64 n)), (12, .s (.int .i64 c)), (14, .s (.int .i64 v)), (16, .s (.bool sm))]) [(4, aOrdC o)] [] []
def beS2 (o : MOrd) (best : List Int) (cost e : Int) (all : List (List Int)) (bf : Bool) (i : Nat) (c : Int) (sm gd : Bool) : St :=
  St.lit 139 (beE o best cost e all bf i [(12, .s (.int .i64 c)), (16, .s (.bool sm)), (17, .s (.bool gd))]) [(4, aOrdC o)] [] []
def beS3 (o : MOrd) (best : List Int) (cost e : Int) (all : List (List Int)) (bf : Bool) (i : Nat) (sm : Bool) (b : Bool) : St :=
  St.lit 139 (beE o best cost e all bf i [(16, .s (.bool sm)), (118, .s (.bool b))]) [(4, aOrdC o)] [] []
attribute [simp] beE beS0 beS1 beS2 beS3
theorem bestD {o : MOrd} {best : List Int} {cost e : Int} {all : List (List Int)} (H1 : ∀ x ∈ all, e = 0 → x = best → goodB o x = true ∧ cW o x = cost)
    (H2 : ∀ (i : Nat) (h : i < all.length), goodB o all[i] = true → e = 0 ∧ ¬ cW o all[i] < cost ∧ (cW o all[i] = cost → all[i] = best ∨ best ∈ all.take i)) (i : Nat) (h : i < all.length) (sm gd bf : Bool)
    (hs : sm = decide (e = 0 ∧ all[i] = best)) (hg : gd = goodB o all[i]) (hb : bf = befB e best (all.take i)) :
    (sm = true ∧ gd = true ∧ cW o all[i] = cost ∧ e = 0) ∨ (sm = false ∧ gd = false) ∨ (sm = false ∧ gd = true ∧ e = 0 ∧ cW o all[i] ≠ cost ∧ ¬ cW o all[i] < cost) ∨ (sm = false ∧ gd = true ∧ e = 0 ∧ cW o all[i] = cost ∧ bf = false) := by
  cases sm with
  | true =>
    obtain ⟨a, b⟩ := of_decide_eq_true hs.symm
    obtain ⟨c, d⟩ := H1 _ (List.getElem_mem h) a b
    exact Or.inl ⟨rfl, hg.trans c, d, a⟩
  | false =>
    cases gd with
    | false => exact Or.inr (Or.inl ⟨rfl, rfl⟩)
    | true =>
      obtain ⟨a, b, c⟩ := H2 i h hg.symm
      have hne : ¬ all[i] = best := fun x => of_decide_eq_false hs.symm ⟨a, x⟩
      by_cases hc : cW o all[i] = cost
      · refine Or.inr (Or.inr (Or.inr ⟨rfl, rfl, a, hc, ?_⟩))
        rcases c hc with c | c
        · exact absurd c hne
        · rw [hb, befB, decide_eq_true ⟨a, c⟩]; rfl
      · exact Or.inr (Or.inr (Or.inl ⟨rfl, rfl, a, hc, b⟩))
theorem befB_succ {e : Int} {best : List Int} {all : List (List Int)} (i : Nat) (h : i < all.length) (sm bf : Bool) (hs : sm = decide (e = 0 ∧ all[i] = best)) (hb : bf = befB e best (all.take i)) : befB e best (all.take (i + 1)) = (bf && !sm) := by
  have hmem : best ∈ all.take (i + 1) ↔ best ∈ all.take i ∨ best = all[i] := by
    rw [List.take_add_one, List.getElem?_eq_getElem h, List.mem_append]
    exact or_congr Iff.rfl List.mem_singleton
  have hq : (best = all[i]) ↔ (all[i] = best) := ⟨Eq.symm, Eq.symm⟩
  rw [hb, hs, befB, befB]
  by_cases he : e = 0 <;> by_cases hm : best ∈ all.take i <;> by_cases hx : all[i] = best <;> simp [he, hm, hx, hq, hmem]

end Go.Ev
end

section
set_option linter.all false
open Go Go.Ev Go.Proofs
namespace Go.Ev
set_option linter.unusedSimpArgs false
set_option linter.unusedVariables false

/-! ### The cheapest of all blends -/
theorem rep_catN {α σ : Type} (next : σ → α → σ) (g : Nat → List α) (f : Nat → σ → σ) (h : ∀ k s, f k s = (g k).foldl next s) : ∀ n k s, rep f n k s = (catN g n k).foldl next s
  | 0, _, _ => rfl
  | n + 1, k, s => by rw [rep, catN, List.foldl_append, ← h, rep_catN next g f h n (k + 1)]
theorem bFold_all {σ : Type} (next : σ → List Int → σ) : ∀ (bs : List MBin) (l : List Int) (s : σ), bFold next bs l s = (allB bs l).foldl next s
  | [], _, _ => rfl
  | b :: bs, l, s => by
    rw [bFold, allB]
    exact rep_catN next _ _ (fun k s => bFold_all next bs (l ++ [(k : Int)]) s) _ _ _
def okR : List MBin → List Int → Prop
  | b :: bs, n :: r => (0 ≤ n ∧ n ≤ b.g) ∧ okR bs r
  | [], [] => True
  | _, _ => False
theorem okR.len : ∀ {bs : List MBin} {r : List Int}, okR bs r → r.length = bs.length
  | [], [], _ => rfl
  | _ :: _, _ :: _, h => by simp [okR.len h.2]
  | [], _ :: _, h => h.elim
  | _ :: _, [], h => h.elim
theorem okR.get : ∀ {bs : List MBin} {r : List Int}, okR bs r → ∀ (i : Nat) (h : i < bs.length) (h' : i < r.length), 0 ≤ r[i] ∧ r[i] ≤ bs[i].g
  | [], [], _, i, h, _ => by simp at h
  | _ :: _, _ :: _, h, 0, _, _ => h.1
  | _ :: _, _ :: _, h, i + 1, h1, h2 => okR.get h.2 i (by simpa using h1) (by simpa using h2)
  | [], _ :: _, h, _, _, _ => h.elim
  | _ :: _, [], h, _, _, _ => h.elim
theorem catN_mem {α : Type} (f : Nat → List α) (x : α) : ∀ n k, x ∈ catN f n k → ∃ j, k ≤ j ∧ j < k + n ∧ x ∈ f j
  | 0, _, h => by cases h
  | n + 1, k, h => by
    rw [catN, List.mem_append] at h
    rcases h with h | h
    · exact ⟨k, by omega, by omega, h⟩
    · obtain ⟨j, h1, h2, h3⟩ := catN_mem f x n (k + 1) h
      exact ⟨j, by omega, by omega, h3⟩
theorem allB_mem : ∀ (bs : List MBin) (l x : List Int), x ∈ allB bs l → ∃ r, x = l ++ r ∧ okR bs r
  | [], l, x, h => ⟨[], by simpa [allB] using h, trivial⟩
  | b :: bs, l, x, h => by
    obtain ⟨j, h1, h2, h3⟩ := catN_mem _ x _ _ h
    obtain ⟨r, h4, h5⟩ := allB_mem bs _ x h3
    exact ⟨(j : Int) :: r, by rw [h4, List.append_assoc]; rfl, ⟨by omega, by omega⟩, h5⟩
theorem all_ok {o : MOrd} {x : List Int} (h : x ∈ allB o.bins []) : okBl o x := by
  obtain ⟨r, rfl, hr⟩ := allB_mem _ _ _ h
  exact ⟨hr.len, hr.get⟩
/-- What the first blends have shown. -/
def FS (o : MOrd) (L : List (List Int)) (s : List Int × Int) : Prop :=
  (s = ([], 0) ∧ ∀ x ∈ L, goodB o x = false) ∨
  (s.1 ∈ L ∧ goodB o s.1 = true ∧ s.2 = cW o s.1 ∧ ∀ (i : Nat) (h : i < L.length), goodB o L[i] = true → s.2 ≤ cW o L[i] ∧ (cW o L[i] = s.2 → L[i] = s.1 ∨ s.1 ∈ L.take i))
theorem nextC_good (o : MOrd) (s : List Int × Int) (x : List Int) : nextC o s x = if goodB o x = true ∧ (s.1.length = 0 ∨ cW o x < s.2) then (x, cW o x) else s := by
  unfold nextC goodB
  by_cases h1 : o.least ≤ nW o x <;> by_cases h2 : nW o x ≤ o.most <;> by_cases h3 : keepV o x = 1 <;> by_cases h4 : s.1.length = 0 ∨ cW o x < s.2 <;> simp [inB, h1, h2, h3, h4]
theorem FS_step {o : MOrd} {L : List (List Int)} {s : List Int × Int} (h : FS o L s) (hL : ∀ x ∈ L, x.length ≠ 0) (x : List Int) : FS o (L ++ [x]) (nextC o s x) := by
  rw [nextC_good]
  have hget : ∀ (i : Nat) (h : i < (L ++ [x]).length), (i = L.length ∧ (L ++ [x])[i] = x) ∨ (∃ h' : i < L.length, (L ++ [x])[i] = L[i] ∧ (L ++ [x]).take i = L.take i) := by
    intro i hi
    simp at hi
    rcases Nat.lt_or_ge i L.length with h' | h'
    · exact Or.inr ⟨h', by simp [List.getElem_append, h'], by rw [List.take_append_of_le_length (by omega)]⟩
    · have : i = L.length := by omega
      subst this
      exact Or.inl ⟨rfl, by simp⟩
  split
  · rename_i hu
    refine Or.inr ⟨by simp, hu.1, rfl, fun i hi hg => ?_⟩
    rcases hget i hi with ⟨rfl, e⟩ | ⟨h', e, e2⟩
    · rw [e]; exact ⟨Int.le_refl _, fun _ => Or.inl rfl⟩
    · rw [e] at hg ⊢
      rcases h with ⟨_, hn⟩ | ⟨h1, h2, h3, h4⟩
      · rw [hn _ (List.getElem_mem h')] at hg; cases hg
      · have hc : cW o x < s.2 := by
          rcases hu.2 with hz | hz
          · exact absurd hz (hL _ h1)
          · exact hz
        have := (h4 i h' hg).1
        exact ⟨by omega, fun e => by omega⟩
  · rename_i hu
    rcases h with ⟨h1, hn⟩ | ⟨h1, h2, h3, h4⟩
    · refine Or.inl ⟨h1, fun y hy => ?_⟩
      rcases List.mem_append.1 hy with hy | hy
      · exact hn y hy
      · rw [List.mem_singleton.1 hy]
        cases hg : goodB o x with
        | false => rfl
        | true => exact absurd ⟨hg, Or.inl (by rw [h1]; rfl)⟩ hu
    · refine Or.inr ⟨by simp [h1], h2, h3, fun i hi hg => ?_⟩
      rcases hget i hi with ⟨rfl, e⟩ | ⟨h', e, e2⟩
      · rw [e] at hg ⊢
        refine ⟨?_, fun _ => Or.inr (by simpa using h1)⟩
        rcases Int.lt_or_le (cW o x) s.2 with hlt | hle
        · exact absurd ⟨hg, Or.inr hlt⟩ hu
        · exact hle
      · rw [e] at hg ⊢
        rw [e2]
        exact h4 i h' hg
theorem FS_all {o : MOrd} : ∀ (M L : List (List Int)) (s : List Int × Int), FS o L s → (∀ x ∈ L ++ M, x.length ≠ 0) → FS o (L ++ M) (M.foldl (nextC o) s)
  | [], L, s, h, _ => by simpa using h
  | x :: M, L, s, h, hL => by
    have := FS_all M (L ++ [x]) (nextC o s x) (FS_step h (fun y hy => hL y (by simp [hy])) x) (by simpa using hL)
    simpa using this
theorem cheap_FS {o : MOrd} (k : OkO o) : FS o (allB o.bins []) (cheapR o) := by
  have h := FS_all (o := o) (allB o.bins []) [] ([], 0) (Or.inl ⟨rfl, by simp⟩) fun x hx => by
    have e := (all_ok (o := o) (by simpa using hx)).1
    rw [e]
    intro h0
    exact k.ne (List.length_eq_zero_iff.1 h0)
  rw [cheapR, bFold_all]
  simpa using h
end Go.Ev
end

section
set_option linter.all false
open Go Go.Ev Go.Proofs
namespace Go.Ev
set_option linter.unusedSimpArgs false
set_option linter.unusedVariables false


theorem bor2 (a b : Bool) : a = false ∨ (a = true ∧ b = false) ∨ (a = true ∧ b = true) := by cases a <;> cases b <;> simp
def rcbS (o : MOrd) (b : MBin) (k : Nat) : St :=
  St.lit 67 [(2, .ptr (.own 2) 0), (3, .ptr (.own 3) 0), (5, .s (.int .i64 k))]
    [(2, aOrdC o), (3, [.sl false false .U .no b.grams.length (eRngs b.grams), .s (.int .i64 b.w), .s (.int .i64 b.c), .s (.int .i64 b.g)])] [] []
attribute [simp] rcbS

set_option maxHeartbeats 1000000 in
theorem rcheckBin_ok (o : MOrd) (b : MBin) (hl : (b.grams.length : Int) < 9223372036854775807) : ACalls Tryz.prog 72 [.agg [.sl false false .U .no o.limits.length (eInts o.limits), .s (.int .i64 o.least), .s (.int .i64 o.most), .sl false false .U .no o.bins.length (eBins o.bins)], .agg [.sl false false .U .no b.grams.length (eRngs b.grams), .s (.int .i64 b.w), .s (.int .i64 b.c), .s (.int .i64 b.g)]] [] (.ret (.s (.int .i64 (binErr o.limits.length b))) [] []) := by
  refine acalls_of_ew Tryz.func72 rfl rfl (by simp [Tryz.f72]) (rs := [.tmp 4]) rfl ?_
  refine EW.seq fun Ψ0 n0 x0 => ?_
  refine EW.region gs_nil ?_
  simp
  refine n0 _ ?_; clear n0 x0
  refine EW.seq fun Ψ1 n1 x1 => ?_
  refine EW.seq fun Ψ2 n2 x2 => ?_
  refine EW.region gs_nil ?_
  simp
  refine n2 _ ?_; clear n2 x2
  refine EW.cond (t := _) (by rfl) (fun hc12 => ?_) (fun hc12 => ?_)
  · have hlen : ¬ b.grams.length = o.limits.length := by simp at hc12; omega
    have hv : binErr o.limits.length b = 2 := by simp [binErr, hlen]
    refine EW.seq fun Ψ3 n3 x3 => ?_
    refine EW.region gs_nil ?_
    simp
    refine n3 _ ?_; clear n3 x3
    refine EW.ret ?_
    refine x1 _ _ rfl ?_; clear n1 x1
    refine ⟨_, _, _, rfl, ?_, ?_, ?_, ?_, ?_⟩ <;> simp [hv]
  · have hlen : b.grams.length = o.limits.length := by simp at hc12; omega
    refine EW.skip ?_
    refine n1 _ ?_; clear n1 x1
    refine EW.seq fun Ψ4 n4 x4 => ?_
    refine EW.seq fun Ψ5 n5 x5 => ?_
    refine EW.region gs_nil ?_
    simp
    refine n5 _ ?_; clear n5 x5
    refine EW.block ?_
    refine EW.loopA (rcbS o b) (fun k => k ≤ b.grams.length ∧ rngsErr (b.grams.drop k) = rngsErr b.grams) (fun k => b.grams.length - k) 0 (St.le_lit rfl (by simp) (by simp) (by simp) (by simp) (by simp)) ?_ fun p hk => ?_
    · simp
    rename Nat => k
    obtain ⟨hk, hw⟩ := hk
    refine EW.seq fun Ψ6 n6 x6 => ?_
    refine EW.seq fun Ψ7 n7 x7 => ?_
    refine EW.region gs_nil ?_
    simp
    refine n7 _ ?_; clear n7 x7
    refine EW.cond (t := _) (by rfl) (fun hc17 => ?_) (fun hc17 => ?_)
    · simp at hc17
      have e1 : b.grams[k]? = some b.grams[k] := List.getElem?_eq_getElem hc17
      refine EW.skip ?_
      refine n6 _ ?_; clear n6 x6
      refine EW.seq fun Ψ8 n8 x8 => ?_
      refine EW.block ?_
      refine EW.seq fun Ψ9 n9 x9 => ?_
      refine EW.seq fun Ψ10 n10 x10 => ?_
      rcases bor2 (inB b.grams[k].1 0 1000000) (inB b.grams[k].2 0 1000000) with q1 | ⟨q1, q2⟩ | ⟨q1, q2⟩
      · skip
        refine EW.region (gI_ok gs_nil) ?_
        simp [hc17, e1, q1]
        refine n10 _ ?_; clear n10 x10
        refine EW.cond (t := _) (by rfl) (fun hc37 => ?_) (fun hc37 => ?_)
        · simp at hc37
          have e4 : rngErr b.grams[k] = 1 := by simp [rngErr, q1]
          have hv : binErr o.limits.length b = 1 := by rw [List.drop_eq_getElem_cons hc17] at hw; simp [rngsErr, e4] at hw; simp [binErr, hlen, ← hw]
          refine EW.seq fun Ψ11 n11 x11 => ?_
          refine EW.region gs_nil ?_
          simp
          refine n11 _ ?_; clear n11 x11
          refine EW.ret ?_
          refine x9 _ _ rfl ?_; clear n9 x9
          refine x8 _ _ rfl ?_; clear n8 x8
          refine x4 _ _ rfl ?_; clear n4 x4
          refine ⟨_, _, _, rfl, ?_, ?_, ?_, ?_, ?_⟩ <;> simp [hv]
        · simp at hc37
      · skip
        refine EW.region (gI_ok gs_nil) ?_
        simp [hc17, e1, q1, q2]
        refine n10 _ ?_; clear n10 x10
        refine EW.cond (t := _) (by rfl) (fun hc37 => ?_) (fun hc37 => ?_)
        · simp at hc37
          have e4 : rngErr b.grams[k] = 1 := by simp [rngErr, q1, q2]
          have hv : binErr o.limits.length b = 1 := by rw [List.drop_eq_getElem_cons hc17] at hw; simp [rngsErr, e4] at hw; simp [binErr, hlen, ← hw]
          refine EW.seq fun Ψ12 n12 x12 => ?_
          refine EW.region gs_nil ?_
          simp
          refine n12 _ ?_; clear n12 x12
          refine EW.ret ?_
          refine x9 _ _ rfl ?_; clear n9 x9
          refine x8 _ _ rfl ?_; clear n8 x8
          refine x4 _ _ rfl ?_; clear n4 x4
          refine ⟨_, _, _, rfl, ?_, ?_, ?_, ?_, ?_⟩ <;> simp [hv]
        · simp at hc37
      · skip
        refine EW.region (gI_ok gs_nil) ?_
        simp [hc17, e1, q1, q2]
        refine n10 _ ?_; clear n10 x10
        refine EW.cond (t := _) (by rfl) (fun hc37 => ?_) (fun hc37 => ?_)
        · simp at hc37
        · simp at hc37
          refine EW.skip ?_
          refine n9 _ ?_; clear n9 x9
          refine EW.seq fun Ψ13 n13 x13 => ?_
          refine EW.drawn [] mixed gs_nil (by kernel_rfl) ?_
          simp [hc17, e1]
          refine n13 _ ?_; clear n13 x13
          refine EW.cond (t := _) (by rfl) (fun hc50 => ?_) (fun hc50 => ?_)
          · simp at hc50
            have e4 : rngErr b.grams[k] = 5 := by simp [rngErr, q1, q2, hc50]
            have hv : binErr o.limits.length b = 5 := by rw [List.drop_eq_getElem_cons hc17] at hw; simp [rngsErr, e4] at hw; simp [binErr, hlen, ← hw]
            refine EW.seq fun Ψ14 n14 x14 => ?_
            refine EW.region gs_nil ?_
            simp
            refine n14 _ ?_; clear n14 x14
            refine EW.ret ?_
            refine x8 _ _ rfl ?_; clear n8 x8
            refine x4 _ _ rfl ?_; clear n4 x4
            refine ⟨_, _, _, rfl, ?_, ?_, ?_, ?_, ?_⟩ <;> simp [hv]
          · simp at hc50
            refine EW.skip ?_
            refine n8 _ ?_; clear n8 x8
            refine EW.hide fun Ψ15 n15 => ?_
            refine EW.region gs_nil ?_
            simp
            refine n15 _ _ ?_; clear n15
            have e3 : IntKind.i64.wrap ((k : Int) + 1) = k + 1 := wr_small (by omega) (by omega)
            have e4 : rngErr b.grams[k] = 0 := by simp [rngErr, q1, q2]; omega
            refine ⟨k + 1, (St.le_lit rfl (by simp [e3]) (by simp) (by simp) (by simp) (by simp)), ?_, ?_⟩
            · refine ⟨hc17, ?_⟩
              rw [← hw, List.drop_eq_getElem_cons hc17]; simp [rngsErr, e4]
            · omega
    · simp at hc17
      have hz : rngsErr b.grams = 0 := by rw [← hw, List.drop_of_length_le (by omega)]; rfl
      refine EW.exit ?_
      refine x6 _ _ rfl ?_; clear n6 x6
      refine n4 _ ?_; clear n4 x4
      refine EW.seq fun Ψ16 n16 x16 => ?_
      refine EW.seq fun Ψ17 n17 x17 => ?_
      rcases bor3 (inB b.w 1 10000) (inB b.c 0 10000000) (inB b.g 0 6) with q3 | ⟨q3, q4⟩ | ⟨q3, q4, q5⟩ | ⟨q3, q4, q5⟩
      · skip
        refine EW.region (gI_ok gs_nil) ?_
        simp [q3]
        have hv : binErr o.limits.length b = 1 := by simp [binErr, hlen, hz, q3]
        refine n17 _ ?_; clear n17 x17
        refine EW.cond (t := _) (by rfl) (fun hc66 => ?_) (fun hc66 => ?_)
        · simp at hc66
          refine EW.seq fun Ψ18 n18 x18 => ?_
          refine EW.region gs_nil ?_
          simp
          refine n18 _ ?_; clear n18 x18
          refine EW.ret ?_
          refine x16 _ _ rfl ?_; clear n16 x16
          refine ⟨_, _, _, rfl, ?_, ?_, ?_, ?_, ?_⟩ <;> simp [hv]
        · simp at hc66
      · skip
        refine EW.region (gI_ok gs_nil) ?_
        simp [q3, q4]
        have hv : binErr o.limits.length b = 1 := by simp [binErr, hlen, hz, q3, q4]
        refine n17 _ ?_; clear n17 x17
        refine EW.cond (t := _) (by rfl) (fun hc66 => ?_) (fun hc66 => ?_)
        · simp at hc66
          refine EW.seq fun Ψ19 n19 x19 => ?_
          refine EW.region gs_nil ?_
          simp
          refine n19 _ ?_; clear n19 x19
          refine EW.ret ?_
          refine x16 _ _ rfl ?_; clear n16 x16
          refine ⟨_, _, _, rfl, ?_, ?_, ?_, ?_, ?_⟩ <;> simp [hv]
        · simp at hc66
      · skip
        refine EW.region (gI_ok gs_nil) ?_
        simp [q3, q4, q5]
        have hv : binErr o.limits.length b = 1 := by simp [binErr, hlen, hz, q3, q4, q5]
        refine n17 _ ?_; clear n17 x17
        refine EW.cond (t := _) (by rfl) (fun hc66 => ?_) (fun hc66 => ?_)
        · simp at hc66
          refine EW.seq fun Ψ20 n20 x20 => ?_
          refine EW.region gs_nil ?_
          simp
          refine n20 _ ?_; clear n20 x20
          refine EW.ret ?_
          refine x16 _ _ rfl ?_; clear n16 x16
          refine ⟨_, _, _, rfl, ?_, ?_, ?_, ?_, ?_⟩ <;> simp [hv]
        · simp at hc66
      · skip
        refine EW.region (gI_ok gs_nil) ?_
        simp [q3, q4, q5]
        have hv : binErr o.limits.length b = 0 := by simp [binErr, hlen, hz, q3, q4, q5]
        refine n17 _ ?_; clear n17 x17
        refine EW.cond (t := _) (by rfl) (fun hc66 => ?_) (fun hc66 => ?_)
        · simp at hc66
        · simp at hc66
          refine EW.skip ?_
          refine n16 _ ?_; clear n16 x16
          refine EW.seq fun Ψ21 n21 x21 => ?_
          refine EW.region gs_nil ?_
          simp
          refine n21 _ ?_; clear n21 x21
          refine EW.ret ?_
          refine ⟨_, _, _, rfl, ?_, ?_, ?_, ?_, ?_⟩ <;> simp [hv]

end Go.Ev
end
