/- Lemmas for the claims of this seat: an evaluator over abstract values, its soundness, and the contracts of the functions of melt that it walks; no premise beyond what each theorem states. -/
import Derived.Test.YtdcelpomnboeoaaLA
import Derived.Test.YtdcelpomnboeoaaLC

section
set_option linter.all false
open Go Go.Ev Go.Proofs
namespace Go.Ev
set_option linter.unusedSimpArgs false
set_option linter.unusedVariables false


/-! ### The order that the feed makes -/
def limL : Nat → Int → List Int
  | 0, _ => []
  | k + 1, x => betV 20 300 x :: limL k (betS 20 300 x)
def limS : Nat → Int → Int
  | 0, x => x
  | k + 1, x => limS k (betS 20 300 x)
def grE (l : Int) : List Int := [l, wr (2 * l)]
def grmL : List Int → Int → List (Int × Int)
  | [], _ => []
  | l :: r, x => (rngA 0 (eitV (grE l) x) (eitS (grE l) x), rngB 0 (eitV (grE l) x) (eitS (grE l) x)) :: grmL r (rngS 0 (eitV (grE l) x) (eitS (grE l) x))
def grmS : List Int → Int → Int
  | [], x => x
  | l :: r, x => grmS r (rngS 0 (eitV (grE l) x) (eitS (grE l) x))
def wgL (x : Int) : List Int := [1, 2, betV 1 20 x]
def binW (x : Int) : Int := eitV (wgL x) (betS 1 20 x)
def binX1 (x : Int) : Int := eitS (wgL x) (betS 1 20 x)
def binC (x : Int) : Int := belV 50 (binX1 x)
def binX2 (x : Int) : Int := belS 50 (binX1 x)
def binG (g x : Int) : Int := betV 0 g (binX2 x)
def binX (g x : Int) : Int := betS 0 g (binX2 x)
def binOf (ls : List Int) (g x : Int) : MBin := ⟨grmL ls (binX g x), binW x, binC x, binG g x⟩
def binsL (ls : List Int) (g : Int) : Nat → Int → List MBin
  | 0, _ => []
  | k + 1, x => binOf ls g x :: binsL ls g k (grmS ls (binX g x))
def binsS (ls : List Int) (g : Int) : Nat → Int → Int
  | 0, x => x
  | k + 1, x => binsS ls g k (grmS ls (binX g x))
def sumW : List MBin → Int → Int
  | [], a => a
  | b :: l, a => sumW l (wr (a + wr (b.w * b.g)))
section
variable (bins metals grabs x : Int)
def ooN : Nat := (belV (wr (metals + 1)) x).toNat
def ooX0 : Int := belS (wr (metals + 1)) x
def ooL : List Int := limL (ooN metals x) (ooX0 metals x)
def ooX1 : Int := limS (ooN metals x) (ooX0 metals x)
def ooM : Nat := (betV 1 bins (ooX1 metals x)).toNat
def ooX2 : Int := betS 1 bins (ooX1 metals x)
def ooB : List MBin := binsL (ooL metals x) grabs (ooM bins metals x) (ooX2 bins metals x)
def ooX3 : Int := binsS (ooL metals x) grabs (ooM bins metals x) (ooX2 bins metals x)
def ooA : Int := sumW (ooB bins metals grabs x) 0
def ooLe : Int := belV (wr (ooA bins metals grabs x + 2)) (ooX3 bins metals grabs x)
def ooX4 : Int := belS (wr (ooA bins metals grabs x + 2)) (ooX3 bins metals grabs x)
def ooX5 : Int := belS 5 (ooX4 bins metals grabs x)
def ooX6 : Int := belS (wr (ooA bins metals grabs x + 1)) (ooX5 bins metals grabs x)
def ooE : List Int := [0, belV 5 (ooX4 bins metals grabs x), belV (wr (ooA bins metals grabs x + 1)) (ooX5 bins metals grabs x)]
def ooMo : Int := wr (ooLe bins metals grabs x + eitV (ooE bins metals grabs x) (ooX6 bins metals grabs x))
def ordOf : MOrd := ⟨ooL metals x, ooLe bins metals grabs x, ooMo bins metals grabs x, ooB bins metals grabs x⟩
def ordS : Int := eitS (ooE bins metals grabs x) (ooX6 bins metals grabs x)
end
@[simp] theorem limL_len : ∀ (k : Nat) (x : Int), (limL k x).length = k
  | 0, _ => rfl
  | k + 1, x => by simp [limL, limL_len k]
@[simp] theorem grmL_len : ∀ (l : List Int) (x : Int), (grmL l x).length = l.length
  | [], _ => rfl
  | l :: r, x => by simp [grmL, grmL_len r]
@[simp] theorem binsL_len (ls : List Int) (g : Int) : ∀ (k : Nat) (x : Int), (binsL ls g k x).length = k
  | 0, _ => rfl
  | k + 1, x => by simp [binsL, binsL_len ls g k]
theorem bet_in (lo hi x : Int) (h : lo ≤ hi) (h1 : -1000000000 ≤ lo) (h2 : hi ≤ 1000000000) : lo ≤ betV lo hi x ∧ betV lo hi x ≤ hi := by
  have e1 : wr (hi - lo) = hi - lo := wr_small (by omega) (by omega)
  have e2 : wr (hi - lo + 1) = hi - lo + 1 := wr_small (by omega) (by omega)
  have a := bel_ge (hi - lo + 1) x (by omega)
  have b := bel_lt (hi - lo + 1) x (by omega) (by omega)
  unfold betV
  rw [e1, e2, wr_small (by omega) (by omega)]
  omega
def zO : AV := .s (.int .i64 0)
attribute [simp] zO
def ooE0 (b m g : Int) (r : List (Nat × AV)) : List (Nat × AV) := (0, .ptr (.ext 0) 0) :: (1, .s (.int .i64 b)) :: (2, .s (.int .i64 m)) :: (3, .s (.int .i64 g)) :: (8, .ptr (.own 8) 0) :: (9, .ptr (.own 9) 0) :: r
def ooS0 (b m g : Int) (p : Nat × List Int × Int) : St :=
  St.lit 124 (ooE0 b m g [(10, .s (.int .i64 p.1))]) [(8, [AV.nilsl, zO, zO, AV.nilsl]), (9, [.sl false false .Z (.tok 29) p.2.1.length (eInts p.2.1), zO, zO, AV.nilsl])] [[.s (.int .u64 p.2.2)]] [(29, (p.2.1.length, 1))]
def ooS1 (b m g : Int) (ls : List Int) (p : Nat × List MBin × Int) : St :=
  St.lit 124 (ooE0 b m g [(11, .s (.int .i64 p.1))]) [(8, [AV.nilsl, zO, zO, AV.nilsl]), (9, [.sl false false .Z .no ls.length (eInts ls), zO, zO, .sl false false .Z (.tok 81) p.2.1.length (eBins p.2.1)])] [[.s (.int .u64 p.2.2)]] [(81, (p.2.1.length, 4))]
def ooS2 (b m g : Int) (ls : List Int) (k : Nat) (acc : List MBin) (w c q : Int) (p : Nat × List (Int × Int) × Int) : St :=
  St.lit 124 (ooE0 b m g [(11, .s (.int .i64 k)), (12, .ptr (.own 12) 0), (13, .s (.int .i64 p.1))]) [(8, [AV.nilsl, zO, zO, AV.nilsl]), (9, [.sl false false .Z .no ls.length (eInts ls), zO, zO, .sl false false .Z (.tok 81) acc.length (eBins acc)]), (12, [.sl false false .Z (.tok 75) p.2.1.length (eRngs p.2.1), .s (.int .i64 w), .s (.int .i64 c), .s (.int .i64 q)])] [[.s (.int .u64 p.2.2)]] [(81, (acc.length, 4)), (75, (p.2.1.length, 2))]
def ooS3 (b m g : Int) (ls : List Int) (bs : List MBin) (y : Int) (p : Nat × Int) : St :=
  St.lit 124 (ooE0 b m g [(14, .s (.int .i64 p.2)), (15, .s (.int .i64 p.1))]) [(8, [AV.nilsl, zO, zO, AV.nilsl]), (9, [.sl false false .Z .no ls.length (eInts ls), zO, zO, .sl false false .Z .no bs.length (eBins bs)])] [[.s (.int .u64 y)]] []
attribute [simp] ooE0 ooS0 ooS1 ooS2 ooS3

set_option maxHeartbeats 4000000 in
theorem orderOf_ok (b m g x : Int) (hb : 1 ≤ b ∧ b < 1000) (hm : 0 ≤ m ∧ m < 1000) : ACalls Try.prog 17 [.ptr (.ext 0) 0, .s (.int .i64 b), .s (.int .i64 m), .s (.int .i64 g)] [[.s (.int .u64 x)]] (.ret (.agg [.sl false false .Z .no (ordOf b m g x).limits.length (eInts (ordOf b m g x).limits), .s (.int .i64 (ordOf b m g x).least), .s (.int .i64 (ordOf b m g x).most), .sl false false .Z .no (ordOf b m g x).bins.length (eBins (ordOf b m g x).bins)]) [[.s (.int .u64 (ordS b m g x))]] []) := by
  have q1 : wr (m + 1) = m + 1 := wr_small (by omega) (by omega)
  have q2 := bel_ge (m + 1) x (by omega)
  have q3 := bel_lt (m + 1) x (by omega) (by omega)
  have q4 : belV (wr (m + 1)) x = (ooN m x : Int) := by unfold ooN; rw [q1]; omega
  have q5 : (ooN m x : Int) < 1000 := by rw [← q4, q1]; omega
  have q6 := bet_in 1 b (ooX1 m x) hb.1 (by omega) (by omega)
  have q7 : betV 1 b (ooX1 m x) = (ooM b m x : Int) := by unfold ooM; omega
  have q8 : (ooM b m x : Int) < 1000 := by omega
  have q9 : (ooL m x).length = ooN m x := by simp [ooL]
  refine acalls_of_ew Try.func17 rfl rfl (by simp [Try.f17]) (rs := [.cell 8 25]) rfl ?_
  refine EW.seq fun Ψ0 n0 x0 => ?_
  refine EW.region gs_nil ?_
  simp
  refine n0 _ ?_; clear n0 x0
  refine EW.seq fun Ψ1 n1 x1 => ?_
  refine EW.region gs_nil ?_
  simp
  refine n1 _ ?_; clear n1 x1
  refine EW.seq fun Ψ2 n2 x2 => ?_
  refine EW.seq fun Ψ3 n3 x3 => ?_
  refine EW.region (gG_ok gs_nil) ?_
  simp
  refine n3 _ ?_; clear n3 x3
  refine EW.block ?_
  refine EW.loopA (ooS0 b m g) (fun p => p.1 ≤ ooN m x ∧ p.2.1.length + p.1 = ooN m x ∧ p.2.1 ++ limL p.1 p.2.2 = ooL m x ∧ limS p.1 p.2.2 = ooX1 m x) (fun p => p.1) (ooN m x, [], ooX0 m x) (St.le_lit rfl (by simp [q4]) (by simp) (by simp [ooX0]) (by simp) (by simp)) ?_ fun p hk => ?_
  · simp [ooL, ooX1]
  obtain ⟨k, acc, y⟩ := p
  obtain ⟨hk, hn, hw, hz⟩ := hk
  simp only at hk hn hw hz
  refine EW.seq fun Ψ4 n4 x4 => ?_
  refine EW.seq fun Ψ5 n5 x5 => ?_
  refine EW.region gs_nil ?_
  simp
  refine n5 _ ?_; clear n5 x5
  refine EW.cond (t := _) (by rfl) (fun hc21 => ?_) (fun hc21 => ?_)
  · simp at hc21
    refine EW.skip ?_
    refine n4 _ ?_; clear n4 x4
    refine EW.seq fun Ψ6 n6 x6 => ?_
    refine EW.block ?_
    refine EW.hide fun Ψ7 n7 => ?_
    refine EW.drawn [(1, 3)] mixed (gG_ok gs_nil) (by kernel_rfl) ?_
    simp [show (acc.length + 1) * 8 ≤ 140737488355328 by omega]
    refine n7 _ _ ?_; clear n7
    refine n6 _ ?_; clear n6 x6
    refine EW.hide fun Ψ8 n8 => ?_
    refine EW.region gs_nil ?_
    simp
    refine n8 _ _ ?_; clear n8
    have e3 : IntKind.i64.wrap ((k : Int) - 1) = ((k - 1 : Nat) : Int) := by rw [show ((k : Int) - 1) = ((k - 1 : Nat) : Int) by omega]; exact wr_small (by omega) (by omega)
    refine ⟨(k - 1, acc ++ [betV 20 300 y], betS 20 300 y), (St.le_lit rfl (by simp [e3]) (by simp) (by simp) (by simp) (by simp)), ?_, ?_⟩
    · obtain ⟨k, rfl⟩ : ∃ j, k = j + 1 := ⟨k - 1, by omega⟩
      refine ⟨by simp; omega, by simp; omega, ?_, ?_⟩
      · rw [← hw]; simp [limL]
      · rw [← hz]; simp [limS]
    · simp; omega
  · simp at hc21
    have hkl : k = 0 := by omega
    subst hkl
    simp [limL, limS] at hw hz
    refine EW.exit ?_
    refine x4 _ _ rfl ?_; clear n4 x4
    refine n2 _ ?_; clear n2 x2
    refine EW.seq fun Ψ9 n9 x9 => ?_
    refine EW.seq fun Ψ10 n10 x10 => ?_
    refine EW.region (gG_ok gs_nil) ?_
    simp
    refine n10 _ ?_; clear n10 x10
    refine EW.block ?_
    refine EW.loopA (ooS1 b m g (ooL m x)) (fun p => p.1 ≤ ooM b m x ∧ p.2.1.length + p.1 = ooM b m x ∧ p.2.1 ++ binsL (ooL m x) g p.1 p.2.2 = ooB b m g x ∧ binsS (ooL m x) g p.1 p.2.2 = ooX3 b m g x) (fun p => p.1) (ooM b m x, [], ooX2 b m x) (St.le_lit rfl (by simp [q7, hz]) (by simp [hw]) (by simp [ooX2, hz]) (by simp) (by simp)) ?_ fun p hk => ?_
    · simp [ooB, ooX3]
    obtain ⟨k, acc, y⟩ := p
    obtain ⟨hk, hn, hw, hz⟩ := hk
    simp only at hk hn hw hz
    refine EW.seq fun Ψ11 n11 x11 => ?_
    refine EW.seq fun Ψ12 n12 x12 => ?_
    refine EW.region gs_nil ?_
    simp
    refine n12 _ ?_; clear n12 x12
    refine EW.cond (t := _) (by rfl) (fun hc35 => ?_) (fun hc35 => ?_)
    · simp at hc35
      refine EW.skip ?_
      refine n11 _ ?_; clear n11 x11
      refine EW.seq fun Ψ13 n13 x13 => ?_
      refine EW.block ?_
      refine EW.seq fun Ψ14 n14 x14 => ?_
      refine EW.region (gG_ok (gs_cons (either_ok (wgL y) (betS 1 20 y) (by show ((3 : Nat) : Int) < _; omega)) gs_nil)) ?_
      simp [wgL]
      refine n14 _ ?_; clear n14 x14
      refine EW.seq fun Ψ15 n15 x15 => ?_
      refine EW.seq fun Ψ16 n16 x16 => ?_
      refine EW.region gs_nil ?_
      simp
      refine n16 _ ?_; clear n16 x16
      refine EW.block ?_
      refine EW.loopA (ooS2 b m g (ooL m x) k acc (binW y) (binC y) (binG g y)) (fun p => p.1 ≤ (ooL m x).length ∧ p.2.1.length = p.1 ∧ p.2.1 ++ grmL ((ooL m x).drop p.1) p.2.2 = grmL (ooL m x) (binX g y) ∧ grmS ((ooL m x).drop p.1) p.2.2 = grmS (ooL m x) (binX g y)) (fun p => (ooL m x).length - p.1) (0, [], binX g y) (St.le_lit rfl (by simp) (by simp [binW, binC, binG, binX2, binX1, wgL]) (by simp [binX, binX2, binX1, wgL]) (by simp) (by simp)) ?_ fun p hk => ?_
      · simp
      obtain ⟨j, gr, z⟩ := p
      obtain ⟨gk, gn, gw, gz⟩ := hk
      simp only at gk gn gw gz
      refine EW.seq fun Ψ17 n17 x17 => ?_
      refine EW.seq fun Ψ18 n18 x18 => ?_
      refine EW.region gs_nil ?_
      simp
      refine n18 _ ?_; clear n18 x18
      refine EW.cond (t := _) (by rfl) (fun hc53 => ?_) (fun hc53 => ?_)
      · simp at hc53
        have e1 : (ooL m x)[j]? = some (ooL m x)[j] := List.getElem?_eq_getElem hc53
        refine EW.skip ?_
        refine n17 _ ?_; clear n17 x17
        refine EW.seq fun Ψ19 n19 x19 => ?_
        refine EW.block ?_
        refine EW.hide fun Ψ20 n20 => ?_
        refine EW.drawn [(1, 16), (1, 17)] mixed (gG_ok (gs_cons (either_ok (grE (ooL m x)[j]) z (by show ((2 : Nat) : Int) < _; omega)) gs_nil)) (by kernel_rfl) ?_
        simp [grE, hc53, e1, gn, show (j + 1) * 16 ≤ 140737488355328 by omega]
        refine n20 _ _ ?_; clear n20
        refine n19 _ ?_; clear n19 x19
        refine EW.hide fun Ψ21 n21 => ?_
        refine EW.region gs_nil ?_
        simp
        refine n21 _ _ ?_; clear n21
        have e3 : IntKind.i64.wrap ((j : Int) + 1) = j + 1 := wr_small (by omega) (by omega)
        refine ⟨(j + 1, gr ++ [(rngA 0 (eitV (grE (ooL m x)[j]) z) (eitS (grE (ooL m x)[j]) z), rngB 0 (eitV (grE (ooL m x)[j]) z) (eitS (grE (ooL m x)[j]) z))], rngS 0 (eitV (grE (ooL m x)[j]) z) (eitS (grE (ooL m x)[j]) z)), (St.le_lit rfl (by simp [e3]) (by simp [gn, grE]) (by simp [grE]) (by simp [gn]) (by simp)), ?_, ?_⟩
        · refine ⟨by omega, by simp [gn], ?_, ?_⟩
          · rw [← gw, List.drop_eq_getElem_cons hc53]; simp [grmL]
          · rw [← gz, List.drop_eq_getElem_cons hc53]; simp [grmS]
        · simp; omega
      · simp at hc53
        have hkl : j = (ooL m x).length := by omega
        subst hkl
        simp [grmL, grmS] at gw gz
        refine EW.exit ?_
        refine x17 _ _ rfl ?_; clear n17 x17
        refine n15 _ ?_; clear n15 x15
        refine EW.hide fun Ψ22 n22 => ?_
        refine EW.region gs_nil ?_
        simp [show (acc.length + 1) * 48 ≤ 140737488355328 by omega]
        refine n22 _ _ ?_; clear n22
        refine n13 _ ?_; clear n13 x13
        refine EW.hide fun Ψ23 n23 => ?_
        refine EW.region gs_nil ?_
        simp
        refine n23 _ _ ?_; clear n23
        have e3 : IntKind.i64.wrap ((k : Int) - 1) = ((k - 1 : Nat) : Int) := by rw [show ((k : Int) - 1) = ((k - 1 : Nat) : Int) by omega]; exact wr_small (by omega) (by omega)
        refine ⟨(k - 1, acc ++ [binOf (ooL m x) g y], grmS (ooL m x) (binX g y)), (St.le_lit rfl (by simp [e3]) (by simp [binOf, gw]) (by simp [gz]) (by simp) (by simp)), ?_, ?_⟩
        · obtain ⟨k, rfl⟩ : ∃ j, k = j + 1 := ⟨k - 1, by omega⟩
          refine ⟨by simp; omega, by simp; omega, ?_, ?_⟩
          · rw [← hw]; simp [binsL]
          · rw [← hz]; simp [binsS]
        · simp; omega
    · simp at hc35
      have hkl : k = 0 := by omega
      subst hkl
      simp [binsL, binsS] at hw hz
      have s1 : (ooB b m g x).length = ooM b m x := by simp [ooB]
      refine EW.exit ?_
      refine x11 _ _ rfl ?_; clear n11 x11
      refine n9 _ ?_; clear n9 x9
      refine EW.seq fun Ψ24 n24 x24 => ?_
      refine EW.region gs_nil ?_
      simp
      refine n24 _ ?_; clear n24 x24
      refine EW.seq fun Ψ25 n25 x25 => ?_
      refine EW.seq fun Ψ26 n26 x26 => ?_
      refine EW.region gs_nil ?_
      simp
      refine n26 _ ?_; clear n26 x26
      refine EW.block ?_
      refine EW.loopA (ooS3 b m g (ooL m x) (ooB b m g x) (ooX3 b m g x)) (fun p => p.1 ≤ (ooB b m g x).length ∧ sumW ((ooB b m g x).drop p.1) p.2 = ooA b m g x) (fun p => (ooB b m g x).length - p.1) (0, 0) (St.le_lit rfl (by simp) (by simp [hw]) (by simp [hz]) (by simp) (by simp)) ?_ fun p hk => ?_
      · simp [ooA]
      obtain ⟨k, a⟩ := p
      obtain ⟨ak, aw⟩ := hk
      simp only at ak aw
      refine EW.seq fun Ψ27 n27 x27 => ?_
      refine EW.seq fun Ψ28 n28 x28 => ?_
      refine EW.region gs_nil ?_
      simp
      refine n28 _ ?_; clear n28 x28
      refine EW.cond (t := _) (by rfl) (fun hc87 => ?_) (fun hc87 => ?_)
      · simp at hc87
        have e1 : (ooB b m g x)[k]? = some (ooB b m g x)[k] := List.getElem?_eq_getElem hc87
        refine EW.skip ?_
        refine n27 _ ?_; clear n27 x27
        refine EW.seq fun Ψ29 n29 x29 => ?_
        refine EW.block ?_
        refine EW.hide fun Ψ30 n30 => ?_
        refine EW.drawn [] mixed gs_nil (by kernel_rfl) ?_
        simp [hc87, e1]
        refine n30 _ _ ?_; clear n30
        refine n29 _ ?_; clear n29 x29
        refine EW.hide fun Ψ31 n31 => ?_
        refine EW.region gs_nil ?_
        simp
        refine n31 _ _ ?_; clear n31
        have e3 : IntKind.i64.wrap ((k : Int) + 1) = k + 1 := wr_small (by omega) (by omega)
        refine ⟨(k + 1, wr (a + wr ((ooB b m g x)[k].w * (ooB b m g x)[k].g))), (St.le_lit rfl (by simp [e3]) (by simp) (by simp) (by simp) (by simp)), ?_, ?_⟩
        · refine ⟨by omega, ?_⟩
          rw [← aw, List.drop_eq_getElem_cons hc87]; simp [sumW]
        · simp; omega
      · simp at hc87
        have hkl : k = (ooB b m g x).length := by omega
        subst hkl
        simp [sumW] at aw
        refine EW.exit ?_
        refine x27 _ _ rfl ?_; clear n27 x27
        refine n25 _ ?_; clear n25 x25
        refine EW.seq fun Ψ32 n32 x32 => ?_
        refine EW.region (gG_ok gs_nil) ?_
        simp
        refine n32 _ ?_; clear n32 x32
        refine EW.seq fun Ψ33 n33 x33 => ?_
        refine EW.drawn [(1, 4), (1, 8), (1, 10)] mixed (gG_ok (gs_cons (either_ok (ooE b m g x) (ooX6 b m g x) (by show ((3 : Nat) : Int) < _; omega)) gs_nil)) (by kernel_rfl) ?_
        simp [aw, ooE, ooX6, ooX5, ooX4, ooLe]
        refine n33 _ ?_; clear n33 x33
        refine EW.seq fun Ψ34 n34 x34 => ?_
        refine EW.region gs_nil ?_
        simp
        refine n34 _ ?_; clear n34 x34
        refine EW.ret ?_
        refine ⟨_, _, _, rfl, ?_, ?_, ?_, ?_, ?_⟩ <;> simp [ordOf, ordS, ooMo, ooE, ooX6, ooX5, ooX4, ooLe, aw]

end Go.Ev
end

section
set_option linter.all false
open Go Go.Ev Go.Proofs
namespace Go.Ev
set_option linter.unusedSimpArgs false
set_option linter.unusedVariables false


theorem pe_bool {P : Program} (d : Nat) (t : TypeId) (a b : Bool) (hu : P.underlying t = some .bool) : pureP P (Op.equalIn (d + 1) t (.bool a) (.bool b)) = some (a == b) := by
  unfold Op.equalIn
  rw [pureP_bind P _ _ _ (underlying_pure t _ hu)]
  simp
@[simp] theorem q_eqb (x y : Operand) (a b : Bool) : qBinP Try.prog .eql 4 x y (some (.bool a)) (some (.bool b)) = some (.s (.bool (decide (a = b)))) := by
  have h2 : pureP Try.prog (binOp .eql 4 (.bool a) (.bool b)) = some (.bool (a == b)) := by
    have he : pureP Try.prog (Op.equalIn Op.maxDepth 4 (.bool a) (.bool b)) = some (a == b) := pe_bool _ 4 a b Try.underlying4
    unfold binOp
    simp only [Op.equal]
    rw [pureP_bind _ _ _ _ he]
    rfl
  simp only [qBinP, h2]
  cases a <;> cases b <;> simp [eqGuard, AV.ofVal, AV.ofCell, AV.ofFn]
@[simp] theorem q_neb (x y : Operand) (a b : Bool) : qBinP Try.prog .neq 4 x y (some (.bool a)) (some (.bool b)) = some (.s (.bool (decide (a ≠ b)))) := by
  have h2 : pureP Try.prog (binOp .neq 4 (.bool a) (.bool b)) = some (.bool (!(a == b))) := by
    have he : pureP Try.prog (Op.equalIn Op.maxDepth 4 (.bool a) (.bool b)) = some (a == b) := pe_bool _ 4 a b Try.underlying4
    unfold binOp
    simp only [Op.equal]
    rw [pureP_bind _ _ _ _ he]
    rfl
  simp only [qBinP, h2]
  cases a <;> cases b <;> simp [eqGuard, AV.ofVal, AV.ofCell, AV.ofFn]
/-- Lists of lists of numbers. -/
def eLL (l : List (List Int)) : List D := l.map fun x => .sl x.length (eInts x)
@[simp] theorem eLL_nil : eLL [] = [] := rfl
@[simp] theorem eLL_len (l : List (List Int)) : (eLL l).length = l.length := by simp [eLL]
@[simp] theorem eLL_get (l : List (List Int)) (i : Nat) : (eLL l)[i]? = (l[i]?).map fun x => D.sl x.length (eInts x) := by simp [eLL]
@[simp] theorem eLL_gE (l : List (List Int)) (i : Nat) (h : i < (eLL l).length) : (eLL l)[i] = D.sl (l[i]'(by simpa using h)).length (eInts (l[i]'(by simpa using h))) := by simp [eLL]
theorem eLL_app1 (l : List (List Int)) (x : List Int) (n : Nat) (hn : n = x.length) : eLL l ++ [D.sl n (eInts x)] = eLL (l ++ [x]) := by subst hn; simp [eLL]
/-- The weights of the grabs of a blend, one after the other. -/
def gwL : List MBin → List Int → List Int
  | b :: bs, n :: l => List.replicate n.toNat b.w ++ gwL bs l
  | _, _ => []
def sumG (j : Nat) (m : Int) : List Int → List (List Int) → Int → Int
  | w :: ws, g :: gs, s => sumG j m ws gs (wr (s + wr (w * wr (g.getD j 0 - m))))
  | _, _, s => s
def keptL (ws : List Int) (gs : List (List Int)) : List Int → Nat → Bool
  | [], _ => true
  | m :: r, j => if 0 < sumG j m ws gs 0 then false else keptL ws gs r (j + 1)
def keptV (o : MOrd) (l : List Int) (gs : List (List Int)) : Bool := keptL (gwL o.bins l) gs o.limits 0
@[simp] theorem gwL_nil (bs : List MBin) : gwL bs [] = [] := by cases bs <;> rfl
def kpE (l : List Int) (gs : List (List Int)) (r : List (Nat × AV)) : List (Nat × AV) := (1, .sl false false .U .no l.length (eInts l)) :: (2, .sl false false .U .no gs.length (eLL gs)) :: (3, .ptr (.own 3) 0) :: r
def kpS0 (o : MOrd) (l : List Int) (gs : List (List Int)) (j : Nat) : St :=
  St.lit 59 (kpE l gs [(7, .s (.int .i64 j))]) [(3, aOrdC o)] [] []
def kpS1 (o : MOrd) (l : List Int) (gs : List (List Int)) (j : Nat) (p : Nat × Nat × Int) : St :=
  St.lit 59 (kpE l gs [(7, .s (.int .i64 j)), (8, .s (.int .i64 p.2.2)), (9, .s (.int .i64 p.2.1)), (10, .s (.int .i64 p.1))]) [(3, aOrdC o)] [] []
def kpS2 (o : MOrd) (l : List Int) (gs : List (List Int)) (j i : Nat) (p : Nat × Nat × Int) : St :=
  St.lit 59 (kpE l gs [(7, .s (.int .i64 j)), (8, .s (.int .i64 p.2.2)), (9, .s (.int .i64 p.2.1)), (10, .s (.int .i64 i)), (11, .s (.int .i64 p.1))]) [(3, aOrdC o)] [] []
attribute [simp] kpE kpS0 kpS1 kpS2

set_option maxHeartbeats 1000000 in
theorem kept_ok (o : MOrd) (l : List Int) (gs : List (List Int)) (h1 : o.limits.length < 1000000000) (hb : l.length = o.bins.length) (h2 : l.length < 1000000000) (hn : ∀ n ∈ l, n < 1000000000) (hg : gs.length = (gwL o.bins l).length) (hgl : gs.length < 1000000000) (hm : ∀ g ∈ gs, g.length = o.limits.length) : ACalls Try.prog 25 [.agg [.sl false false .U .no o.limits.length (eInts o.limits), .s (.int .i64 o.least), .s (.int .i64 o.most), .sl false false .U .no o.bins.length (eBins o.bins)], .sl false false .U .no l.length (eInts l), .sl false false .U .no gs.length (eLL gs)] [] (.ret (.s (.bool (keptV o l gs))) [] []) := by
  refine acalls_of_ew Try.func25 rfl rfl (by simp [Try.f25]) (rs := [.tmp 6]) rfl ?_
  refine EW.seq fun Ψ0 n0 x0 => ?_
  refine EW.region gs_nil ?_
  simp
  refine n0 _ ?_; clear n0 x0
  refine EW.seq fun Ψ1 n1 x1 => ?_
  refine EW.seq fun Ψ2 n2 x2 => ?_
  refine EW.region gs_nil ?_
  simp
  refine n2 _ ?_; clear n2 x2
  refine EW.block ?_
  refine EW.loopA (kpS0 o l gs) (fun j => j ≤ o.limits.length ∧ keptL (gwL o.bins l) gs (o.limits.drop j) j = keptV o l gs) (fun j => o.limits.length - j) 0 (St.le_lit rfl (by simp) (by simp) (by simp) (by simp) (by simp)) ?_ fun p hk => ?_
  · simp [keptV]
  rename Nat => j
  obtain ⟨jk, jw⟩ := hk
  refine EW.seq fun Ψ3 n3 x3 => ?_
  refine EW.seq fun Ψ4 n4 x4 => ?_
  refine EW.region gs_nil ?_
  simp
  refine n4 _ ?_; clear n4 x4
  refine EW.cond (t := _) (by rfl) (fun hc16 => ?_) (fun hc16 => ?_)
  · simp at hc16
    have e1 : o.limits[j]? = some o.limits[j] := List.getElem?_eq_getElem hc16
    refine EW.skip ?_
    refine n3 _ ?_; clear n3 x3
    refine EW.seq fun Ψ5 n5 x5 => ?_
    refine EW.block ?_
    refine EW.seq fun Ψ6 n6 x6 => ?_
    refine EW.region gs_nil ?_
    simp
    refine n6 _ ?_; clear n6 x6
    refine EW.seq fun Ψ7 n7 x7 => ?_
    refine EW.seq fun Ψ8 n8 x8 => ?_
    refine EW.region gs_nil ?_
    simp
    refine n8 _ ?_; clear n8 x8
    refine EW.block ?_
    refine EW.loopA (kpS1 o l gs j) (fun p => p.1 ≤ l.length ∧ p.2.1 + (gwL (o.bins.drop p.1) (l.drop p.1)).length = gs.length ∧ sumG j o.limits[j] (gwL (o.bins.drop p.1) (l.drop p.1)) (gs.drop p.2.1) p.2.2 = sumG j o.limits[j] (gwL o.bins l) gs 0) (fun p => l.length - p.1) (0, 0, 0) (St.le_lit rfl (by simp) (by simp) (by simp) (by simp) (by simp)) ?_ fun p hk => ?_
    · simp [hg]
    obtain ⟨i, a, s⟩ := p
    obtain ⟨ak, an, aw⟩ := hk
    simp only at ak an aw
    refine EW.seq fun Ψ9 n9 x9 => ?_
    refine EW.seq fun Ψ10 n10 x10 => ?_
    refine EW.region gs_nil ?_
    simp
    refine n10 _ ?_; clear n10 x10
    refine EW.cond (t := _) (by rfl) (fun hc22 => ?_) (fun hc22 => ?_)
    · simp at hc22
      have hib : i < o.bins.length := by omega
      have e2 : o.bins[i]? = some o.bins[i] := List.getElem?_eq_getElem hib
      have e4 : l[i]? = some l[i] := List.getElem?_eq_getElem hc22
      have hni := hn l[i] (List.getElem_mem hc22)
      refine EW.skip ?_
      refine n9 _ ?_; clear n9 x9
      refine EW.seq fun Ψ11 n11 x11 => ?_
      refine EW.block ?_
      refine EW.seq fun Ψ12 n12 x12 => ?_
      refine EW.region gs_nil ?_
      simp
      refine n12 _ ?_; clear n12 x12
      refine EW.block ?_
      refine EW.loopA (kpS2 o l gs j i) (fun p => (p.1 : Int) ≤ max 0 l[i] ∧ p.2.1 + (List.replicate (l[i].toNat - p.1) o.bins[i].w ++ gwL (o.bins.drop (i + 1)) (l.drop (i + 1))).length = gs.length ∧ sumG j o.limits[j] (List.replicate (l[i].toNat - p.1) o.bins[i].w ++ gwL (o.bins.drop (i + 1)) (l.drop (i + 1))) (gs.drop p.2.1) p.2.2 = sumG j o.limits[j] (gwL o.bins l) gs 0) (fun p => l[i].toNat - p.1) (0, a, s) (St.le_lit rfl (by simp) (by simp) (by simp) (by simp) (by simp)) ?_ fun p hk => ?_
      · rw [List.drop_eq_getElem_cons hib, List.drop_eq_getElem_cons hc22] at an aw; exact ⟨by simp; omega, by simpa [gwL] using an, by simpa [gwL] using aw⟩
      obtain ⟨k, a2, s2⟩ := p
      obtain ⟨bk, bn, bw⟩ := hk
      simp only at bk bn bw
      refine EW.seq fun Ψ13 n13 x13 => ?_
      refine EW.seq fun Ψ14 n14 x14 => ?_
      refine EW.region gs_nil ?_
      simp [hc22, e4]
      refine n14 _ ?_; clear n14 x14
      refine EW.cond (t := _) (by rfl) (fun hc30 => ?_) (fun hc30 => ?_)
      · simp at hc30
        have hr : l[i].toNat - k = (l[i].toNat - (k + 1)) + 1 := by omega
        have ha : a2 < gs.length := by rw [hr] at bn; simp at bn; omega
        have e6 : gs[a2]? = some gs[a2] := List.getElem?_eq_getElem ha
        have hj : j < gs[a2].length := by rw [hm _ (List.getElem_mem ha)]; exact hc16
        have e7 : gs[a2][j]? = some gs[a2][j] := List.getElem?_eq_getElem hj
        have e5 : IntKind.i64.wrap ((a2 : Int) + 1) = a2 + 1 := wr_small (by omega) (by omega)
        refine EW.skip ?_
        refine n13 _ ?_; clear n13 x13
        refine EW.seq fun Ψ15 n15 x15 => ?_
        refine EW.block ?_
        refine EW.hide fun Ψ16 n16 => ?_
        refine EW.drawn [] mixed gs_nil (by kernel_rfl) ?_
        simp [hc22, hib, ha, hj, hc16, e1, e2, e6, e7]
        refine n16 _ _ ?_; clear n16
        refine n15 _ ?_; clear n15 x15
        refine EW.hide fun Ψ17 n17 => ?_
        refine EW.region gs_nil ?_
        simp
        refine n17 _ _ ?_; clear n17
        have e3 : IntKind.i64.wrap ((k : Int) + 1) = k + 1 := wr_small (by omega) (by omega)
        refine ⟨(k + 1, a2 + 1, wr (s2 + wr (o.bins[i].w * wr (gs[a2][j] - o.limits[j])))), (St.le_lit rfl (by simp [e3, e5]) (by simp) (by simp) (by simp) (by simp)), ?_, ?_⟩
        · refine ⟨by omega, by simp at bn ⊢; omega, ?_⟩
          rw [← bw, hr, List.drop_eq_getElem_cons ha, List.replicate_succ, List.cons_append, sumG]
          simp [hj]
        · simp; omega
      · simp at hc30
        have hkl : l[i].toNat - k = 0 := by omega
        rw [hkl] at bn bw
        simp only [List.replicate_zero, List.nil_append] at bn bw
        refine EW.exit ?_
        refine x13 _ _ rfl ?_; clear n13 x13
        refine n11 _ ?_; clear n11 x11
        refine EW.hide fun Ψ18 n18 => ?_
        refine EW.region gs_nil ?_
        simp
        refine n18 _ _ ?_; clear n18
        have e3 : IntKind.i64.wrap ((i : Int) + 1) = i + 1 := wr_small (by omega) (by omega)
        refine ⟨(i + 1, a2, s2), (St.le_lit rfl (by simp [e3]) (by simp) (by simp) (by simp) (by simp)), ?_, ?_⟩
        · exact ⟨by omega, bn, bw⟩
        · simp; omega
    · simp at hc22
      have hkl : i = l.length := by omega
      subst hkl
      simp [sumG] at aw
      refine EW.exit ?_
      refine x9 _ _ rfl ?_; clear n9 x9
      refine n7 _ ?_; clear n7 x7
      refine EW.seq fun Ψ19 n19 x19 => ?_
      refine EW.region gs_nil ?_
      simp
      refine n19 _ ?_; clear n19 x19
      refine EW.cond (t := _) (by rfl) (fun hc58 => ?_) (fun hc58 => ?_)
      · simp at hc58
        have hv : keptV o l gs = false := by rw [← jw, List.drop_eq_getElem_cons hc16, keptL, ← aw, if_pos hc58]
        refine EW.seq fun Ψ20 n20 x20 => ?_
        refine EW.region gs_nil ?_
        simp
        refine n20 _ ?_; clear n20 x20
        refine EW.ret ?_
        refine x5 _ _ rfl ?_; clear n5 x5
        refine x1 _ _ rfl ?_; clear n1 x1
        refine ⟨_, _, _, rfl, ?_, ?_, ?_, ?_, ?_⟩ <;> simp [hv]
      · simp at hc58
        refine EW.skip ?_
        refine n5 _ ?_; clear n5 x5
        refine EW.hide fun Ψ21 n21 => ?_
        refine EW.region gs_nil ?_
        simp
        refine n21 _ _ ?_; clear n21
        have e3 : IntKind.i64.wrap ((j : Int) + 1) = j + 1 := wr_small (by omega) (by omega)
        refine ⟨(j + 1), (St.le_lit rfl (by simp [e3]) (by simp) (by simp) (by simp) (by simp)), ?_, ?_⟩
        · refine ⟨hc16, ?_⟩
          rw [← jw, List.drop_eq_getElem_cons hc16, keptL, ← aw, if_neg (by omega)]
        · show _ - (j + 1) < _; omega
  · simp at hc16
    have hkl : j = o.limits.length := by omega
    have hv : keptV o l gs = true := by rw [← jw, hkl, List.drop_length, keptL]
    refine EW.exit ?_
    refine x3 _ _ rfl ?_; clear n3 x3
    refine n1 _ ?_; clear n1 x1
    refine EW.seq fun Ψ22 n22 x22 => ?_
    refine EW.region gs_nil ?_
    simp
    refine n22 _ ?_; clear n22 x22
    refine EW.ret ?_
    refine ⟨_, _, _, rfl, ?_, ?_, ?_, ?_, ?_⟩ <;> simp [hv]


/-! a table for many calls of 'kept' -/
def dInts (cs : List D) : List Int := cs.map fun | .s (.int _ n) => n | _ => 0
def dLL (cs : List D) : List (List Int) := cs.map fun | .sl _ c => dInts c | _ => []
@[simp] theorem dInts_e (l : List Int) : dInts (eInts l) = l := by
  simp only [dInts, eInts, List.map_map]
  exact List.map_id _
@[simp] theorem dLL_e (l : List (List Int)) : dLL (eLL l) = l := by
  simp only [dLL, eLL, List.map_map]
  have : ((fun d : D => match d with | .sl _ c => dInts c | _ => []) ∘ fun x : List Int => D.sl x.length (eInts x)) = id := by funext x; simp
  rw [this, List.map_id]
def okGs (o : MOrd) (l : List Int) (gs : List (List Int)) : Prop := gs.length = (gwL o.bins l).length ∧ ∀ g ∈ gs, g.length = o.limits.length
def oArg (o : MOrd) : AV := .agg [.sl false false .U .no o.limits.length (eInts o.limits), .s (.int .i64 o.least), .s (.int .i64 o.most), .sl false false .U .no o.bins.length (eBins o.bins)]
def lArg (l : List Int) : AV := .sl false false .U .no l.length (eInts l)
open Classical in
noncomputable def gKp (o : MOrd) (l : List Int) : List AV → List (List AV) → Option Out
  | [a, b, .sl false false .U .no n cs], [] => if a = oArg o ∧ b = lArg l ∧ n = (dLL cs).length ∧ cs = eLL (dLL cs) ∧ okGs o l (dLL cs) then some (.ret (.s (.bool (keptV o l (dLL cs)))) [] []) else none
  | _, _ => none
attribute [simp] oArg lArg gKp
theorem gKp_ok (o : MOrd) (l : List Int) (h1 : o.limits.length < 1000000000) (hb : l.length = o.bins.length) (h2 : l.length < 1000000000) (hn : ∀ n ∈ l, n < 1000000000) (hgl : (gwL o.bins l).length < 1000000000) : ∀ a e r, gKp o l a e = some r → ACalls Try.prog 25 a e r := by
  intro a e r h
  unfold gKp at h
  split at h
  · split at h
    · rename_i q
      obtain ⟨rfl, rfl, rfl, q4, q5⟩ := q
      cases h
      rw [q4, dLL_e]
      exact kept_ok o l _ h1 hb h2 hn q5.1 (by have := q5.1; omega) q5.2
    · cases h
  · cases h

end Go.Ev
end
