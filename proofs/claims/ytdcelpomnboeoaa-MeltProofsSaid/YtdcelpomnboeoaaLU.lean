/- Lemmas for the claims of this seat: an evaluator over abstract values, its soundness, and the contracts of the functions of melt that it walks; no premise beyond what each theorem states. -/
import Derived.Test.YtdcelpomnboeoaaKE
import Derived.Test.YtdcelpomnboeoaaLA
import Derived.Test.YtdcelpomnboeoaaLE
import Derived.Test.YtdcelpomnboeoaaLF
import Derived.Test.YtdcelpomnboeoaaLG
import Derived.Test.YtdcelpomnboeoaaLH
import Derived.Test.YtdcelpomnboeoaaLM
import Derived.Test.YtdcelpomnboeoaaLO
import Derived.Test.YtdcelpomnboeoaaLS
import Derived.Test.YtdcelpomnboeoaaLT
import Derived.Test.YtdcelpomnboeoaaLB
import Derived.Test.YtdcelpomnboeoaaLC
import Derived.Test.YtdcelpomnboeoaaLD
import Derived.Test.YtdcelpomnboeoaaLI

section
set_option linter.all false
open Go Go.Ev Go.Proofs
namespace Go.Ev
set_option linter.unusedSimpArgs false
set_option linter.unusedVariables false

set_option maxRecDepth 100000

/-! ### Bounds in cells that are turned -/
def aBds (l : List MBd) : List AV := l.flatMap fun b => [.s (.int .i64 b.r), .s (.int .i64 b.a), .s (.int .i64 b.c)]
theorem aBds_cons (b : MBd) (l : List MBd) : aBds (b :: l) = .s (.int .i64 b.r) :: .s (.int .i64 b.a) :: .s (.int .i64 b.c) :: aBds l := rfl
@[simp] theorem map_eBds (g f : Bool) (l : List MBd) : (eBds l).map (D.av g f) = aBds l := by
  induction l with
  | nil => rfl
  | cons b l ih => rw [eBds_cons, aBds_cons]; simp only [List.map_cons, ih]; rfl
@[simp] theorem aBds_len (l : List MBd) : (aBds l).length = l.length * 3 := by
  induction l with
  | nil => rfl
  | cons b l ih => rw [aBds_cons]; simp only [List.length_cons, ih]; omega
theorem aBds_mem {x : AV} {l : List MBd} (h : x ∈ aBds l) : ∃ i, x = .s (.int .i64 i) := by
  obtain ⟨b, _, hx⟩ := List.mem_flatMap.1 h
  simp only [List.mem_cons, List.not_mem_nil, or_false] at hx
  rcases hx with rfl | rfl | rfl <;> exact ⟨_, rfl⟩
@[simp] theorem aBds_nil (l : List MBd) : (aBds l = []) ↔ (l = []) := by cases l <;> simp [aBds]
@[simp high] theorem aBds_noMen (d : Nat) (l : List MBd) : noMen d (aBds l) = true := by
  unfold noMen
  refine List.all_eq_true.2 fun x hx => ?_
  obtain ⟨i, rfl⟩ := aBds_mem hx
  rfl
@[simp] theorem aBds_noMen' (d : Nat) (l : List MBd) : (∀ x, x ∈ aBds l → ¬ Ref.own d ∈ x.refs) ↔ True := by
  refine iff_true_intro fun x hx => ?_
  obtain ⟨i, rfl⟩ := aBds_mem hx
  simp [AV.refs]
@[simp] theorem aBds_purge (d : Nat) : ∀ (l : List MBd), (aBds l).map (purgeAV d) = aBds l
  | [] => rfl
  | b :: l => by rw [aBds_cons]; simp only [List.map_cons, aBds_purge d l]; rfl
@[simp] theorem aBds_isCell (l : List MBd) : (aBds l).all AV.isCell = true := by
  refine List.all_eq_true.2 fun x hx => ?_
  obtain ⟨i, rfl⟩ := aBds_mem hx
  rfl
@[simp] theorem aBds_mapRef (ρ : Ref → Option Ref) : ∀ (l : List MBd), mapRefL ρ (aBds l) = aBds l
  | [] => rfl
  | b :: l => by rw [aBds_cons]; simp only [mapRefL, aBds_mapRef ρ l]; rfl
@[simp] theorem aBds_asObj : ∀ (l : List MBd), asObjL (aBds l) = aBds l
  | [] => rfl
  | b :: l => by rw [aBds_cons]; simp only [asObjL, aBds_asObj l]; rfl
@[simp] theorem aBds_refs : ∀ (l : List MBd), refsL (aBds l) = []
  | [] => rfl
  | b :: l => by rw [aBds_cons]; simp only [refsL, aBds_refs l]; rfl
@[simp] theorem aBds_toDs : ∀ (l : List MBd), toDs? (aBds l) = some (eBds l, true)
  | [] => rfl
  | b :: l => by rw [aBds_cons]; simp only [toDs?, aBds_toDs l]; rfl
@[simp] theorem aBds_okIn (R : Ref → Bool) (T : Nat → Bool) : ∀ (l : List MBd), okInL R T (aBds l) = true
  | [] => rfl
  | b :: l => by rw [aBds_cons]; simp only [okInL, aBds_okIn R T l]; rfl
@[simp] theorem aBds_put : ∀ {l : List MBd} {i : Nat} {q a c : Int}, i < l.length → List.take (i * 3) (aBds l) ++ AV.s (.int .i64 q) :: AV.s (.int .i64 a) :: AV.s (.int .i64 c) :: List.drop (i * 3 + 3) (aBds l) = aBds (l.set i ⟨q, a, c⟩)
  | [], i, q, a, c, h => by simp at h
  | b :: l, 0, q, a, c, h => rfl
  | b :: l, i + 1, q, a, c, h => by
    have ih := aBds_put (l := l) (i := i) (q := q) (a := a) (c := c) (by simpa using h)
    rw [show (i + 1) * 3 = i * 3 + 1 + 1 + 1 by omega, show i * 3 + 1 + 1 + 1 + 3 = (i * 3 + 3) + 1 + 1 + 1 by omega, aBds_cons, List.set_cons_succ, aBds_cons]
    simp only [List.take_succ_cons, List.drop_succ_cons, List.cons_append, ih]
theorem rnd_nat (a n : Int) (h1 : 1 ≤ n) (hn : n < 1000000000) : ∃ i : Nat, rndV a n = (i : Int) ∧ (i : Int) < n := by
  unfold rndV
  split
  · exact ⟨0, rfl, by omega⟩
  · have t1 := Int.tmod_lt_of_pos a (show 0 < n by omega)
    have t2 : -n < a.tmod n := by
      rcases Int.le_total 0 a with h | h
      · have := Int.tmod_nonneg n h; omega
      · have h1 := Int.tmod_lt_of_pos (-a) (show 0 < n by omega)
        rw [Int.neg_tmod] at h1
        omega
    have w : IntKind.i64.wrap (a.tmod n + n) = a.tmod n + n := wr_small (by omega) (by omega)
    rw [w]
    have s1 := Int.tmod_nonneg n (show 0 ≤ a.tmod n + n by omega)
    have s2 := Int.tmod_lt_of_pos (a.tmod n + n) (show 0 < n by omega)
    exact ⟨((a.tmod n + n).tmod n).toNat, by omega, by omega⟩
theorem prvL_le {o : MOrd} (k : OkO o) (pr : Int) : (prvL o pr).length < 6000 := by
  unfold prvL proveN
  split
  · cases h : plainL o pr 41 (wholeB o) with
    | none => simp
    | some p =>
      have h1 := plain_vol k pr 41 _ (whole_X k) p h
      have h2 := whole_vol k
      simp only [Option.getD_some]
      omega
  · simp
theorem eBds_inj : ∀ {a b : List MBd}, eBds a = eBds b → a = b
  | [], [], _ => rfl
  | [], _ :: _, h => by simp at h
  | _ :: _, [], h => by simp at h
  | x :: a, y :: b, h => by
    rw [eBds_cons, eBds_cons] at h
    simp only [List.cons.injEq, D.s.injEq, Value.int.injEq, true_and] at h
    obtain ⟨h1, h2, h3, h4⟩ := h
    rw [eBds_inj h4, MBd.ext h1 h2 h3]
def eLB (l : List (List MBd)) : List D := l.map fun x => .sl x.length (eBds x)
@[simp] theorem eLB_len (l : List (List MBd)) : (eLB l).length = l.length := by simp [eLB]
@[simp] theorem eLB_get (l : List (List MBd)) (i : Nat) : (eLB l)[i]? = (l[i]?).map fun x => D.sl x.length (eBds x) := by simp [eLB]
@[simp] theorem eLB_gE (l : List (List MBd)) (i : Nat) (h : i < (eLB l).length) : (eLB l)[i] = D.sl (l[i]'(by simpa using h)).length (eBds (l[i]'(by simpa using h))) := by simp [eLB]
def mfE (pr at_ : Int) (p : List MBd) (r : List (Nat × AV)) : List (Nat × AV) := (1, .s (.int .i64 pr)) :: (2, .sl false false .U .no p.length (eBds p)) :: (4, .s (.int .i64 at_)) :: (6, .ptr (.own 6) 0) :: (9, .ptr (.own 9) 0) :: r
def mfO (o : MOrd) (q a c : Int) (r : List (Nat × List AV)) : List (Nat × List AV) := (6, aOrdC o) :: (9, [.s (.int .i64 q), .s (.int .i64 a), .s (.int .i64 c)]) :: r
def mfJ1 (o : MOrd) (pr at_ q a c : Int) (p : List MBd) (nums : List Int) (b : Bool) : St := St.lit 203 (mfE pr at_ p [(5, .sl false false .U .no nums.length (eInts nums)), (51, .s (.bool b))]) (mfO o q a c []) [] []
def mfJ2 (o m : MOrd) (pr at_ q a c y pc : Int) (p L : List MBd) (O : List MBd) : St :=
  St.lit 203 (mfE pr at_ p [(13, .ptr (.own 55006) 0), (14, .ptr (.own 14) 0), (16, .s (.int .i64 pc)), (18, .sl false false .U .no L.length (eBds L)), (20, .sm (.own 82) O.length .no)]) (mfO o q a c [(55006, [.s (.int .u64 y)]), (14, aOrdC m), (82, aBds O)]) [] []
def mfS (os : List MOrd) (ps : List Int) (ls : List (List MBd)) (k : Nat) : St :=
  St.lit 203 [(21, .sl false false .U .no os.length (eOrds os)), (22, .sl false false .U .no ps.length (eInts ps)), (23, .sl false false .U .no ls.length (eLB ls)), (24, .s (.int .i64 k))] [] [] []
attribute [simp] mfE mfO mfJ1 mfJ2 mfS
theorem prvL_len (o : MOrd) (pr : Int) : (prvL o pr).length < 2 ^ 42 := by
  unfold prvL proveN
  split
  · cases h : plainL o pr 41 (wholeB o) with
    | none => simp
    | some p => have := plainL_len o pr 41 _ p h; exact Nat.lt_of_lt_of_le this (Nat.pow_le_pow_right (by omega) (by omega))
  · simp

set_option maxHeartbeats 8000000 in
theorem proofs_ok (o m : MOrd) (pr at_ q a c y0 : Int) (p : List MBd) (nums : List Int) (hl : (nums.length : Int) < 9223372036854775807) (hm : m = ordOf 3 2 3 (feedS nums)) (hy : y0 = ordS 3 2 3 (feedS nums)) (km : OkO m) : ACalls Try.prog 10 [.agg [.sl false false .U .no o.limits.length (eInts o.limits), .s (.int .i64 o.least), .s (.int .i64 o.most), .sl false false .U .no o.bins.length (eBins o.bins)], .s (.int .i64 pr), .sl false false .U .no p.length (eBds p), .agg [.s (.int .i64 q), .s (.int .i64 a), .s (.int .i64 c)], .s (.int .i64 at_), .sl false false .U .no nums.length (eInts nums)] [] (.ret (.s (.bool true)) [] []) := by
  have c1 := orderOf_ok 3 2 3 (feedS nums) (by decide) (by decide)
  rw [← hm, ← hy] at c1
  clear hm hy
  have c4 := either_ok [cheapC m, IntKind.i64.wrap (cheapC m + 1), IntKind.i64.wrap (cheapC m - 1), belV 200 y0] (belS 200 y0) (by show ((4 : Nat) : Int) < _; omega)
  obtain ⟨pc, hpc⟩ : ∃ pc, pc = maxI 0 (eitV [cheapC m, IntKind.i64.wrap (cheapC m + 1), IntKind.i64.wrap (cheapC m - 1), belV 200 y0] (belS 200 y0)) := ⟨_, rfl⟩
  obtain ⟨y3, hy3⟩ : ∃ y3, y3 = eitS [cheapC m, IntKind.i64.wrap (cheapC m + 1), IntKind.i64.wrap (cheapC m - 1), belV 200 y0] (belS 200 y0) := ⟨_, rfl⟩
  rw [← hy3] at c4
  have hLl := prvL_le km pc
  have mz := km.sz
  refine acalls_of_ew Try.func10 rfl rfl (by simp [Try.f10]) (rs := [.tmp 12]) rfl ?_
  refine EW.seq fun Ψ0 n0 x0 => ?_
  refine EW.region gs_nil ?_
  simp
  refine n0 _ ?_; clear n0 x0
  refine EW.seq fun Ψ1 n1 x1 => ?_
  refine EW.seqJ (mfJ1 o pr at_ q a c p nums) (fun b => (b = false → hugeB o = false) ∧ (b = false → p.length ≤ 6060)) (fun p hp => ?_) ?_
  rotate_left
  · skip
    refine EW.hide fun Ψ n => ?_
    cases hh : hugeB o
    · cases hw : wideB o
      · refine EW.region (gs_cons (huge_ok o) (gs_cons (wide_ok o (huge_sz hh).sz) gs_nil)) ?_
        by_cases m1 : 60 < p.length
        · by_cases m2 : p.length ≤ 6000
          · simp [hh, hw, m1, m2, show (60 : Int) < p.length by omega, show (p.length : Int) ≤ 6000 by omega]
            exact n _ _ ⟨true, ⟨fun _ => hh, fun h => (by cases h)⟩, St.le_lit rfl (by simp) (by simp) (by simp) (by simp) (by simp)⟩
          · by_cases m3 : 6060 < p.length
            · simp [hh, hw, m1, m2, m3, show (60 : Int) < p.length by omega, show ¬ (p.length : Int) ≤ 6000 by omega, show (6060 : Int) < p.length by omega]
              exact n _ _ ⟨true, ⟨fun _ => hh, fun h => (by cases h)⟩, St.le_lit rfl (by simp) (by simp) (by simp) (by simp) (by simp)⟩
            · simp [hh, hw, m1, m2, m3, show (60 : Int) < p.length by omega, show ¬ (p.length : Int) ≤ 6000 by omega, show ¬ (6060 : Int) < p.length by omega]
              exact n _ _ ⟨false, ⟨fun _ => hh, fun _ => by omega⟩, St.le_lit rfl (by simp) (by simp) (by simp) (by simp) (by simp)⟩
        · simp [hh, hw, m1, show ¬ (60 : Int) < p.length by omega, show ¬ (6060 : Int) < p.length by omega]
          exact n _ _ ⟨false, ⟨fun _ => hh, fun _ => by omega⟩, St.le_lit rfl (by simp) (by simp) (by simp) (by simp) (by simp)⟩
      · refine EW.region (gs_cons (huge_ok o) (gs_cons (wide_ok o (huge_sz hh).sz) gs_nil)) ?_
        simp [hh, hw]
        exact n _ _ ⟨true, ⟨fun _ => hh, fun h => (by cases h)⟩, St.le_lit rfl (by simp) (by simp) (by simp) (by simp) (by simp)⟩
    · refine EW.region (gs_cons (huge_ok o) gs_nil) ?_
      simp [hh]
      exact n _ _ ⟨true, ⟨fun h => (by cases h), fun h => (by cases h)⟩, St.le_lit rfl (by simp) (by simp) (by simp) (by simp) (by simp)⟩
  rename Bool => b51
  have hp1 := hp
  refine EW.cond (t := _) (by rfl) (fun hc51 => ?_) (fun hc51 => ?_)
  · clear hc51
    refine EW.seq fun Ψ3 n3 x3 => ?_
    refine EW.region (gs_cons alive_ok gs_nil) ?_
    simp
    refine n3 _ ?_; clear n3 x3
    refine EW.ret ?_
    refine x1 _ _ rfl ?_; clear n1 x1
    refine ⟨_, _, _, rfl, ?_, ?_, ?_, ?_, ?_⟩ <;> simp
  · have hb0 := hc51
    have hh := hp1.1 (by simpa using hb0)
    have hpl6 := hp1.2 (by simpa using hb0)
    have hz := (huge_sz hh).sz
    clear hp1 hp hb0
    refine EW.skip ?_
    refine n1 _ ?_; clear n1 x1
    refine EW.seq fun Ψ4 n4 x4 => ?_
    refine EW.region (gs_cons (feedOf_ok nums hl) gs_nil) ?_
    simp
    refine n4 _ ?_; clear n4 x4
    refine EW.seq fun Ψ5 n5 x5 => ?_
    refine EW.region (gs_cons c1 gs_nil) ?_
    simp
    refine n5 _ ?_; clear n5 x5
    refine EW.seq fun Ψ6 n6 x6 => ?_
    refine EW.region (gs_cons (rCheapest_ok m mz) gs_nil) ?_
    simp
    refine n6 _ ?_; clear n6 x6
    refine EW.seq fun Ψ7 n7 x7 => ?_
    refine EW.region (gF_ok (gs_cons c4 gs_nil)) ?_
    simp [← hpc]
    refine n7 _ ?_; clear n7 x7
    refine EW.seq fun Ψ8 n8 x8 => ?_
    refine EW.region (gs_cons (rProve_ok m pc mz) gs_nil) ?_
    simp [← hpc]
    refine n8 _ ?_; clear n8 x8
    refine EW.seq fun Ψ9 n9 x9 => ?_
    refine EW.region (gs_mut (d := 82) (o := .pan undef) gs_nil) ?_
    simp [show (prvL m pc).length * 24 ≤ 140737488355328 by omega]
    refine n9 _ ?_; clear n9 x9
    refine EW.seqJ (mfJ2 o m pr at_ q a c y3 pc p (prvL m pc)) (fun O => O.length = (prvL m pc).length) (fun p hp => ?_) ?_
    rotate_left
    · refine EW.hide fun ΨJ nJ => ?_
      refine EW.seq fun Ψ11 n11 x11 => ?_
      refine EW.region gs_nil ?_
      simp
      refine n11 _ ?_; clear n11 x11
      refine EW.cond (t := _) (by rfl) (fun hc85 => ?_) (fun hc85 => ?_)
      · have hpos : 0 < (prvL m pc).length := by simp [← hpc] at hc85; omega
        obtain ⟨i, hi1, hi2⟩ := rnd_nat at_ (prvL m pc).length (by omega) (by omega)
        have hil : i < (prvL m pc).length := by omega
        refine EW.hide fun Ψ12 n12 => ?_
        refine EW.drawn [(4, 5)] mixed (gs_cons (round_ok at_ (prvL m pc).length (by omega)) gs_nil) (by kernel_rfl) ?_
        simp [hi1, hi2, hil, show i * 3 + 1 + 1 + 1 ≤ (prvL m pc).length * 3 by omega, show i * 3 + 3 ≤ (prvL m pc).length * 3 by omega]
        refine n12 _ _ ?_; clear n12
        exact nJ _ _ ⟨(prvL m pc).set i ⟨q, a, c⟩, by simp, St.le_lit rfl (by simp [hpc]) (by simp) (by simp) (by simp) (by simp)⟩
      · clear hc85
        refine EW.skip ?_
        exact nJ _ _ ⟨prvL m pc, rfl, St.le_lit rfl (by simp [hpc]) (by simp) (by simp) (by simp) (by simp)⟩
    rename List MBd => O
    have hO := hp
    refine EW.seq fun Ψ13 n13 x13 => ?_
    refine EW.freeze (k := 82) (cs := aBds O) (ds := eBds O) (g := true) (nt := 203) (E := mfE pr at_ p [(13, .ptr (.own 55006) 0), (14, .ptr (.own 14) 0), (16, .s (.int .i64 pc)), (18, .sl false false .U .no (prvL m pc).length (eBds (prvL m pc)))]) (O := mfO o q a c [(55006, [.s (.int .u64 y3)]), (14, aOrdC m)]) (X := []) (T := []) [(20, O.length)] (by simp) (by simp) (St.le_lit rfl (by simp) (by simp) (by simp) (by simp) (by simp)) (by simp) (by simp; try (rintro rfl; rfl)) ?_
    refine EW.drawn [(0, 12), (1, 12), (2, 12), (3, 12), (4, 12)] mixed (gF_ok gs_nil) (by kernel_rfl) ?_
    simp
    refine n13 _ ?_; clear n13 x13
    refine EW.seq fun Ψ14 n14 x14 => ?_
    refine EW.seq fun Ψ15 n15 x15 => ?_
    refine EW.region gs_nil ?_
    simp
    refine n15 _ ?_; clear n15 x15
    refine EW.block ?_
    obtain ⟨os, hos⟩ : ∃ os, os = [o, m, m, m, m] := ⟨_, rfl⟩
    obtain ⟨ps, hps⟩ : ∃ ps, ps = [pr, pc, pc, pr, wr (pc + belV 9 y3)] := ⟨_, rfl⟩
    obtain ⟨ls, hls⟩ : ∃ ls, ls = [p, prvL m pc, O, p, prvL m pc] := ⟨_, rfl⟩
    have hzs : ∀ x ∈ os, szO x := by rw [hos]; simp only [List.mem_cons, List.not_mem_nil, or_false]; rintro x (rfl | rfl | rfl | rfl | rfl) <;> assumption
    have hll : ∀ x ∈ ls, x.length < 2 ^ 42 := by rw [hls]; simp only [List.mem_cons, List.not_mem_nil, or_false]; rintro x (rfl | rfl | rfl | rfl | rfl) <;> omega
    have hol : os.length = 5 := by rw [hos]; rfl
    have hpl : ps.length = 5 := by rw [hps]; rfl
    have hql : ls.length = 5 := by rw [hls]; rfl
    refine EW.loopA (mfS os ps ls) (fun k => k ≤ os.length) (fun k => os.length - k) 0 (St.le_lit rfl (by simp [hos, hps, hls, eLB]) (by simp) (by simp) (by simp) (by simp)) ?_ fun p hk => ?_
    · simp
    rename Nat => k
    refine EW.seq fun Ψ16 n16 x16 => ?_
    refine EW.seq fun Ψ17 n17 x17 => ?_
    refine EW.region gs_nil ?_
    simp
    refine n17 _ ?_; clear n17 x17
    refine EW.cond (t := _) (by rfl) (fun hc117 => ?_) (fun hc117 => ?_)
    · simp at hc117
      have e1 : os[k]? = some os[k] := List.getElem?_eq_getElem hc117
      have k1 : k < ps.length := by omega
      have k2 : k < ls.length := by omega
      have e2 : ps[k]? = some ps[k] := List.getElem?_eq_getElem k1
      have e5 : ls[k]? = some ls[k] := List.getElem?_eq_getElem k2
      have hx := hzs _ (List.getElem_mem hc117)
      obtain ⟨hx1, hx2, hx3⟩ := id hx
      have hq1 := hll _ (List.getElem_mem k2)
      have hq2 := prvL_len os[k] ps[k]
      refine EW.skip ?_
      refine n16 _ ?_; clear n16 x16
      refine EW.seq fun Ψ18 n18 x18 => ?_
      refine EW.block ?_
      refine EW.seq fun Ψ19 n19 x19 => ?_
      refine EW.drawn [(4, 9), (3, 11), (4, 11), (9, 11), (10, 11)] mixed (gs_cons (copyOrder_ok os[k] hx1 (by omega) hx3) gs_nil) (by kernel_rfl) ?_
      simp [hc117, eOrds_atm _ _ _ _ _ e1, show 4 ≤ os.length * 4 - k * 4 by omega, k1, k2, e2, e5, show ls[k].length * 24 ≤ 140737488355328 by omega]
      refine n19 _ ?_; clear n19 x19
      refine EW.seq fun Ψ20 n20 x20 => ?_
      refine EW.drawn [] mixed (gs_cons (Prove_ok os[k] ps[k] hx) gs_nil) (by kernel_rfl) ?_
      simp [hc117, eOrds_atm _ _ _ _ _ e1, show 4 ≤ os.length * 4 - k * 4 by omega, k1, k2, e2, e5]
      refine n20 _ ?_; clear n20 x20
      refine EW.seq fun Ψ21 n21 x21 => ?_
      refine EW.drawn [] mixed (gs_cons (rProve_ok os[k] ps[k] hx) gs_nil) (by kernel_rfl) ?_
      simp [hc117, eOrds_atm _ _ _ _ _ e1, show 4 ≤ os.length * 4 - k * 4 by omega, k1, k2, e2, e5]
      refine n21 _ ?_; clear n21 x21
      refine EW.seq fun Ψ22 n22 x22 => ?_
      by_cases hpe : ls[k] = prvL os[k] ps[k]
      · skip
        refine EW.drawn [(16, 20), (16, 24), (16, 28)] mixed (gs_cons (eqBds_ok (prvL os[k] ps[k]) (prvL os[k] ps[k]) (by omega)) (gs_cons (Verify_ok os[k] ps[k] ls[k] hx) (gs_cons (rVerify_ok os[k] ps[k] ls[k] hx) (gs_cons (eqOrds_ok os[k] os[k] (by omega) (by omega) (fun b hb => by have := hx3 b hb; omega)) (gs_cons (eqBds_ok ls[k] ls[k] (by omega)) gs_nil))))) (by kernel_rfl) ?_
        simp [hc117, eOrds_atm _ _ _ _ _ e1, show 4 ≤ os.length * 4 - k * 4 by omega, k1, k2, e2, e5, hpe]
        refine n22 _ ?_; clear n22 x22
        refine EW.cond (t := _) (by rfl) (fun hc201 => ?_) (fun hc201 => ?_)
        · simp at hc201
        · clear hc201
          refine EW.skip ?_
          refine n18 _ ?_; clear n18 x18
          refine EW.hide fun Ψ23 n23 => ?_
          refine EW.region gs_nil ?_
          simp
          refine n23 _ _ ?_; clear n23
          have e3 : IntKind.i64.wrap ((k : Int) + 1) = k + 1 := wr_small (by omega) (by omega)
          refine ⟨k + 1, (St.le_lit rfl (by simp [e3]) (by simp) (by simp) (by simp) (by simp)), ?_, ?_⟩
          · omega
          · omega
      · skip
        have hne : ¬ eBds ls[k] = eBds (prvL os[k] ps[k]) := fun h => hpe (eBds_inj h)
        refine EW.drawn [(16, 20), (16, 24), (16, 28)] mixed (gs_cons (eqBds_ok (prvL os[k] ps[k]) (prvL os[k] ps[k]) (by omega)) (gs_cons (Verify_ok os[k] ps[k] ls[k] hx) (gs_cons (rVerify_ok os[k] ps[k] ls[k] hx) (gs_cons (eqOrds_ok os[k] os[k] (by omega) (by omega) (fun b hb => by have := hx3 b hb; omega)) (gs_cons (eqBds_ok ls[k] ls[k] (by omega)) gs_nil))))) (by kernel_rfl) ?_
        simp [hc117, eOrds_atm _ _ _ _ _ e1, show 4 ≤ os.length * 4 - k * 4 by omega, k1, k2, e2, e5, hne]
        refine n22 _ ?_; clear n22 x22
        refine EW.cond (t := _) (by rfl) (fun hc201 => ?_) (fun hc201 => ?_)
        · simp at hc201
        · clear hc201
          refine EW.skip ?_
          refine n18 _ ?_; clear n18 x18
          refine EW.hide fun Ψ24 n24 => ?_
          refine EW.region gs_nil ?_
          simp
          refine n24 _ _ ?_; clear n24
          have e3 : IntKind.i64.wrap ((k : Int) + 1) = k + 1 := wr_small (by omega) (by omega)
          refine ⟨k + 1, (St.le_lit rfl (by simp [e3]) (by simp) (by simp) (by simp) (by simp)), ?_, ?_⟩
          · omega
          · omega
    · simp at hc117
      refine EW.exit ?_
      refine x16 _ _ rfl ?_; clear n16 x16
      refine n14 _ ?_; clear n14 x14
      refine EW.seq fun Ψ25 n25 x25 => ?_
      refine EW.region (gs_cons alive_ok gs_nil) ?_
      simp
      refine n25 _ ?_; clear n25 x25
      refine EW.ret ?_
      refine ⟨_, _, _, rfl, ?_, ?_, ?_, ?_, ?_⟩ <;> simp

end Go.Ev
end

section
set_option linter.all false
open Go Go.Ev Go.Proofs
namespace Go.Ev
set_option linter.unusedSimpArgs false
set_option linter.unusedVariables false
theorem in_bnd {H : Type} : In H Try.prog 64 eBd (fun _ => True) :=
  (In.struct Try.underlying64 (by kernel_rfl) (InFs.cons rfl (In.int Try.underlying3) (InFs.cons (by simp) (In.int Try.underlying3) (InFs.cons (by simp) (In.int Try.underlying3) InFs.nil)))).map
    (fun a => ⟨a.1, a.2.1, a.2.2.1⟩) (fun a => rfl) (fun _ _ => trivial)
theorem in_bds {H : Type} : In H Try.prog 62 (fun l : List MBd => [D.sl l.length (eBds l)]) (fun _ => True) :=
  (In.slice Try.underlying62 (by simp) in_bnd).map (fun a => a) (fun a => rfl) (fun _ _ => trivial)
theorem MeltProofs_ok (o : MOrd) (pr : Int) (p : List MBd) (b : MBd) (at_ : Int) (nums : List Int) (hl : (nums.length : Int) < 9223372036854775807) : ACalls Try.prog 10 [.agg [.sl false false .U .no o.limits.length (eInts o.limits), .s (.int .i64 o.least), .s (.int .i64 o.most), .sl false false .U .no o.bins.length (eBins o.bins)], .s (.int .i64 pr), .sl false false .U .no p.length (eBds p), .agg [.s (.int .i64 b.r), .s (.int .i64 b.a), .s (.int .i64 b.c)], .s (.int .i64 at_), .sl false false .U .no nums.length (eInts nums)] [] (.ret (.s (.bool true)) [] []) :=
  proofs_ok o _ pr at_ b.r b.a b.c _ p nums hl rfl rfl ((made 3 2 3 (feedS nums) (by decide) (by decide) (by decide)).ok (by decide) (by decide) (by decide))
end Go.Ev
end
