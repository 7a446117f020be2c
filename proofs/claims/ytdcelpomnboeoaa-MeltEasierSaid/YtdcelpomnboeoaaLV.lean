/- Lemmas for the claims of this seat: an evaluator over abstract values, its soundness, and the contracts of the functions of melt that it walks; no premise beyond what each theorem states. -/
import Derived.Test.YtdcelpomnboeoaaKE
import Derived.Test.YtdcelpomnboeoaaLG
import Derived.Test.YtdcelpomnboeoaaLH
import Derived.Test.YtdcelpomnboeoaaLI
import Derived.Test.YtdcelpomnboeoaaLK
import Derived.Test.YtdcelpomnboeoaaLO
import Derived.Test.YtdcelpomnboeoaaLA
import Derived.Test.YtdcelpomnboeoaaLM
import Derived.Test.YtdcelpomnboeoaaLB
import Derived.Test.YtdcelpomnboeoaaLC
import Derived.Test.YtdcelpomnboeoaaLD

section
set_option linter.all false
set_option linter.unusedVariables false
set_option linter.unusedSimpArgs false
namespace Go.Ev
variable {P : Program} {w0 w : World} {l : Lay} {st : St}

/-! ### A nil slice in a cell, held as an object that may grow -/
/-- The state in which cell i of object j, nil, is the empty object d. -/
def St.nilOwn (st : St) (d j : Nat) (cj : List AV) (i z : Nat) : St :=
  { st with own := upd (upd st.own d []) j (cj.set i (.sm (.own d) 0 (.grw d z))), tok := upd st.tok (XK d) (0, z) }
theorem Good.nilOwn {a : Act} {d j i z : Nat} {f g : Bool} {cj : List AV} (h : Good w0 w l st a) (hd : st.own d = none) (ht : st.tok (XK d) = none) (hj : st.own j = some cj) (hi : cj[i]? = some (.sl f g .Z .full 0 [])) : Good w0 w l (st.nilOwn d j cj i z) a := by
  obtain ⟨hm, he⟩ := h
  have hdj : d ≠ j := fun e => by rw [e, hj] at hd; cases hd
  have hrb : l.rb (.own d) = none := by
    cases hh : l.rb (.own d) with
    | none => rfl
    | some b => obtain ⟨cs, hc⟩ := hm.dom _ _ hh; simp [St.mem, hd] at hc
  have hxt : l.xt d = none := by
    cases hh : l.xt d with
    | none => rfl
    | some p => obtain ⟨q, _⟩ := hm.xtd d p.1 p.2 hh; rw [ht] at q; cases q
  have hle : Cx.le w (cx w0 w l st.tok) w (cx w0 w l (st.nilOwn d j cj i z).tok) := by
    refine ⟨fun _ _ _ h => h, fun _ _ _ _ => rfl, fun _ _ h => h, fun k n a cap h => ?_, fun _ h => h, fun _ _ => rfl, fun _ _ _ h => h⟩
    obtain ⟨n', z', h1, h2⟩ := h
    refine ⟨n', z', ?_, h2⟩
    have : k ≠ XK d := fun e => by rw [e, ht] at h1; cases h1
    simp only [St.nilOwn, upd, this, if_false]
    exact h1
  have hmj : (st.nilOwn d j cj i z).mem (.own j) = some (cj.set i (.sm (.own d) 0 (.grw d z))) := by simp [St.mem, St.nilOwn, upd]
  have hmd : (st.nilOwn d j cj i z).mem (.own d) = some [] := by simp [St.mem, St.nilOwn, upd, hdj]
  have hmo : ∀ r, r ≠ .own j → r ≠ .own d → (st.nilOwn d j cj i z).mem r = st.mem r := fun r h1 h2 => by
    cases r with
    | own k =>
      have e1 : k ≠ j := fun e => h1 (by rw [e])
      have e2 : k ≠ d := fun e => h2 (by rw [e])
      simp [St.mem, St.nilOwn, upd, e1, e2]
    | ext i => rfl
  refine ⟨⟨hm.os, hm.tape, hm.output, hm.size, hm.old, hm.bel, hm.ext, hm.extn, hm.inj, fun r b hr => ?_, fun r cs hr => ?_, hm.rblt, hm.rbow, hm.owobj, hm.owfree, hm.owold, hm.rdok, fun k b cap hk => ?_, hm.tokinj, hm.fzs, fun k c z' hk => ?_⟩, he.mono hle⟩
  · by_cases e1 : r = .own j
    · subst e1; exact ⟨_, hmj⟩
    · by_cases e2 : r = .own d
      · subst e2; exact ⟨_, hmd⟩
      · rw [hmo r e1 e2]; exact hm.dom r b hr
  · by_cases e1 : r = .own j
    · subst e1
      rw [hmj] at hr
      cases hr
      rcases hm.obj (.own j) cj hj with ⟨e, _⟩ | ⟨b, q1, cv, T, q2, q3, q4⟩
      · rw [e] at hi; cases hi
      · refine .inr ⟨b, q1, cv, T, q2, by simpa using q3, fun m x hx => ?_⟩
        by_cases e : m = i
        · subst e
          obtain ⟨v, u1, u2, u3⟩ := q4 _ _ hi
          have hx' : x = .sm (.own d) 0 (.grw d z) := by
            rw [List.getElem?_set] at hx
            split at hx
            · split at hx
              · cases hx; rfl
              · cases hx
            · rename_i hne; exact absurd rfl hne
          subst hx'
          refine ⟨v, u1, u2, ?_⟩
          simp only [RV, RS] at u3
          obtain ⟨ad, cap, rfl, p2, p3, p4⟩ := u3
          simp only [RV, RM]
          cases ad with
          | some ad => exact absurd rfl (p3.2.1 trivial)
          | none =>
            refine ⟨none, cap, rfl, p2, .inr ⟨trivial, p3.2.1⟩, trivial, ?_⟩
            show (match l.xt d with | some (c, z') => cap = c ∧ z = z' | none => cap = 0)
            rw [hxt]
            exact p3.2.1
        · rw [List.getElem?_set_ne (fun h => e h.symm)] at hx
          obtain ⟨v, u1, u2, u3⟩ := q4 m x hx
          exact ⟨v, u1, u2, RV.mono hle x v u3⟩
    · by_cases e2 : r = .own d
      · subst e2
        rw [hmd] at hr
        cases hr
        exact .inl ⟨rfl, hrb⟩
      · rw [hmo r e1 e2] at hr
        rcases hm.obj r cs hr with e0 | ⟨b, q1, q2⟩
        · exact .inl e0
        · exact .inr ⟨b, q1, q2.mono hle rfl⟩
  · obtain ⟨n, z', a1, a2⟩ := hm.tokd k b cap hk
    have : k ≠ XK d := fun e => by rw [e, ht] at a1; cases a1
    exact ⟨n, z', by simp only [St.nilOwn, upd, this, if_false]; exact a1, a2⟩
  · obtain ⟨a, q⟩ := hm.xtd k c z' hk
    refine ⟨?_, q⟩
    simp only [St.nilOwn, upd]
    split
    · rfl
    · exact a
/-- A nil slice in cell i of object j is held as the object d, which is empty and may grow. -/
theorem EW.nilOwn {Fe : Fence} {Φ : Ex → St → Prop} {c : Code} (d j i z : Nat) {f g : Bool} {cj : List AV} (hj : st.own j = some cj) (hd : st.own d = none) (ht : st.tok (XK d) = none) (hi : cj[i]? = some (.sl f g .Z .full 0 [])) (h : EW (Fe := Fe) P c (st.nilOwn d j cj i z) Φ) : EW (Fe := Fe) P c st Φ :=
  fun w0 w l a df Q hg hdf hP => h w0 w l a df Q (hg.nilOwn hd ht hj hi) hdf hP
end Go.Ev
end

section
set_option linter.all false
open Go Go.Ev Go.Proofs
namespace Go.Ev
set_option linter.unusedSimpArgs false
set_option linter.unusedVariables false

/-! ### All weights multiplied -/
def scB (k : Int) (b : MBin) : MBin := ⟨b.grams, wr (b.w * k), b.c, b.g⟩
def scO (k : Int) (o : MOrd) : MOrd := ⟨o.limits, wr (o.least * k), wr (o.most * k), o.bins.map (scB k)⟩
theorem scB_w {k : Int} {nl : Nat} {g : Int} {b : MBin} (hk : 1 ≤ k ∧ k ≤ 100) (h : MkB nl g b) : (scB k b).w = b.w * k ∧ 1 ≤ b.w * k ∧ b.w * k ≤ 2000 := by
  have h1 : 1 * 1 ≤ b.w * k := Int.mul_le_mul h.w.1 hk.1 (by decide) (by have := h.w; omega)
  have h2 : b.w * k ≤ 20 * 100 := Int.mul_le_mul h.w.2 hk.2 (by omega) (by decide)
  refine ⟨wr_small (by omega) (by omega), by omega, by omega⟩
theorem made_most (x : Int) : (ordOf 3 2 4 x).most ≤ 2400 := by
  have hg' : (0 : Int) ≤ 4 ∧ (4 : Int) ≤ 1000 := by decide
  have hl : ∀ n ∈ ooL 2 x, 20 ≤ n ∧ n ≤ 300 := limL_in _ _
  have hB : ∀ c ∈ ooB 3 2 4 x, MkB (ooL 2 x).length 4 c := binsL_ok _ 4 hg' hl _ _
  have nB : 1 ≤ (ooB 3 2 4 x).length ∧ ((ooB 3 2 4 x).length : Int) ≤ 3 := by
    have e : (ooB 3 2 4 x).length = (betV 1 3 (ooX1 2 x)).toNat := binsL_len _ _ _ _
    rw [e]
    have q6 := bet_in 1 3 (ooX1 2 x) (by decide) (by omega) (by omega)
    generalize betV 1 3 (ooX1 2 x) = t at *
    omega
  have hS := sumW_in (ooL 2 x).length 4 hg' (ooB 3 2 4 x) 0 hB (by decide) (by have := nB.2; generalize (ooB 3 2 4 x).length = t at *; omega)
  have hA : 0 ≤ ooA 3 2 4 x ∧ ooA 3 2 4 x ≤ 240 := by
    refine ⟨hS.1, Int.le_trans hS.2 ?_⟩
    have := nB.2
    generalize (ooB 3 2 4 x).length = t at *
    omega
  have e1 : wr (ooA 3 2 4 x + 2) = ooA 3 2 4 x + 2 := wr_small (by omega) (by omega)
  have l1 := bel_ge (ooA 3 2 4 x + 2) (ooX3 3 2 4 x) (by omega)
  have l2 := bel_lt (ooA 3 2 4 x + 2) (ooX3 3 2 4 x) (by omega) (by omega)
  have e2 : wr (ooA 3 2 4 x + 1) = ooA 3 2 4 x + 1 := wr_small (by omega) (by omega)
  have m5 := eit_mem (ooE 3 2 4 x) (ooX6 3 2 4 x) (by simp [ooE]) (by simp [ooE])
  have f1 := bel_ge 5 (ooX4 3 2 4 x) (by omega)
  have f2 := bel_lt 5 (ooX4 3 2 4 x) (by omega) (by omega)
  have f3 := bel_ge (ooA 3 2 4 x + 1) (ooX5 3 2 4 x) (by omega)
  have f4 := bel_lt (ooA 3 2 4 x + 1) (ooX5 3 2 4 x) (by omega) (by omega)
  have hL : 0 ≤ ooLe 3 2 4 x ∧ ooLe 3 2 4 x ≤ 241 := by unfold ooLe; rw [e1]; omega
  have hE : 0 ≤ eitV (ooE 3 2 4 x) (ooX6 3 2 4 x) ∧ eitV (ooE 3 2 4 x) (ooX6 3 2 4 x) ≤ 240 := by
    generalize eitV (ooE 3 2 4 x) (ooX6 3 2 4 x) = t at *
    simp only [ooE, e2, List.mem_cons, List.not_mem_nil, or_false] at m5
    generalize belV 5 (ooX4 3 2 4 x) = u at *
    generalize belV (ooA 3 2 4 x + 1) (ooX5 3 2 4 x) = v at *
    omega
  show ooMo 3 2 4 x ≤ 2400
  unfold ooMo
  generalize eitV (ooE 3 2 4 x) (ooX6 3 2 4 x) = t at *
  generalize ooLe 3 2 4 x = u at *
  rw [wr_small (by omega) (by omega)]
  omega
section
variable {o : MOrd} {k : Int} (hk : 1 ≤ k ∧ k ≤ 100) (m : MkO 3 2 4 o) (hm : o.most ≤ 2400)
include hk m
theorem sc_bins : ∀ b ∈ o.bins, (scB k b).w = b.w * k := fun b hb => (scB_w hk (m.bin b hb)).1
include hm
theorem sc_lo : (scO k o).least = o.least * k ∧ (scO k o).most = o.most * k ∧ 0 ≤ o.least * k ∧ o.least * k ≤ o.most * k ∧ o.most * k ≤ 240000 := by
  have h1 : 0 ≤ o.least * k := Int.mul_nonneg m.lo.1 (by omega)
  have h2 : o.least * k ≤ o.most * k := Int.mul_le_mul_of_nonneg_right m.lo.2.1 (by omega)
  have h3 : o.most * k ≤ 2400 * 100 := Int.mul_le_mul hm hk.2 (by omega) (by decide)
  exact ⟨wr_small (by omega) (by omega), wr_small (by omega) (by omega), h1, h2, h3⟩
theorem sc_ok : OkO (scO k o) := by
  have q := m.ok (by decide) (by decide) (by decide)
  have l := sc_lo hk m hm
  refine ⟨q.nl, q.lim, by rw [l.1, l.2.1]; exact ⟨l.2.2.1, l.2.2.2.1, l.2.2.2.2⟩, ?_, ?_, ?_⟩
  · simpa [scO] using q.ne
  · simpa [scO] using q.nb
  · intro b hb
    obtain ⟨c, hc, rfl⟩ := List.mem_map.1 hb
    have h1 := q.bin c hc
    have h2 := scB_w hk (m.bin c hc)
    exact ⟨h1.len, h1.rng, by rw [h2.1]; omega, h1.c, h1.g⟩
end
theorem catN_congr {α : Type} {f g : Nat → List α} (h : ∀ k, f k = g k) : ∀ n k, catN f n k = catN g n k
  | 0, _ => rfl
  | n + 1, k => by rw [catN, catN, h, catN_congr h n]
theorem allB_sc (k : Int) : ∀ (bs : List MBin) (l : List Int), allB (bs.map (scB k)) l = allB bs l
  | [], _ => rfl
  | b :: bs, l => by
    rw [List.map_cons, allB, allB]
    exact catN_congr (fun n => allB_sc k bs _) _ _
theorem sX_scw {k : Int} : ∀ (bs : List MBin) (l : List Int), (∀ b ∈ bs, (scB k b).w = b.w * k) → sX (·.w) (bs.map (scB k)) l = sX (·.w) bs l * k
  | b :: bs, n :: l, h => by
    rw [List.map_cons, sX, sX, sX_scw bs l fun c hc => h c (by simp [hc]), h b (by simp), Int.add_mul, Int.mul_assoc]
  | [], l, _ => by simp [sX]
  | b :: bs, [], _ => by simp [sX]
theorem sX_scc {k : Int} : ∀ (bs : List MBin) (l : List Int), sX (·.c) (bs.map (scB k)) l = sX (·.c) bs l
  | b :: bs, n :: l => by
    rw [List.map_cons, sX, sX, sX_scc bs l]; rfl
  | [], l => by simp [sX]
  | b :: bs, [] => by simp [sX]
theorem beyZ_sc {k : Int} (q : Bool) (j : Nat) (m : Int) : ∀ (bs : List MBin) (l : List Int), (∀ b ∈ bs, (scB k b).w = b.w * k) → beyZ q j m (bs.map (scB k)) l = beyZ q j m bs l * k
  | b :: bs, n :: l, h => by
    rw [List.map_cons, beyZ, beyZ, beyZ_sc q j m bs l fun c hc => h c (by simp [hc]), h b (by simp), Int.add_mul]
    congr 1
    show n * (b.w * k) * (endR q (b.grams.getD j (0, 0)) - m) = n * b.w * (endR q (b.grams.getD j (0, 0)) - m) * k
    generalize endR q (b.grams.getD j (0, 0)) - m = t
    rw [Int.mul_assoc (n * b.w) t k, Int.mul_comm t k, ← Int.mul_assoc (n * b.w) k t, Int.mul_assoc n b.w k]
  | [], l, _ => by simp [beyZ]
  | b :: bs, [], _ => by simp [beyZ]
theorem pos_mul {a k : Int} (hk : 1 ≤ k) : 0 < a * k ↔ 0 < a := by
  constructor
  · intro h
    apply Classical.byContradiction
    intro h'
    have : a * k ≤ 0 := Int.mul_nonpos_of_nonpos_of_nonneg (by omega) (by omega)
    omega
  · intro h
    exact Int.mul_pos h (by omega)
theorem le_mul {a b k : Int} (hk : 1 ≤ k) : a * k ≤ b * k ↔ a ≤ b := by
  constructor
  · intro h
    apply Classical.byContradiction
    intro h'
    have : b * k < a * k := Int.mul_lt_mul_of_pos_right (by omega) (by omega)
    omega
  · intro h
    exact Int.mul_le_mul_of_nonneg_right h (by omega)
theorem keepL_congr {o x : MOrd} (l : List Int) : ∀ (n j : Nat) (v : Int), (∀ q (i : Nat), j ≤ i → i < j + n → (0 < beyL q x.limits x.bins i l 0 0 ↔ 0 < beyL q o.limits o.bins i l 0 0)) → keepL x l n j v = keepL o l n j v
  | 0, _, _, _ => rfl
  | n + 1, j, v, h => by
    simp only [keepL, h false j (by omega) (by omega), h true j (by omega) (by omega)]
    split
    · rfl
    · exact keepL_congr l n (j + 1) _ fun q i h1 h2 => h q i (by omega) (by omega)
section
variable {o : MOrd} {k : Int} (hk : 1 ≤ k ∧ k ≤ 100) (m : MkO 3 2 4 o) (hm : o.most ≤ 2400) {l : List Int} (hl : okBl o l)
theorem sc_bl (hl : okBl o l) : okBl (scO k o) l := by
  refine ⟨by rw [hl.1]; simp [scO], fun i h h' => ?_⟩
  have hi : i < o.bins.length := by simpa [scO] using h
  have := hl.2 i hi h'
  simpa [scO, scB] using this
include hk m hm hl
theorem sc_keep : keepV (scO k o) l = keepV o l := by
  have q := m.ok (by decide) (by decide) (by decide)
  have q' := sc_ok hk m hm
  have hl' := sc_bl (k := k) hl
  unfold keepV
  refine keepL_congr l _ _ _ fun e i _ hi => ?_
  have hj : i < o.limits.length := by simpa [scO] using hi
  have hlen : l.length ≤ 4 := by rw [hl.1]; exact q.nb
  rw [beyL_eq e (scO k o).limits (scO k o).bins _ i (fun b hb => q'.bin b hb) rfl hj q'.lim l 0 0 (hl'.pos q') (by rw [hl'.1]; omega) (by omega) (by omega),
    beyL_eq e o.limits o.bins _ i (fun b hb => q.bin b hb) rfl hj q.lim l 0 0 (hl.pos q) (by rw [hl.1]; omega) (by omega) (by omega)]
  simp only [List.drop_zero, Int.zero_add]
  rw [show (scO k o).bins = o.bins.map (scB k) from rfl, beyZ_sc e i _ _ _ (sc_bins hk m)]
  exact pos_mul hk.1
theorem sc_weigh : weighL (scO k o).bins l 0 0 0 = ((weighL o.bins l 0 0 0).1 * k, (weighL o.bins l 0 0 0).2) := by
  have q := m.ok (by decide) (by decide) (by decide)
  rw [weighL_ok (sc_ok hk m hm) (sc_bl (k := k) hl), weighL_ok q hl]
  rw [show (scO k o).bins = o.bins.map (scB k) from rfl, sX_scw _ _ (sc_bins hk m), sX_scc]
theorem sc_next (s : List Int × Int) : nextC (scO k o) s l = nextC o s l := by
  have b := sc_lo hk m hm
  have w := sc_weigh hk m hm hl
  have e : inB (weighL (scO k o).bins l 0 0 0).1 (scO k o).least (scO k o).most = inB (weighL o.bins l 0 0 0).1 o.least o.most := by
    rw [w, b.1, b.2.1]
    rw [Bool.eq_iff_iff, inB_iff, inB_iff, le_mul hk.1, le_mul hk.1]
  unfold nextC
  rw [e, w, sc_keep hk m hm hl]
end
section
variable {o : MOrd} {k : Int} (hk : 1 ≤ k ∧ k ≤ 100) (m : MkO 3 2 4 o) (hm : o.most ≤ 2400)
include hk m hm
theorem sc_fold : ∀ (L : List (List Int)) (s : List Int × Int), (∀ x ∈ L, okBl o x) → L.foldl (nextC (scO k o)) s = L.foldl (nextC o) s
  | [], s, _ => rfl
  | x :: L, s, h => by
    rw [List.foldl_cons, List.foldl_cons, sc_next hk m hm (h x (by simp)), sc_fold L _ fun y hy => h y (by simp [hy])]
theorem sc_cheap : cheapR (scO k o) = cheapR o := by
  unfold cheapR
  rw [bFold_all, bFold_all, show (scO k o).bins = o.bins.map (scB k) from rfl, allB_sc]
  exact sc_fold hk m hm _ _ fun x hx => all_ok hx
theorem sc_cheapB : cheapB (scO k o) = cheapB o ∧ cheapC (scO k o) = cheapC o ∧ cheapE (scO k o) = cheapE o := by
  have e1 := ordErr_0 (sc_ok hk m hm)
  have e2 := ordErr_0 (m.ok (by decide) (by decide) (by decide))
  unfold cheapB cheapC cheapE
  rw [if_pos e1, if_pos e1, if_pos e1, if_pos e2, if_pos e2, if_pos e2, sc_cheap hk m hm]
  exact ⟨rfl, rfl, rfl⟩
end
end Go.Ev
end

section
set_option linter.all false
open Go Go.Ev Go.Proofs
namespace Go.Ev
set_option linter.unusedSimpArgs false
set_option linter.unusedVariables false


/-! ### Bins in cells that are turned -/
def aBin (b : MBin) : List AV := [.sl false false .U .no b.grams.length (eRngs b.grams), .s (.int .i64 b.w), .s (.int .i64 b.c), .s (.int .i64 b.g)]
def aBins (l : List MBin) : List AV := l.flatMap aBin
theorem aBins_cons (b : MBin) (l : List MBin) : aBins (b :: l) = .sl false false .U .no b.grams.length (eRngs b.grams) :: .s (.int .i64 b.w) :: .s (.int .i64 b.c) :: .s (.int .i64 b.g) :: aBins l := rfl
theorem aBins_app (l r : List MBin) : aBins (l ++ r) = aBins l ++ aBins r := by simp [aBins]
@[simp] theorem aBins_snoc (l : List MBin) (b : MBin) : aBins l ++ [AV.sl false false .U .no b.grams.length (eRngs b.grams), .s (.int .i64 b.w), .s (.int .i64 b.c), .s (.int .i64 b.g)] = aBins (l ++ [b]) := by rw [aBins_app]; rfl
@[simp] theorem aBins_nil0 : aBins [] = [] := rfl
theorem map_eBins (g f : Bool) (l : List MBin) (hg : g = false) (hf : f = false) : (eBins l).map (D.av g f) = aBins l := by
  subst hg; subst hf
  induction l with
  | nil => rfl
  | cons b l ih => rw [eBins_cons, aBins_cons]; simp only [List.map_cons, ih]; rfl
@[simp] theorem aBins_len (l : List MBin) : (aBins l).length = l.length * 4 := by
  induction l with
  | nil => rfl
  | cons b l ih => rw [aBins_cons]; simp only [List.length_cons, ih]; omega
theorem aBins_mem {x : AV} {l : List MBin} (h : x ∈ aBins l) : (∃ i, x = .s (.int .i64 i)) ∨ ∃ n cs, x = .sl false false .U .no n cs := by
  obtain ⟨b, _, hx⟩ := List.mem_flatMap.1 h
  simp only [aBin, List.mem_cons, List.not_mem_nil, or_false] at hx
  rcases hx with rfl | rfl | rfl | rfl
  · exact .inr ⟨_, _, rfl⟩
  all_goals exact .inl ⟨_, rfl⟩
@[simp] theorem aBins_nil (l : List MBin) : (aBins l = []) ↔ (l = []) := by cases l <;> simp [aBins_cons]
@[simp] theorem aBins_empty (l : List MBin) : (aBins l).isEmpty = l.isEmpty := by cases l <;> rfl
@[simp high] theorem aBins_noMen (d : Nat) (l : List MBin) : noMen d (aBins l) = true := by
  unfold noMen
  refine List.all_eq_true.2 fun x hx => ?_
  rcases aBins_mem hx with ⟨i, rfl⟩ | ⟨n, cs, rfl⟩ <;> rfl
@[simp] theorem aBins_noMen' (d : Nat) (l : List MBin) : (∀ x, x ∈ aBins l → ¬ Ref.own d ∈ x.refs) ↔ True := by
  refine iff_true_intro fun x hx => ?_
  rcases aBins_mem hx with ⟨i, rfl⟩ | ⟨n, cs, rfl⟩ <;> simp [AV.refs]
@[simp] theorem aBins_purge (d : Nat) : ∀ (l : List MBin), (aBins l).map (purgeAV d) = aBins l
  | [] => rfl
  | b :: l => by rw [aBins_cons]; simp only [List.map_cons, aBins_purge d l]; rfl
@[simp] theorem aBins_isCell (l : List MBin) : (aBins l).all AV.isCell = true := by
  refine List.all_eq_true.2 fun x hx => ?_
  rcases aBins_mem hx with ⟨i, rfl⟩ | ⟨n, cs, rfl⟩ <;> rfl
@[simp] theorem aBins_mapRef (ρ : Ref → Option Ref) : ∀ (l : List MBin), mapRefL ρ (aBins l) = aBins l
  | [] => rfl
  | b :: l => by rw [aBins_cons]; simp only [mapRefL, aBins_mapRef ρ l]; rfl
@[simp] theorem aBins_asObj : ∀ (l : List MBin), asObjL (aBins l) = aBins l
  | [] => rfl
  | b :: l => by rw [aBins_cons]; simp only [asObjL, aBins_asObj l]; rfl
@[simp] theorem aBins_refs : ∀ (l : List MBin), refsL (aBins l) = []
  | [] => rfl
  | b :: l => by rw [aBins_cons]; simp only [refsL, aBins_refs l]; rfl
theorem aBins_toDs : ∀ (l : List MBin), toDs? (aBins l) = some (eBins l, l.isEmpty)
  | [] => rfl
  | b :: l => by rw [aBins_cons]; simp only [toDs?, aBins_toDs l]; rfl
@[simp] theorem aBins_okIn (R : Ref → Bool) (T : Nat → Bool) : ∀ (l : List MBin), okInL R T (aBins l) = true
  | [] => rfl
  | b :: l => by rw [aBins_cons]; simp only [okInL, aBins_okIn R T l]; rfl
theorem aBins_1 : ∀ (l : List MBin) (i : Nat), (aBins l)[i * 4 + 1]? = (l[i]?).map fun b => AV.s (.int .i64 b.w)
  | [], i => by simp
  | b :: l, 0 => rfl
  | b :: l, i + 1 => by
    rw [show (i + 1) * 4 + 1 = (i * 4 + 1) + 1 + 1 + 1 + 1 by omega, aBins_cons]
    simp only [List.getElem?_cons_succ]
    exact aBins_1 l i
theorem aBins_putW : ∀ {l : List MBin} {i : Nat} {b : MBin} (v : Int), l[i]? = some b → List.take (i * 4 + 1) (aBins l) ++ AV.s (.int .i64 v) :: List.drop (i * 4 + 2) (aBins l) = aBins (l.set i ⟨b.grams, v, b.c, b.g⟩)
  | [], i, b, v, h => by simp at h
  | c :: l, 0, b, v, h => by
    simp at h
    subst h
    rfl
  | c :: l, i + 1, b, v, h => by
    have ih := aBins_putW (l := l) (i := i) v (by simpa using h)
    rw [show (i + 1) * 4 + 1 = (i * 4 + 1) + 1 + 1 + 1 + 1 by omega, show (i + 1) * 4 + 2 = (i * 4 + 2) + 1 + 1 + 1 + 1 by omega, aBins_cons, List.set_cons_succ, aBins_cons]
    simp only [List.take_succ_cons, List.drop_succ_cons, List.cons_append, ih]
/-- The first bins have their weights multiplied. -/
def scL (q : Int) (bs : List MBin) (k : Nat) : List MBin := (bs.take k).map (scB q) ++ bs.drop k
@[simp] theorem scL_0 (q : Int) (bs : List MBin) : scL q bs 0 = bs := by simp [scL]
@[simp] theorem scL_len (q : Int) (bs : List MBin) (k : Nat) : (scL q bs k).length = bs.length := by simp [scL]; omega
theorem scL_all (q : Int) (bs : List MBin) : scL q bs bs.length = bs.map (scB q) := by simp [scL]
theorem scL_get (q : Int) (bs : List MBin) (k : Nat) (h : k < bs.length) : (scL q bs k)[k]? = some bs[k] := by
  unfold scL
  rw [List.getElem?_append_right (by simp; omega)]
  simp [Nat.min_eq_left (Nat.le_of_lt h), h]
theorem scL_set (q : Int) (bs : List MBin) (k : Nat) (h : k < bs.length) : (scL q bs k).set k (scB q bs[k]) = scL q bs (k + 1) := by
  unfold scL
  rw [List.set_append_right _ _ (by simp; omega)]
  simp only [List.length_map, List.length_take, Nat.min_eq_left (Nat.le_of_lt h), Nat.sub_self]
  rw [List.drop_eq_getElem_cons h, List.set_cons_zero, List.take_succ_eq_append_getElem h, List.map_append, List.append_assoc]
  rfl
theorem scL_get1 (q : Int) (bs : List MBin) (k : Nat) (h : k < bs.length) : (aBins (scL q bs k))[k * 4 + 1]? = some (.s (.int .i64 bs[k].w)) := by rw [aBins_1, scL_get q bs k h]; rfl
theorem scL_put (q : Int) (bs : List MBin) (k : Nat) (h : k < bs.length) : List.take (k * 4 + 1) (aBins (scL q bs k)) ++ AV.s (.int .i64 (wr (bs[k].w * q))) :: List.drop (k * 4 + 2) (aBins (scL q bs k)) = aBins (scL q bs (k + 1)) := by
  rw [aBins_putW _ (scL_get q bs k h), ← scL_set q bs k h]; rfl


attribute [simp] St.nilOwn
def copyMS (o : MOrd) (p : Nat × List MBin) : St :=
  St.lit 35 [(1, .ptr (.own 1) 0), (2, .ptr (.own 2) 0), (3, .ptr (.own 3) 0), (4, .s (.int .i64 p.1))] [(1, aOrdC o), (2, [AV.nilsl, .s (.int .i64 0), .s (.int .i64 0), AV.nilsl]),
    (3, [.sl false false .E .no o.limits.length (eInts o.limits), .s (.int .i64 o.least), .s (.int .i64 o.most), .sm (.own 32) p.2.length (.grw 32 4)]), (32, aBins p.2)] [] [(XK 32, (0, 4))]
attribute [simp] copyMS

theorem copyOrderM_ok (o : MOrd) (h1 : (o.limits.length : Int) < 1000000000) (h2 : o.bins.length < 1000000000) (h3 : ∀ b ∈ o.bins, (b.grams.length : Int) < 1000000000) : ACalls Try.prog 18 [.agg [.sl false false .U .no o.limits.length (eInts o.limits), .s (.int .i64 o.least), .s (.int .i64 o.most), .sl false false .U .no o.bins.length (eBins o.bins)]] [] (.ret (.agg [.sl false false .E .no o.limits.length (eInts o.limits), .s (.int .i64 o.least), .s (.int .i64 o.most), .sm (.own 32) o.bins.length .no]) [] [(32, aBins o.bins)]) := by
  refine acalls_of_ew Try.func18 rfl rfl (by simp [Try.f18]) (rs := [.cell 2 25]) rfl ?_
  refine EW.seq fun Ψ0 n0 x0 => ?_
  refine EW.region gs_nil ?_
  simp
  refine n0 _ ?_; clear n0 x0
  refine EW.seq fun Ψ1 n1 x1 => ?_
  refine EW.region gs_nil ?_
  simp
  refine n1 _ ?_; clear n1 x1
  refine EW.seq fun Ψ2 n2 x2 => ?_
  refine EW.region (gs_cons (ints_ok o.limits h1) gs_nil) ?_
  simp
  refine n2 _ ?_; clear n2 x2
  refine EW.seq fun Ψ3 n3 x3 => ?_
  refine EW.seq fun Ψ4 n4 x4 => ?_
  refine EW.nilOwn 32 3 3 4 (cj := [.sl true false .E .no o.limits.length (eInts o.limits), .s (.int .i64 o.least), .s (.int .i64 o.most), AV.nilsl]) (by simp) (by simp) (by simp) (by simp [AV.nilsl]; exact ⟨rfl, rfl⟩) ?_
  simp
  refine EW.region gs_nil ?_
  simp
  refine n4 _ ?_; clear n4 x4
  refine EW.block ?_
  refine EW.loopA (copyMS o) (fun p => p.1 ≤ o.bins.length ∧ p.2.length = p.1 ∧ p.2 ++ o.bins.drop p.1 = o.bins) (fun p => o.bins.length - p.1) (0, []) (St.le_lit rfl (by simp) (by simp) (by simp) (by simp) (by simp)) ?_ fun p hk => ?_
  · simp
  obtain ⟨k, acc⟩ := p
  obtain ⟨hk, hn, hw⟩ := hk
  simp only at hk hn hw
  refine EW.seq fun Ψ5 n5 x5 => ?_
  refine EW.seq fun Ψ6 n6 x6 => ?_
  refine EW.region gs_nil ?_
  simp
  refine n6 _ ?_; clear n6 x6
  refine EW.cond (t := _) (by rfl) (fun hc16 => ?_) (fun hc16 => ?_)
  · simp at hc16
    have e1 : o.bins[k]? = some o.bins[k] := List.getElem?_eq_getElem hc16
    have h4 := h3 o.bins[k] (List.getElem_mem hc16)
    refine EW.skip ?_
    refine n5 _ ?_; clear n5 x5
    refine EW.seq fun Ψ7 n7 x7 => ?_
    refine EW.block ?_
    refine EW.seq fun Ψ8 n8 x8 => ?_
    refine EW.region gs_nil ?_
    simp [hc16, e1, eBins_atm _ _ _ _ _ e1, show 4 ≤ o.bins.length * 4 - k * 4 by omega]
    refine n8 _ ?_; clear n8 x8
    refine EW.seq fun Ψ9 n9 x9 => ?_
    refine EW.region (gs_cons (ranges_ok o.bins[k].grams h4) gs_nil) ?_
    simp
    refine n9 _ ?_; clear n9 x9
    refine EW.hide fun Ψ10 n10 => ?_
    refine EW.region (gs_mut (d := 32) (o := .pan undef) gs_nil) ?_
    simp [hn, show (k + 1) * 48 ≤ 140737488355328 by omega]
    refine n10 _ _ ?_; clear n10
    refine n7 _ ?_; clear n7 x7
    refine EW.hide fun Ψ11 n11 => ?_
    refine EW.region gs_nil ?_
    simp
    refine n11 _ _ ?_; clear n11
    have e3 : IntKind.i64.wrap ((k : Int) + 1) = k + 1 := wr_small (by omega) (by omega)
    refine ⟨(k + 1, acc ++ [o.bins[k]]), (St.le_lit rfl (by simp [e3, hn]) (by simp [hn]) (by simp) (by simp [hn]) (by simp)), ?_, ?_⟩
    · refine ⟨by omega, by simp [hn], ?_⟩
      rw [List.append_assoc, List.singleton_append, ← List.drop_eq_getElem_cons]; exact hw
    · simp; omega
  · simp at hc16
    have hkl : k = o.bins.length := by omega
    subst hkl
    simp at hw
    refine EW.exit ?_
    refine x5 _ _ rfl ?_; clear n5 x5
    refine n3 _ ?_; clear n3 x3
    refine EW.seq fun Ψ12 n12 x12 => ?_
    refine EW.region gs_nil ?_
    simp
    refine n12 _ ?_; clear n12 x12
    refine EW.ret ?_
    refine ⟨_, _, _, rfl, ?_, ?_, ?_, ?_, ?_⟩ <;> simp [hw, hn]

end Go.Ev
end

section
set_option linter.all false
open Go Go.Ev Go.Proofs
namespace Go.Ev
set_option linter.unusedSimpArgs false
set_option linter.unusedVariables false


def scE (l : List (Nat × AV)) (q : Int) : List (Nat × AV) := (3, .ptr (.own 21006) 0) :: (4, .ptr (.own 4) 0) :: (5, .s (.int .i64 q)) :: (6, .ptr (.own 6) 0) :: l
def scS (o x : MOrd) (q y : Int) (k : Nat) : St :=
  St.lit 113 (scE [(7, .s (.int .i64 k))] q) [(21006, [.s (.int .u64 y)]), (4, aOrdC o), (6, [.sl false false .U .no x.limits.length (eInts x.limits), .s (.int .i64 x.least), .s (.int .i64 x.most), .sm (.own 27032) x.bins.length .no]), (27032, aBins (scL q o.bins k))] [] []
attribute [simp] scE scS

set_option maxHeartbeats 4000000 in
theorem scaled_ok (nums : List Int) (hl : (nums.length : Int) < 9223372036854775807) (o x : MOrd) (l : List Int) (q y1 y2 y3 : Int) (ho : o = ordOf 3 2 4 (feedS nums)) (hy1 : y1 = ordS 3 2 4 (feedS nums)) (hq : q = betV 1 100 y1) (hy2 : y2 = betS 1 100 y1) (hbl : l = blendL o.bins y2) (hy3 : y3 = blendS o.bins y2)
  (hx1 : x.limits = o.limits) (hx2 : wr (o.least * q) = x.least) (hx3 : wr (o.most * q) = x.most) (hx4 : x.bins = o.bins.map (scB q)) (k : OkO o) (kx : OkO x) (hll : (l.length : Int) < 9223372036854775807) (e0 : blendErr o l = 0) (e1 : blendErr x l = 0) (hV : keepV x l = keepV o l) (hB : cheapB x = cheapB o) (hC : cheapC x = cheapC o) (hE : cheapE x = cheapE o)
  (hb : ((cheapB o).length : Int) < 9223372036854775807) : ACalls Try.prog 7 [.sl false false .U .no nums.length (eInts nums)] [] (.ret (.s (.bool true)) [] []) := by
  have c1 := orderOf_ok 3 2 4 (feedS nums) (by decide) (by decide)
  rw [← ho, ← hy1] at c1
  have c2 := between_ok 1 100 y1
  rw [← hq, ← hy2] at c2
  have c3 := blendOf_ok_ o y2 (by have := k.nb; omega)
  rw [← hbl, ← hy3] at c3
  have hnb := k.nb
  have hnl := k.nl
  have c4 := copyOrderM_ok o (by omega) (by omega) (fun b hb => by have := (k.bin b hb).len; omega)
  have hxn : x.bins.length = o.bins.length := by rw [hx4]; simp
  have hs : scL q o.bins o.bins.length = x.bins := by rw [hx4, scL_all]
  refine acalls_of_ew Try.func7 rfl rfl (by simp [Try.f7]) (rs := [.tmp 2]) rfl ?_
  refine EW.seq fun Ψ0 n0 x0 => ?_
  refine EW.region gs_nil ?_
  simp
  refine n0 _ ?_; clear n0 x0
  refine EW.seq fun Ψ1 n1 x1 => ?_
  refine EW.region (gs_cons (feedOf_ok nums hl) gs_nil) ?_
  simp
  refine n1 _ ?_; clear n1 x1
  refine EW.seq fun Ψ2 n2 x2 => ?_
  refine EW.region (gs_cons c1 gs_nil) ?_
  simp
  refine n2 _ ?_; clear n2 x2
  refine EW.seq fun Ψ3 n3 x3 => ?_
  refine EW.region (gs_cons c2 gs_nil) ?_
  simp
  refine n3 _ ?_; clear n3 x3
  refine EW.seq fun Ψ4 n4 x4 => ?_
  refine EW.region (gs_cons c4 gs_nil) ?_
  simp
  refine n4 _ ?_; clear n4 x4
  refine EW.seq fun Ψ5 n5 x5 => ?_
  refine EW.region gs_nil ?_
  simp [hx2, hx3]
  refine n5 _ ?_; clear n5 x5
  refine EW.seq fun Ψ6 n6 x6 => ?_
  refine EW.seq fun Ψ7 n7 x7 => ?_
  refine EW.region gs_nil ?_
  simp
  refine n7 _ ?_; clear n7 x7
  refine EW.block ?_
  refine EW.loopA (scS o x q y2) (fun p => p ≤ o.bins.length) (fun p => o.bins.length - p) 0 (St.le_lit rfl (by simp) (by simp [hx1, hx2, hx3, hxn]) (by simp) (by simp) (by simp)) ?_ fun p hk => ?_
  · simp
  rename Nat => i
  refine EW.seq fun Ψ8 n8 x8 => ?_
  refine EW.seq fun Ψ9 n9 x9 => ?_
  refine EW.region gs_nil ?_
  simp
  refine n9 _ ?_; clear n9 x9
  refine EW.cond (t := _) (by rfl) (fun hc41 => ?_) (fun hc41 => ?_)
  · simp at hc41
    have hi : i < o.bins.length := by omega
    have g1 : ∀ h, (aBins (scL q o.bins i))[i * 4 + 1]'h = .s (.int .i64 o.bins[i].w) := fun h => by have g := scL_get1 q o.bins i hi; rw [List.getElem?_eq_getElem h] at g; exact Option.some.inj g
    refine EW.skip ?_
    refine n8 _ ?_; clear n8 x8
    refine EW.seq fun Ψ10 n10 x10 => ?_
    refine EW.block ?_
    refine EW.hide fun Ψ11 n11 => ?_
    refine EW.drawn [] mixed gs_nil (by kernel_rfl) ?_
    simp [hc41, g1, show i * 4 + 1 < o.bins.length * 4 by omega, show i * 4 + 2 ≤ o.bins.length * 4 by omega, show i * 4 + 1 + 1 ≤ o.bins.length * 4 by omega]
    refine n11 _ _ ?_; clear n11
    refine n10 _ ?_; clear n10 x10
    refine EW.hide fun Ψ12 n12 => ?_
    refine EW.region gs_nil ?_
    simp
    refine n12 _ _ ?_; clear n12
    have e3 : IntKind.i64.wrap ((i : Int) + 1) = i + 1 := wr_small (by omega) (by omega)
    refine ⟨(i + 1), (St.le_lit rfl (by simp [e3]) (by simp [scL_put q o.bins i hi]) (by simp) (by simp) (by simp)), ?_, ?_⟩
    · omega
    · omega
  · simp at hc41
    have hkl : i = o.bins.length := by omega
    subst hkl
    refine EW.exit ?_
    refine x8 _ _ rfl ?_; clear n8 x8
    refine n6 _ ?_; clear n6 x6
    refine EW.seq fun Ψ13 n13 x13 => ?_
    refine EW.freezeC (k := 27032) (j := 6) (i := 3) (n := x.bins.length) (o := .no) (cs := aBins x.bins) (cj := [.sl false false .U .no x.limits.length (eInts x.limits), .s (.int .i64 x.least), .s (.int .i64 x.most), .sm (.own 27032) x.bins.length .no]) (c0 := [.sl false false .U .no x.limits.length (eInts x.limits), .s (.int .i64 x.least), .s (.int .i64 x.most), .junk]) (ds := eBins x.bins) (g := x.bins.isEmpty) (nt := 113) (E := scE [] q) (O := [(21006, [.s (.int .u64 y2)]), (4, aOrdC o), (6, [.sl false false .U .no x.limits.length (eInts x.limits), .s (.int .i64 x.least), .s (.int .i64 x.most), .junk])]) (X := []) (T := []) (by simp [hs]) (aBins_toDs x.bins) (by simp) (by simp) (St.le_lit rfl (by simp) (by simp) (by simp) (by simp) (by simp)) (by simp) (by simp) (by intro h; rw [List.length_eq_zero_iff.1 h]; rfl) ?_
    simp
    refine EW.region (gs_cons c3 gs_nil) ?_
    simp
    refine n13 _ ?_; clear n13 x13
    refine EW.seq fun Ψ14 n14 x14 => ?_
    refine EW.region (gs_cons (Cheapest_ok' o k.sz) gs_nil) ?_
    simp
    refine n14 _ ?_; clear n14 x14
    refine EW.seq fun Ψ15 n15 x15 => ?_
    refine EW.region (gs_cons (Cheapest_ok' x kx.sz) gs_nil) ?_
    simp [hB, hC, hE]
    refine n15 _ ?_; clear n15 x15
    refine EW.seq fun Ψ16 n16 x16 => ?_
    refine EW.region (gs_cons (Keeps_ok o l k.sz hll) gs_nil) ?_
    simp [e0]
    refine n16 _ ?_; clear n16 x16
    refine EW.seq fun Ψ17 n17 x17 => ?_
    refine EW.region (gs_cons (Keeps_ok x l kx.sz hll) gs_nil) ?_
    simp [e1, hV]
    refine n17 _ ?_; clear n17 x17
    refine EW.seq fun Ψ18 n18 x18 => ?_
    refine EW.region (gs_cons (eqInts_ok (cheapB o) (cheapB o) hb) (gs_cons alive_ok gs_nil)) ?_
    simp
    refine n18 _ ?_; clear n18 x18
    refine EW.ret ?_
    refine ⟨_, _, _, rfl, ?_, ?_, ?_, ?_, ?_⟩ <;> simp


theorem MeltScaled_ok (nums : List Int) (hl : (nums.length : Int) < 9223372036854775807) : ACalls Try.prog 7 [.sl false false .U .no nums.length (eInts nums)] [] (.ret (.s (.bool true)) [] []) := by
  have m := made 3 2 4 (feedS nums) (by decide) (by decide) (by decide)
  have hm := made_most (feedS nums)
  generalize ho : ordOf 3 2 4 (feedS nums) = o at m hm
  generalize hy1 : ordS 3 2 4 (feedS nums) = y1
  have hk := bet_in 1 100 y1 (by decide) (by decide) (by decide)
  generalize hq : betV 1 100 y1 = q at hk
  have k := m.ok (by decide) (by decide) (by decide)
  have kx := sc_ok hk m hm
  have kb : okBl o (blendL o.bins (betS 1 100 y1)) := blendL_ok k _
  obtain ⟨hB, hC, hE⟩ := sc_cheapB hk m hm
  refine scaled_ok nums hl o (scO q o) _ q y1 _ _ ho.symm hy1.symm hq.symm rfl rfl rfl rfl rfl rfl rfl k kx ?_ (blendErr_0 k kb) (blendErr_0 kx (sc_bl kb)) (sc_keep hk m hm kb) hB hC hE ?_
  · have := kb.1
    have := k.nb
    omega
  · have e := cheap_FS k
    have e0 := ordErr_0 k
    rw [cheapB, if_pos e0]
    rcases e with ⟨h, _⟩ | ⟨h, _⟩
    · rw [h]; simp
    · have h1 := (all_ok h).1
      have := k.nb
      omega
end Go.Ev
end
