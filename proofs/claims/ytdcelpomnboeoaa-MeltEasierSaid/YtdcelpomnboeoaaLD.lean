/- Lemmas for the claims of this seat: an evaluator over abstract values, its soundness, and the contracts of the functions of melt that it walks; no premise beyond what each theorem states. -/
import Derived.Test.YtdcelpomnboeoaaLA
import Derived.Test.YtdcelpomnboeoaaLB
import Derived.Test.YtdcelpomnboeoaaLC
import Derived.Test.YtdcelpomnboeoaaKE

section
set_option linter.all false
open Go Go.Ev Go.Proofs
namespace Go.Ev
set_option linter.unusedSimpArgs false
set_option linter.unusedVariables false

theorem cloneE_ok (l : List Int) (hl : (l.length : Int) < 1000000000) : ACalls Try.prog 82 [.sl false false .E .no l.length (eInts l)] [] (.rtok .U l.length 1 (eInts l)) := by
  refine acalls_tok Try.func82 rfl rfl (by simp [Try.f82]) (x := 2) rfl (by simp) (by simp [eInts]) ?_
  refine EW.seq fun Ψ0 n0 x0 => ?_
  refine EW.region gs_nil ?_
  simp
  refine n0 _ ?_; clear n0 x0
  refine EW.seq fun Ψ1 n1 x1 => ?_
  refine EW.seq fun Ψ2 n2 x2 => ?_
  refine EW.region gs_nil ?_
  simp
  refine n2 _ ?_; clear n2 x2
  refine EW.cond (t := _) (by rfl) (fun hc4 => ?_) (fun hc4 => ?_)
  · simp at hc4
  · simp at hc4
    refine EW.skip ?_
    refine n1 _ ?_; clear n1 x1
    refine EW.seq fun Ψ3 n3 x3 => ?_
    refine EW.region gs_nil ?_
    simp [show l.length * 8 ≤ 140737488355328 by omega]
    refine n3 _ ?_; clear n3 x3
    refine EW.ret ?_
    simp [TokPost]

theorem cloneZ_ok (l : List Int) (hl : (l.length : Int) < 1000000000) : ACalls Try.prog 82 [.sl false false .Z .no l.length (eInts l)] [] (.rtok .U l.length 1 (eInts l)) := by
  refine acalls_tok Try.func82 rfl rfl (by simp [Try.f82]) (x := 2) rfl (by simp) (by simp [eInts]) ?_
  refine EW.seq fun Ψ0 n0 x0 => ?_
  refine EW.region gs_nil ?_
  simp
  refine n0 _ ?_; clear n0 x0
  refine EW.seq fun Ψ1 n1 x1 => ?_
  refine EW.seq fun Ψ2 n2 x2 => ?_
  refine EW.region gs_nil ?_
  simp
  refine n2 _ ?_; clear n2 x2
  refine EW.cond (t := _) (by rfl) (fun hc4 => ?_) (fun hc4 => ?_)
  · simp at hc4
    refine EW.seq fun Ψ3 n3 x3 => ?_
    refine EW.region gs_nil ?_
    simp
    refine n3 _ ?_; clear n3 x3
    refine EW.ret ?_
    refine x1 _ _ rfl ?_; clear n1 x1
    simp [TokPost]
    try simp_all
  · simp at hc4
    refine EW.skip ?_
    refine n1 _ ?_; clear n1 x1
    refine EW.seq fun Ψ4 n4 x4 => ?_
    refine EW.region gs_nil ?_
    simp [show l.length * 8 ≤ 140737488355328 by omega]
    refine n4 _ ?_; clear n4 x4
    refine EW.ret ?_
    simp [TokPost]
    try simp_all

theorem clone_ok (l : List Int) (hl : (l.length : Int) < 1000000000) : ACalls Try.prog 82 [.sl false false .U .no l.length (eInts l)] [] (.rtok .U l.length 1 (eInts l)) := ACalls.knd (cloneE_ok l hl) (cloneZ_ok l hl)
end Go.Ev
end

section
set_option linter.all false
open Go Go.Ev Go.Proofs
namespace Go.Ev
set_option linter.unusedSimpArgs false
set_option linter.unusedVariables false


/-- Again and again, counted. -/
def rep {σ : Type} (f : Nat → σ → σ) : Nat → Nat → σ → σ
  | 0, _, s => s
  | n + 1, k, s => rep f n (k + 1) (f k s)
/-- Through all blends that begin with l. -/
def bFold {σ : Type} (next : σ → List Int → σ) : List MBin → List Int → σ → σ
  | [], l, s => next s l
  | b :: bs, l, s => rep (fun k s => bFold next bs (l ++ [(k : Int)]) s) (b.g + 1).toNat 0 s
/-- What the loop in Cheapest has found. -/
def cX (o : MOrd) (s : List Int × Int) : List (List AV) := [aOrdC o, [.sl false false .Z .no s.1.length (eInts s.1)], [.s (.int .i64 s.2)]]
attribute [simp] cX
def encB (x : List Int) : AV := .sl false false .U .no x.length (eInts x)
def wkS (o : MOrd) (L : Nat) (G : YG) (l : List Int) (b : MBin) (p : Nat × (List Int × Int)) : St :=
  St.lit 37 [(0, .sl false false .U .no l.length (eInts l)), (1, .ptr (.ext 0) 0), (2, .ptr (.ext 1) 0), (3, .ptr (.ext 2) 0), (24, .s (.int .i64 (b.g + 1))), (25, .s (.int .i64 p.1))] [] [aOrdC o, [.yl L G [.ext 3, .ext 4, .ext 5]], [.fn 81 [.ptr (.ext 0) 0, .ptr (.ext 1) 0, .ptr (.ext 2) 0]], aOrdC o, [.sl false false .Z .no p.2.1.length (eInts p.2.1)], [.s (.int .i64 p.2.2)]] []
attribute [simp] wkS List.findIdx?_cons

section
variable (o : MOrd) (L : Nat) (G : YG) (I : List Int × Int → Prop) (next : List Int × Int → List Int → List Int × Int)

theorem yCall (hR : Rounds Try.prog I (fun x => x.length = o.bins.length) encB (cX o) next 3 L G) (s : List Int × Int) (x : List Int) (hs : I s) (hx : x.length = o.bins.length) :
    ACalls Try.prog YID [.sl false false .U .no x.length (eInts x), .yl L G [.ext 0, .ext 1, .ext 2]] [aOrdC o, [.sl false false .Z .no s.1.length (eInts s.1)], [.s (.int .i64 s.2)]] (.ret (.s (.bool true)) [aOrdC o, [.sl false false .Z .no (next s x).1.length (eInts (next s x).1)], [.s (.int .i64 (next s x).2)]] []) := hR s x hs hx


theorem rep_I {σ : Type} {I : σ → Prop} {f : Nat → σ → σ} (hf : ∀ k s, I s → I (f k s)) : ∀ n k s, I s → I (rep f n k s)
  | 0, _, _, h => h
  | n + 1, k, s, h => rep_I hf n (k + 1) (f k s) (hf k s h)
theorem bFold_I {σ : Type} {I : σ → Prop} {next : σ → List Int → σ} {N : Nat} (hI : ∀ s x, I s → x.length = N → I (next s x)) : ∀ (bs : List MBin) (l : List Int) (s : σ), l.length + bs.length = N → I s → I (bFold next bs l s)
  | [], l, s, hl, h => hI s l h (by simpa using hl)
  | b :: bs, l, s, hl, h => by
    simp only [bFold]
    exact rep_I (fun k s hs => bFold_I hI bs _ s (by simp at hl ⊢; omega) hs) _ _ _ h

theorem walk81_step (hb : ∀ b ∈ o.bins, 0 ≤ b.g ∧ b.g < 1000000) (hbl : o.bins.length < 1000000) (hR : Rounds Try.prog I (fun x => x.length = o.bins.length) encB (cX o) next 3 L G) (hI : ∀ s x, I s → x.length = o.bins.length → I (next s x)) (l : List Int) (s : List Int × Int) (hl : l.length ≤ o.bins.length) (hs : I s) (ih : ∀ (k : Nat) s, l.length < o.bins.length → I s → ACalls Try.prog 81 [.sl false false .U .no (l ++ [(k : Int)]).length (eInts (l ++ [(k : Int)])), .ptr (.ext 0) 0, .ptr (.ext 1) 0, .ptr (.ext 2) 0] [aOrdC o, [.yl L G [.ext 3, .ext 4, .ext 5]], [.fn 81 [.ptr (.ext 0) 0, .ptr (.ext 1) 0, .ptr (.ext 2) 0]], aOrdC o, [.sl false false .Z .no s.1.length (eInts s.1)], [.s (.int .i64 s.2)]] (.ret (.s (.bool true)) [aOrdC o, [.yl L G [.ext 3, .ext 4, .ext 5]], [.fn 81 [.ptr (.ext 0) 0, .ptr (.ext 1) 0, .ptr (.ext 2) 0]], aOrdC o, [.sl false false .Z .no (bFold next (o.bins.drop (l.length + 1)) (l ++ [(k : Int)]) s).1.length (eInts (bFold next (o.bins.drop (l.length + 1)) (l ++ [(k : Int)]) s).1)], [.s (.int .i64 (bFold next (o.bins.drop (l.length + 1)) (l ++ [(k : Int)]) s).2)]] [])) : ACalls Try.prog 81 [.sl false false .U .no l.length (eInts l), .ptr (.ext 0) 0, .ptr (.ext 1) 0, .ptr (.ext 2) 0] [aOrdC o, [.yl L G [.ext 3, .ext 4, .ext 5]], [.fn 81 [.ptr (.ext 0) 0, .ptr (.ext 1) 0, .ptr (.ext 2) 0]], aOrdC o, [.sl false false .Z .no s.1.length (eInts s.1)], [.s (.int .i64 s.2)]] (.ret (.s (.bool true)) [aOrdC o, [.yl L G [.ext 3, .ext 4, .ext 5]], [.fn 81 [.ptr (.ext 0) 0, .ptr (.ext 1) 0, .ptr (.ext 2) 0]], aOrdC o, [.sl false false .Z .no (bFold next (o.bins.drop l.length) l s).1.length (eInts (bFold next (o.bins.drop l.length) l s).1)], [.s (.int .i64 (bFold next (o.bins.drop l.length) l s).2)]] []) := by
  refine acalls_of_ew Try.func81 rfl rfl (by simp [Try.f81]) (rs := [.tmp 5]) rfl ?_
  refine EW.seq fun Ψ0 n0 x0 => ?_
  refine EW.region gs_nil ?_
  simp
  refine n0 _ ?_; clear n0 x0
  refine EW.seq fun Ψ1 n1 x1 => ?_
  refine EW.seq fun Ψ2 n2 x2 => ?_
  refine EW.region gs_nil ?_
  simp
  refine n2 _ ?_; clear n2 x2
  refine EW.cond (t := _) (by rfl) (fun hc12 => ?_) (fun hc12 => ?_)
  · have g1 : l.length = o.bins.length := by simp at hc12; omega
    have hv : bFold next (o.bins.drop l.length) l s = next s l := by rw [List.drop_of_length_le (by omega)]; rfl
    refine EW.seq fun Ψ3 n3 x3 => ?_
    refine EW.drawn [(0, 2)] mixed (gs_cons (clone_ok l (by omega)) (gs_cons (yCall o L G I next hR s l hs g1) gs_nil)) (by kernel_rfl) ?_
    simp
    refine n3 _ ?_; clear n3 x3
    refine EW.ret ?_
    refine x1 _ _ rfl ?_; clear n1 x1
    refine ⟨_, _, _, rfl, ?_, ?_, ?_, ?_, ?_⟩ <;> simp [hv]
  · have g1 : ¬ l.length = o.bins.length := by simp at hc12; omega
    have hlt : l.length < o.bins.length := by omega
    have e1 : o.bins[l.length]? = some o.bins[l.length] := List.getElem?_eq_getElem hlt
    have hg := hb _ (List.getElem_mem hlt)
    have e3 : IntKind.i64.wrap (o.bins[l.length].g + 1) = o.bins[l.length].g + 1 := wr_small (by omega) (by omega)
    have hv : bFold next (o.bins.drop l.length) l s = rep (fun k s => bFold next (o.bins.drop (l.length + 1)) (l ++ [(k : Int)]) s) (o.bins[l.length].g + 1).toNat 0 s := by rw [List.drop_eq_getElem_cons hlt]; rfl
    refine EW.skip ?_
    refine n1 _ ?_; clear n1 x1
    refine EW.seq fun Ψ4 n4 x4 => ?_
    refine EW.seq fun Ψ5 n5 x5 => ?_
    refine EW.region gs_nil ?_
    simp [hlt, e1]
    refine n5 _ ?_; clear n5 x5
    refine EW.block ?_
    refine EW.loopA (wkS o L G l o.bins[l.length]) (fun p => (p.1 : Int) ≤ o.bins[l.length].g + 1 ∧ I p.2 ∧ rep (fun k s => bFold next (o.bins.drop (l.length + 1)) (l ++ [(k : Int)]) s) ((o.bins[l.length].g + 1).toNat - p.1) p.1 p.2 = rep (fun k s => bFold next (o.bins.drop (l.length + 1)) (l ++ [(k : Int)]) s) (o.bins[l.length].g + 1).toNat 0 s) (fun p => (o.bins[l.length].g + 1).toNat - p.1) (0, s) (St.le_lit rfl (by simp [e3]) (by simp) (by simp) (by simp) (by simp)) ?_ fun p hk => ?_
    · exact ⟨by omega, hs, by simp⟩
    obtain ⟨k, s1⟩ := p
    obtain ⟨hk, hs1, hw⟩ := hk
    simp only at hk hs1 hw
    refine EW.seq fun Ψ6 n6 x6 => ?_
    refine EW.region gs_nil ?_
    simp
    refine n6 _ ?_; clear n6 x6
    refine EW.seq fun Ψ7 n7 x7 => ?_
    refine EW.cond (t := _) (by rfl) (fun hc26 => ?_) (fun hc26 => ?_)
    · simp at hc26
      have ihk := ih k s1 hlt hs1
      refine EW.skip ?_
      refine n7 _ ?_; clear n7 x7
      refine EW.seq fun Ψ8 n8 x8 => ?_
      refine EW.block ?_
      refine EW.seq fun Ψ9 n9 x9 => ?_
      refine EW.region gs_nil ?_
      simp
      refine n9 _ ?_; clear n9 x9
      refine EW.seq fun Ψ10 n10 x10 => ?_
      refine EW.drawn [(0, 2), (0, 5)] mixed (gs_cons (clone_ok l (by omega)) (gs_cons ihk gs_nil)) (by kernel_rfl) ?_
      simp [show (l.length + 1) * 8 ≤ 140737488355328 by omega]
      refine n10 _ ?_; clear n10 x10
      refine EW.cond (t := _) (by rfl) (fun hc35 => ?_) (fun hc35 => ?_)
      · simp at hc35
      · simp at hc35
        refine EW.skip ?_
        refine n8 _ ?_; clear n8 x8
        refine EW.hide fun Ψ11 n11 => ?_
        refine EW.region gs_nil ?_
        simp
        refine n11 _ _ ?_; clear n11
        have e4 : IntKind.i64.wrap ((k : Int) + 1) = k + 1 := wr_small (by omega) (by omega)
        have hn : (o.bins[l.length].g + 1).toNat - k = ((o.bins[l.length].g + 1).toNat - (k + 1)) + 1 := by omega
        refine ⟨(k + 1, bFold next (o.bins.drop (l.length + 1)) (l ++ [(k : Int)]) s1), (St.le_lit rfl (by simp [e4]) (by simp) (by simp) (by simp) (by simp)), ?_, ?_⟩
        · refine ⟨by simp; omega, bFold_I hI _ _ _ (by simp; omega) hs1, ?_⟩
          rw [← hw, hn]; rfl
        · simp; omega
    · simp at hc26
      have hv : bFold next (o.bins.drop l.length) l s = s1 := by rw [hv, ← hw, show (o.bins[l.length].g + 1).toNat - k = 0 by omega]; rfl
      refine EW.exit ?_
      refine x7 _ _ rfl ?_; clear n7 x7
      refine n4 _ ?_; clear n4 x4
      refine EW.seq fun Ψ12 n12 x12 => ?_
      refine EW.region gs_nil ?_
      simp
      refine n12 _ ?_; clear n12 x12
      refine EW.ret ?_
      refine ⟨_, _, _, rfl, ?_, ?_, ?_, ?_, ?_⟩ <;> simp [hv]

end
end Go.Ev
end

section
set_option linter.all false
open Go Go.Ev Go.Proofs
namespace Go.Ev
set_option linter.unusedSimpArgs false
set_option linter.unusedVariables false

theorem cells45 : Try.prog.cellsOf 45 = 1 := by kernel_rfl
theorem info45 : (Try.prog.info? 45).isSome = true := by kernel_rfl
theorem zero45 : zeroCells Try.prog 45 = some [.s .nilFunc] := by kernel_rfl
theorem isCell_nilF : (AV.s .nilFunc).isCell = true := rfl
attribute [simp] cells45 info45 zero45 isCell_nilF
section
variable (o : MOrd) (L : Nat) (G : YG) (I : List Int × Int → Prop) (next : List Int × Int → List Int → List Int × Int)
theorem walk81_ok (hb : ∀ b ∈ o.bins, 0 ≤ b.g ∧ b.g < 1000000) (hbl : o.bins.length < 1000000) (hR : Rounds Try.prog I (fun x => x.length = o.bins.length) encB (cX o) next 3 L G) (hI : ∀ s x, I s → x.length = o.bins.length → I (next s x)) : ∀ (m : Nat) (l : List Int) (s : List Int × Int), m + l.length = o.bins.length → I s → ACalls Try.prog 81 [.sl false false .U .no l.length (eInts l), .ptr (.ext 0) 0, .ptr (.ext 1) 0, .ptr (.ext 2) 0] [aOrdC o, [.yl L G [.ext 3, .ext 4, .ext 5]], [.fn 81 [.ptr (.ext 0) 0, .ptr (.ext 1) 0, .ptr (.ext 2) 0]], aOrdC o, [.sl false false .Z .no s.1.length (eInts s.1)], [.s (.int .i64 s.2)]] (.ret (.s (.bool true)) [aOrdC o, [.yl L G [.ext 3, .ext 4, .ext 5]], [.fn 81 [.ptr (.ext 0) 0, .ptr (.ext 1) 0, .ptr (.ext 2) 0]], aOrdC o, [.sl false false .Z .no (bFold next (o.bins.drop l.length) l s).1.length (eInts (bFold next (o.bins.drop l.length) l s).1)], [.s (.int .i64 (bFold next (o.bins.drop l.length) l s).2)]] []) := by
  intro m
  induction m with
  | zero =>
    intro l s hm hs
    exact walk81_step o L G I next hb hbl hR hI l s (by omega) hs (fun k s h => by omega)
  | succ m ih =>
    intro l s hm hs
    refine walk81_step o L G I next hb hbl hR hI l s (by omega) hs (fun k s1 h hs1 => ?_)
    have := ih (l ++ [(k : Int)]) s1 (by simp; omega) hs1
    simpa using this

theorem seq80_ok (hb : ∀ b ∈ o.bins, 0 ≤ b.g ∧ b.g < 1000000) (hbl : o.bins.length < 1000000) (hR : Rounds Try.prog I (fun x => x.length = o.bins.length) encB (cX o) next 3 L G) (hI : ∀ s x, I s → x.length = o.bins.length → I (next s x)) (s : List Int × Int) (hs : I s) : ACalls Try.prog 80 [.yl L G [.ext 0, .ext 1, .ext 2], .ptr (.ext 3) 0] [aOrdC o, [.sl false false .Z .no s.1.length (eInts s.1)], [.s (.int .i64 s.2)], aOrdC o] (.ret (.tup []) [aOrdC o, [.sl false false .Z .no (bFold next o.bins [] s).1.length (eInts (bFold next o.bins [] s).1)], [.s (.int .i64 (bFold next o.bins [] s).2)], aOrdC o] []) := by
  have hw : ACalls Try.prog 81 [.sl false false .U .no [].length (eInts []), .ptr (.ext 0) 0, .ptr (.ext 1) 0, .ptr (.ext 2) 0] [aOrdC o, [.yl L G [.ext 3, .ext 4, .ext 5]], [.fn 81 [.ptr (.ext 0) 0, .ptr (.ext 1) 0, .ptr (.ext 2) 0]], aOrdC o, [.sl false false .Z .no s.1.length (eInts s.1)], [.s (.int .i64 s.2)]] (.ret (.s (.bool true)) [aOrdC o, [.yl L G [.ext 3, .ext 4, .ext 5]], [.fn 81 [.ptr (.ext 0) 0, .ptr (.ext 1) 0, .ptr (.ext 2) 0]], aOrdC o, [.sl false false .Z .no (bFold next o.bins [] s).1.length (eInts (bFold next o.bins [] s).1)], [.s (.int .i64 (bFold next o.bins [] s).2)]] []) := walk81_ok o L G I next hb hbl hR hI o.bins.length [] s (by simp) hs
  refine acalls_of_ew Try.func80 rfl rfl (by simp [Try.f80]) (rs := []) rfl ?_
  refine EW.seq fun Ψ0 n0 x0 => ?_
  refine EW.region gs_nil ?_
  simp
  refine n0 _ ?_; clear n0 x0
  refine EW.seq fun Ψ1 n1 x1 => ?_
  refine EW.region gs_nil ?_
  simp
  refine n1 _ ?_; clear n1 x1
  refine EW.seq fun Ψ2 n2 x2 => ?_
  refine EW.region gs_nil ?_
  simp
  refine n2 _ ?_; clear n2 x2
  refine EW.hide fun Ψ3 n3 => ?_
  refine EW.region (gs_cons hw gs_nil) ?_
  simp
  refine n3 _ _ ?_; clear n3
  refine ⟨_, _, _, rfl, ?_, ?_, ?_, ?_, ?_⟩ <;> simp

end
theorem blends54_ok (o : MOrd) : ACalls Try.prog 54 [.agg [.sl false false .U .no o.limits.length (eInts o.limits), .s (.int .i64 o.least), .s (.int .i64 o.most), .sl false false .U .no o.bins.length (eBins o.bins)]] [] (.ret (.fn 80 [.ptr (.own 1) 0]) [] [(1, aOrdC o)]) := by
  refine acalls_of_ew Try.func54 rfl rfl (by simp [Try.f54]) (rs := [.tmp 2]) rfl ?_
  refine EW.seq fun Ψ0 n0 x0 => ?_
  refine EW.region gs_nil ?_
  simp
  refine n0 _ ?_; clear n0 x0
  refine EW.seq fun Ψ1 n1 x1 => ?_
  refine EW.region gs_nil ?_
  simp
  refine n1 _ ?_; clear n1 x1
  refine EW.ret ?_
  refine ⟨_, _, _, rfl, ?_, ?_, ?_, ?_, ?_⟩ <;> simp

end Go.Ev
end

section
set_option linter.all false
open Go Go.Ev Go.Proofs
namespace Go.Ev
set_option linter.unusedSimpArgs false
set_option linter.unusedVariables false


@[simp] theorem noYL_nil : noYL [] = true := rfl
@[simp] theorem noYL_cons (x : AV) (xs : List AV) : noYL (x :: xs) = (x.noY && noYL xs) := rfl
attribute [simp] AV.noY
theorem roundSt_noY {nt p : Nat} {E : List (Nat × AV)} {O : List (Nat × List AV)} {X' X : List (List AV)} {T : List (Nat × (Nat × Nat))} {rs : List Ref} {x : AV} (hx : x.asArg.noY = true) (hE : (E.all fun q => ((q.2.asArg).mapRef (refIdx rs)).noY) = true) (hX : (X.all fun q => noYL (asObjL q)) = true) :
    (roundSt (St.lit nt E O X' T) rs p x X).noY := by
  refine ⟨fun d y hd => ?_, fun r cs h => ?_⟩
  · simp only [roundSt] at hd
    split at hd
    · split at hd
      · cases hd; exact hx
      · cases hd
    · obtain ⟨z, hz, rfl⟩ := Option.map_eq_some_iff.1 hd
      exact List.all_eq_true.1 hE _ (ofL_mem (L := E) hz)
  · cases r with
    | own k => cases h
    | ext i =>
      have h2 : (X.map asObjL)[i]? = some cs := h
      rw [List.getElem?_map, Option.map_eq_some_iff] at h2
      obtain ⟨q, hq, rfl⟩ := h2
      exact List.all_eq_true.1 hX _ (List.mem_of_getElem? hq)
/-- One blend is looked at. -/
def nextC (o : MOrd) (s : List Int × Int) (x : List Int) : List Int × Int :=
  if inB (weighL o.bins x 0 0 0).1 o.least o.most = true ∧ (s.1.length = 0 ∨ (weighL o.bins x 0 0 0).2 < s.2) ∧ keepV o x = 1 then (x, (weighL o.bins x 0 0 0).2) else s
def cheapR (o : MOrd) : List Int × Int := bFold (nextC o) o.bins [] ([], 0)
def cheapB (o : MOrd) : List Int := if ordErr o = 0 then (cheapR o).1 else []
def cheapC (o : MOrd) : Int := if ordErr o = 0 then (if (cheapR o).1.length = 0 then 0 else (cheapR o).2) else 0
def cheapE (o : MOrd) : Int := if ordErr o = 0 then (if (cheapR o).1.length = 0 then 13 else 0) else ordErr o
theorem tri4 (a : Bool) (p q : Prop) [Decidable p] [Decidable q] : a = false ∨ (a = true ∧ p) ∨ (a = true ∧ ¬ p ∧ q) ∨ (a = true ∧ ¬ p ∧ ¬ q) := by
  cases a <;> by_cases hp : p <;> by_cases hq : q <;> simp [hp, hq]

set_option maxHeartbeats 1000000 in
theorem Cheapest_ok (o : MOrd) (hz : szO o) (hbo : ordErr o = 0 → o.bins ≠ [] ∧ (∀ b ∈ o.bins, 0 ≤ b.g ∧ b.g < 1000000) ∧ o.bins.length < 1000000 ∧ o.limits.length < 1000000 ∧ ∀ b ∈ o.bins, b.grams.length = o.limits.length) : ACalls Try.prog 19 [.agg [.sl false false .U .no o.limits.length (eInts o.limits), .s (.int .i64 o.least), .s (.int .i64 o.most), .sl false false .U .no o.bins.length (eBins o.bins)]] [] (.ret (.tup [.sl false false .Z .no (cheapB o).length (eInts (cheapB o)), .s (.int .i64 (cheapC o)), .s (.int .i64 (cheapE o))]) [] []) := by
  refine acalls_of_ew Try.func19 rfl rfl (by simp [Try.f19]) (rs := [.cell 2 22, .cell 3 3, .tmp 4]) rfl ?_
  refine EW.seq fun Ψ0 n0 x0 => ?_
  refine EW.region gs_nil ?_
  simp
  refine n0 _ ?_; clear n0 x0
  refine EW.seq fun Ψ1 n1 x1 => ?_
  refine EW.seq fun Ψ2 n2 x2 => ?_
  refine EW.region (gs_cons (check_ok' o hz) gs_nil) ?_
  simp
  refine n2 _ ?_; clear n2 x2
  refine EW.seq fun Ψ3 n3 x3 => ?_
  refine EW.region gs_nil ?_
  simp
  refine n3 _ ?_; clear n3 x3
  refine EW.cond (t := _) (by rfl) (fun hc12 => ?_) (fun hc12 => ?_)
  · have g1 : ¬ ordErr o = 0 := by simpa using hc12
    have hv : cheapB o = [] ∧ cheapC o = 0 ∧ cheapE o = ordErr o := by simp [cheapB, cheapC, cheapE, g1]
    refine EW.seq fun Ψ4 n4 x4 => ?_
    refine EW.region gs_nil ?_
    simp
    refine n4 _ ?_; clear n4 x4
    refine EW.ret ?_
    refine x1 _ _ rfl ?_; clear n1 x1
    refine ⟨_, _, _, rfl, ?_, ?_, ?_, ?_, ?_⟩ <;> simp [hv]
  · have g1 : ordErr o = 0 := by simpa using hc12
    obtain ⟨hb0, hb, hbl, hll, hgr⟩ := hbo g1
    have hb1 : 0 < o.bins.length := List.length_pos_iff.2 hb0
    refine EW.skip ?_
    refine n1 _ ?_; clear n1 x1
    refine EW.seq fun Ψ5 n5 x5 => ?_
    refine EW.seq fun Ψ6 n6 x6 => ?_
    refine EW.region (gs_cons (blends54_ok o) gs_nil) ?_
    simp
    refine n6 _ ?_; clear n6 x6
    refine EW.block ?_
    refine EW.weak (show St.le (St.lit 50 [(1, .ptr (.own 1) 0), (2, .ptr (.own 2) 0), (3, .ptr (.own 3) 0), (15, .fn 80 [.ptr (.own 16001) 0])] [(1, aOrdC o), (2, [AV.nilsl]), (3, [.s (.int .i64 0)]), (16001, aOrdC o)] [] []) _ from (St.le_lit rfl (by simp) (by simp) (by simp) (by simp) (by simp))) ?_
    refine EW.rangeFunc (fun _ => True) (fun x => x.length = o.bins.length) encB (cX o) (nextC o) [.own 1, .own 2, .own 3] (os := [aOrdC o, [AV.nilsl], [.s (.int .i64 0)], aOrdC o]) (ext' := [aOrdC o, [.sl false false .Z .no (cheapR o).1.length (eInts (cheapR o).1)], [.s (.int .i64 (cheapR o).2)], aOrdC o]) (r := .tup []) rfl (by simp) (fun lR s x hs hx => ⟨?_, ?_⟩) (fun L G hR => ?_) (St.lit 50 [(1, .ptr (.own 1) 0), (2, .ptr (.own 2) 0), (3, .ptr (.own 3) 0)] [(1, aOrdC o), (2, [.sl false false .Z .no (cheapR o).1.length (eInts (cheapR o).1)]), (3, [.s (.int .i64 (cheapR o).2)])] [] []) ?_ ?_ ?_ (fun cs h => by simp only [List.mem_cons, List.not_mem_nil, or_false] at h; rcases h with rfl | rfl | rfl | rfl <;> simp [aOrdC]) (fun _ _ => rfl)
    · skip
      exact roundSt_noY (by simp [encB]) (by simp) (by simp)
    · refine EW.hide fun ΨA nA => ?_
      have hx0 : ¬ x.length = 0 := by omega
      refine EW.region gs_nil ?_
      simp [roundSt, encB]
      refine nA .normal _ ⟨rfl, ?_⟩; clear nA
      refine EW.weak (show St.le (St.lit 50 [(1, .ptr (.ext 0) 0), (2, .ptr (.ext 1) 0), (3, .ptr (.ext 2) 0), (6, .sl false false .Z .no x.length (eInts x))] [] (cX o s) []) _ from (St.le_lit rfl (by simp [encB, hx0, roundSt]) (by simp) (by simp [roundSt]) (by simp) (by simp))) ?_
      refine EW.hide fun ΨR nR => ?_
      refine EW.block ?_
      refine EW.seq fun Ψ7 n7 x7 => ?_
      refine EW.region (gs_cons (weigh_ok o x (by omega) (by omega)) gs_nil) ?_
      simp
      refine n7 _ ?_; clear n7 x7
      refine EW.seq fun Ψ8 n8 x8 => ?_
      rcases tri4 (inB (weighL o.bins x 0 0 0).1 o.least o.most) (s.1.length = 0) ((weighL o.bins x 0 0 0).2 < s.2) with q1 | ⟨q1, q2⟩ | ⟨q1, q2, q3⟩ | ⟨q1, q2, q3⟩
      · skip
        refine EW.region (gI_ok (gs_cons (keeps_ok o x (by omega) (by omega) (by omega) hgr) gs_nil)) ?_
        simp [q1]
        refine n8 _ ?_; clear n8 x8
        refine EW.cond (t := _) (by rfl) (fun hc43 => ?_) (fun hc43 => ?_)
        · simp at hc43
        · simp at hc43
          have hv : nextC o s x = s := by simp [nextC, q1]
          refine EW.skip ?_
          refine nR .normal _ ⟨rfl, .tup [], ?_, ?_, ?_, ?_, ?_⟩ <;> simp [hv] <;> exact List.length_eq_zero_iff.1 q2
      · skip
        refine EW.region (gI_ok (gs_cons (keeps_ok o x (by omega) (by omega) (by omega) hgr) gs_nil)) ?_
        simp [q1, q2]
        refine n8 _ ?_; clear n8 x8
        refine EW.cond (t := _) (by rfl) (fun hc43 => ?_) (fun hc43 => ?_)
        · simp at hc43
          have hv : nextC o s x = (x, (weighL o.bins x 0 0 0).2) := by simp [nextC, q1, q2, hc43]
          refine EW.hide fun Ψ9 n9 => ?_
          refine EW.region gs_nil ?_
          simp
          refine n9 _ _ ?_; clear n9
          refine nR .normal _ ⟨rfl, .tup [], ?_, ?_, ?_, ?_, ?_⟩ <;> simp [hv] <;> exact List.length_eq_zero_iff.1 q2
        · simp at hc43
          have hv : nextC o s x = s := by simp [nextC, q1, q2, hc43]
          refine EW.skip ?_
          refine nR .normal _ ⟨rfl, .tup [], ?_, ?_, ?_, ?_, ?_⟩ <;> simp [hv] <;> exact List.length_eq_zero_iff.1 q2
      · skip
        refine EW.region (gI_ok (gs_cons (keeps_ok o x (by omega) (by omega) (by omega) hgr) gs_nil)) ?_
        simp [q1, q2, q3]
        refine n8 _ ?_; clear n8 x8
        refine EW.cond (t := _) (by rfl) (fun hc43 => ?_) (fun hc43 => ?_)
        · simp at hc43
          have hv : nextC o s x = (x, (weighL o.bins x 0 0 0).2) := by simp [nextC, q1, q2, q3, hc43]
          refine EW.hide fun Ψ10 n10 => ?_
          refine EW.region gs_nil ?_
          simp
          refine n10 _ _ ?_; clear n10
          refine nR .normal _ ⟨rfl, .tup [], ?_, ?_, ?_, ?_, ?_⟩ <;> simp [hv] <;> exact List.length_eq_zero_iff.1 q2
        · simp at hc43
          have hv : nextC o s x = s := by simp [nextC, q1, q2, q3, hc43]
          refine EW.skip ?_
          refine nR .normal _ ⟨rfl, .tup [], ?_, ?_, ?_, ?_, ?_⟩ <;> simp [hv] <;> exact List.length_eq_zero_iff.1 q2
      · skip
        refine EW.region (gI_ok (gs_cons (keeps_ok o x (by omega) (by omega) (by omega) hgr) gs_nil)) ?_
        simp [q1, q2, q3]
        refine n8 _ ?_; clear n8 x8
        refine EW.cond (t := _) (by rfl) (fun hc43 => ?_) (fun hc43 => ?_)
        · simp at hc43
        · simp at hc43
          have hv : nextC o s x = s := by simp [nextC, q1, q2, q3]
          refine EW.skip ?_
          refine nR .normal _ ⟨rfl, .tup [], ?_, ?_, ?_, ?_, ?_⟩ <;> simp [hv] <;> exact List.length_eq_zero_iff.1 q2
    · skip
      have := seq80_ok o L G (fun _ => True) (nextC o) hb hbl hR (fun _ _ _ _ => trivial) ([], 0) trivial
      simpa [cheapR] using this
    · skip
      exact St.le_lit rfl (by simp) (by simp) (by simp) (by simp) (by simp)
    · skip
      exact St.noY_lit (by simp) (by simp) (by simp)
    refine n5 _ ?_; clear n5 x5
    refine EW.seq fun Ψ11 n11 x11 => ?_
    refine EW.seq fun Ψ12 n12 x12 => ?_
    refine EW.region gs_nil ?_
    simp
    refine n12 _ ?_; clear n12 x12
    refine EW.cond (t := _) (by rfl) (fun hc47 => ?_) (fun hc47 => ?_)
    · have g2 : (cheapR o).1.length = 0 := by simpa using hc47
      have g3 : (cheapR o).1 = [] := List.length_eq_zero_iff.1 g2
      have hv : cheapB o = [] ∧ cheapC o = 0 ∧ cheapE o = 13 := by simp [cheapB, cheapC, cheapE, g1, g3]
      refine EW.seq fun Ψ13 n13 x13 => ?_
      refine EW.region gs_nil ?_
      simp
      refine n13 _ ?_; clear n13 x13
      refine EW.ret ?_
      refine x11 _ _ rfl ?_; clear n11 x11
      refine ⟨_, _, _, rfl, ?_, ?_, ?_, ?_, ?_⟩ <;> simp [hv]
    · have g2 : ¬ (cheapR o).1.length = 0 := by simpa using hc47
      have hv : cheapB o = (cheapR o).1 ∧ cheapC o = (cheapR o).2 ∧ cheapE o = 0 := by simp only [cheapB, cheapC, cheapE, g1, g2, if_true, if_false, and_self]
      refine EW.skip ?_
      refine n11 _ ?_; clear n11 x11
      refine EW.seq fun Ψ14 n14 x14 => ?_
      refine EW.drawn [(1, 2)] mixed gs_nil (by kernel_rfl) ?_
      simp
      refine n14 _ ?_; clear n14 x14
      refine EW.ret ?_
      refine ⟨_, _, _, rfl, ?_, ?_, ?_, ?_, ?_⟩ <;> simp [hv]

end Go.Ev
end

section
set_option linter.all false
open Go Go.Ev Go.Proofs
namespace Go.Ev
set_option linter.unusedSimpArgs false
set_option linter.unusedVariables false

/-! ### Boxes: four pairs -/
def bxA (x : List (Int × Int)) : List AV := x.flatMap fun p => [.s (.int .i64 p.1), .s (.int .i64 p.2)]
@[simp] theorem bxA_len (x : List (Int × Int)) : (bxA x).length = x.length * 2 := by
  induction x with
  | nil => rfl
  | cons a l ih => simp only [bxA, List.flatMap_cons, List.length_append, List.length_cons, List.length_nil] at ih ⊢; omega
theorem bxA_cons (p : Int × Int) (r : List (Int × Int)) : bxA (p :: r) = .s (.int .i64 p.1) :: .s (.int .i64 p.2) :: bxA r := rfl
@[simp] theorem bxA_g0 : ∀ (x : List (Int × Int)) (i : Nat), (bxA x)[i * 2]? = (x[i]?).map fun p => AV.s (.int .i64 p.1)
  | [], i => by simp [bxA]
  | p :: r, 0 => rfl
  | p :: r, i + 1 => by
    rw [bxA_cons, show (i + 1) * 2 = i * 2 + 1 + 1 by omega]
    simp only [List.getElem?_cons_succ]
    exact bxA_g0 r i
@[simp] theorem bxA_g1 : ∀ (x : List (Int × Int)) (i : Nat), (bxA x)[i * 2 + 1]? = (x[i]?).map fun p => AV.s (.int .i64 p.2)
  | [], i => by simp [bxA]
  | p :: r, 0 => rfl
  | p :: r, i + 1 => by
    rw [bxA_cons, show (i + 1) * 2 + 1 = i * 2 + 1 + 1 + 1 by omega]
    simp only [List.getElem?_cons_succ]
    exact bxA_g1 r i
@[simp] theorem bxA_e0 (x : List (Int × Int)) (i : Nat) (h : i * 2 < (bxA x).length) : (bxA x)[i * 2] = AV.s (.int .i64 (x[i]'(by simp at h; omega)).1) := by
  have hi : i < x.length := by simp at h; omega
  have := bxA_g0 x i
  rw [List.getElem?_eq_getElem h, List.getElem?_eq_getElem hi] at this
  exact Option.some.inj this
@[simp] theorem bxA_e1 (x : List (Int × Int)) (i : Nat) (h : i * 2 + 1 < (bxA x).length) : (bxA x)[i * 2 + 1] = AV.s (.int .i64 (x[i]'(by simp at h; omega)).2) := by
  have hi : i < x.length := by simp at h; omega
  have := bxA_g1 x i
  rw [List.getElem?_eq_getElem h, List.getElem?_eq_getElem hi] at this
  exact Option.some.inj this
theorem bxA_mem {x : List (Int × Int)} {a : AV} (h : a ∈ bxA x) : ∃ n, a = .s (.int .i64 n) := by
  simp only [bxA, List.mem_flatMap] at h
  obtain ⟨p, _, h⟩ := h
  simp at h
  rcases h with rfl | rfl
  · exact ⟨_, rfl⟩
  · exact ⟨_, rfl⟩
@[simp] theorem bxA_all (x : List (Int × Int)) : (bxA x).all AV.isCell = true := List.all_eq_true.2 fun a h => by obtain ⟨n, rfl⟩ := bxA_mem h; rfl
@[simp] theorem bxA_allP (x : List (Int × Int)) : (∀ a, a ∈ bxA x → a.isCell = true) ↔ True := ⟨fun _ => trivial, fun _ a h => by obtain ⟨n, rfl⟩ := bxA_mem h; rfl⟩
@[simp] theorem bxA_refs : ∀ x, refsL (bxA x) = []
  | [] => rfl
  | p :: r => by rw [bxA_cons]; simp only [refsL, AV.refs, List.nil_append]; exact bxA_refs r
@[simp] theorem bxA_mapRef (ρ : Ref → Option Ref) : ∀ x, mapRefL ρ (bxA x) = bxA x
  | [] => rfl
  | p :: r => by rw [bxA_cons]; simp only [mapRefL, AV.mapRef, bxA_mapRef ρ r]
@[simp] theorem bxA_asArg : ∀ x, asArgL (bxA x) = bxA x
  | [] => rfl
  | p :: r => by rw [bxA_cons]; simp only [asArgL, AV.asArg, bxA_asArg r]
@[simp] theorem bxA_asObj : ∀ x, asObjL (bxA x) = bxA x
  | [] => rfl
  | p :: r => by rw [bxA_cons]; simp only [asObjL, AV.asObj, bxA_asObj r]
@[simp] theorem bxA_okIn (R : Ref → Bool) (T : Nat → Bool) : ∀ x, okInL R T (bxA x) = true
  | [] => rfl
  | p :: r => by rw [bxA_cons]; simp only [okInL, AV.okIn, bxA_okIn R T r, Bool.and_self]
@[simp] theorem bxA_take (x : List (Int × Int)) (h : x.length = 4) : List.take 8 (bxA x) = bxA x := List.take_of_length_le (by simp [h])
@[simp] theorem bxA_drop8 (x : List (Int × Int)) (h : x.length = 4) : List.drop 8 (bxA x) = [] := List.drop_of_length_le (by simp [h])
theorem bxA_atm (x : List (Int × Int)) (k : Nat) (p : Int × Int) (h : x[k]? = some p) : List.take 2 (List.drop (k * 2) (bxA x)) = [.s (.int .i64 p.1), .s (.int .i64 p.2)] := by
  induction x generalizing k with
  | nil => simp at h
  | cons q r ih =>
    cases k with
    | zero => simp at h; subst h; rfl
    | succ k => rw [bxA_cons, show (k + 1) * 2 = k * 2 + 1 + 1 by omega]; simpa using ih k (by simpa using h)
def setHi : List (Int × Int) → Nat → Int → List (Int × Int)
  | [], _, _ => []
  | p :: r, 0, v => (p.1, v) :: r
  | p :: r, k + 1, v => p :: setHi r k v
def setLo : List (Int × Int) → Nat → Int → List (Int × Int)
  | [], _, _ => []
  | p :: r, 0, v => (v, p.2) :: r
  | p :: r, k + 1, v => p :: setLo r k v
@[simp] theorem setHi_len : ∀ (x : List (Int × Int)) (k : Nat) (v : Int), (setHi x k v).length = x.length
  | [], _, _ => rfl
  | p :: r, 0, v => rfl
  | p :: r, k + 1, v => by simp [setHi, setHi_len r k v]
@[simp] theorem setLo_len : ∀ (x : List (Int × Int)) (k : Nat) (v : Int), (setLo x k v).length = x.length
  | [], _, _ => rfl
  | p :: r, 0, v => rfl
  | p :: r, k + 1, v => by simp [setLo, setLo_len r k v]
theorem bx_putHi : ∀ (x : List (Int × Int)) (k : Nat) (v : Int), k < x.length → List.take (k * 2 + 1) (bxA x) ++ AV.s (.int .i64 v) :: List.drop (k * 2 + 2) (bxA x) = bxA (setHi x k v)
  | [], k, v, h => by simp at h
  | p :: r, 0, v, _ => rfl
  | p :: r, k + 1, v, h => by
    rw [bxA_cons, show (k + 1) * 2 + 1 = k * 2 + 1 + 1 + 1 by omega, show (k + 1) * 2 + 2 = k * 2 + 2 + 1 + 1 by omega]
    simp only [List.take_succ_cons, List.drop_succ_cons, List.cons_append]
    rw [bx_putHi r k v (by simpa using h)]
    rfl
theorem bx_putLo : ∀ (x : List (Int × Int)) (k : Nat) (v : Int), k < x.length → List.take (k * 2) (bxA x) ++ AV.s (.int .i64 v) :: List.drop (k * 2 + 1) (bxA x) = bxA (setLo x k v)
  | [], k, v, h => by simp at h
  | p :: r, 0, v, _ => rfl
  | p :: r, k + 1, v, h => by
    rw [bxA_cons, show (k + 1) * 2 = k * 2 + 1 + 1 by omega, show k * 2 + 1 + 1 + 1 = (k * 2 + 1) + 1 + 1 by omega]
    simp only [List.take_succ_cons, List.drop_succ_cons, List.cons_append]
    rw [bx_putLo r k v (by simpa using h)]
    rfl
def bx0 : List (Int × Int) := [(0, 0), (0, 0), (0, 0), (0, 0)]
@[simp] theorem bx0len : bx0.length = 4 := rfl
@[simp] theorem bx0drop8 : List.drop 8 (bxA bx0) = [] := rfl
@[simp] theorem bx0take8 : List.take 8 (bxA bx0) = bxA bx0 := rfl
theorem zero115b : zeroCells Try.prog 115 = some (bxA bx0) := by kernel_rfl
attribute [simp] zero115b
def bxV (x : List (Int × Int)) : List Value := x.flatMap fun p => [.int .i64 p.1, .int .i64 p.2]
theorem bxA_cell? : ∀ x, (bxA x).mapM AV.cell? = some (bxV x)
  | [] => rfl
  | p :: r => by
    rw [bxA_cons]
    simp only [List.mapM_cons, cell_int, bxA_cell? r]
    rfl
attribute [simp] bxA_cell?
@[simp] theorem val_bx (x : List (Int × Int)) : (AV.agg (bxA x)).val? = some (.agg (bxV x).toArray) := by
  rw [val_agg, bxA_cell?]; rfl

theorem stood115 : Try.prog.stoodInHeld 115 = false := by kernel_rfl
theorem pe_arr (d : Nat) (a0 b0 a1 b1 a2 b2 a3 b3 c0 e0 c1 e1 c2 e2 c3 e3 : Int) :
    pureP Try.prog (Op.equalIn (d + 3) 115 (.agg #[.int .i64 a0, .int .i64 b0, .int .i64 a1, .int .i64 b1, .int .i64 a2, .int .i64 b2, .int .i64 a3, .int .i64 b3]) (.agg #[.int .i64 c0, .int .i64 e0, .int .i64 c1, .int .i64 e1, .int .i64 c2, .int .i64 e2, .int .i64 c3, .int .i64 e3])) =
      some (decide ((a0 = c0 ∧ b0 = e0) ∧ (a1 = c1 ∧ b1 = e1) ∧ (a2 = c2 ∧ b2 = e2) ∧ (a3 = c3 ∧ b3 = e3))) := by
  have he : ∀ (a b c e : Int), pureP Try.prog (Op.equalIn (d + 2) 113 (.agg #[.int .i64 a, .int .i64 b]) (.agg #[.int .i64 c, .int .i64 e])) = some (decide (a = c ∧ b = e)) :=
    fun a b c e => pe_2 d 113 _ _ Try.underlying113 stood113 (by simp) (by simp) a b c e
  unfold Op.equalIn
  rw [pureP_bind _ _ _ _ (underlying_pure 115 _ Try.underlying115)]
  simp only []
  rw [pureP_bind _ _ _ _ size113]
  have hp : ∀ (u0 v0 u1 v1 u2 v2 u3 v3 : Int) (k : Nat) (a b : Int), (#[Value.int .i64 u0, .int .i64 v0, .int .i64 u1, .int .i64 v1, .int .i64 u2, .int .i64 v2, .int .i64 u3, .int .i64 v3].extract k (k + 2)) = #[.int .i64 a, .int .i64 b] →
      pureP Try.prog (part 113 #[.int .i64 u0, .int .i64 v0, .int .i64 u1, .int .i64 v1, .int .i64 u2, .int .i64 v2, .int .i64 u3, .int .i64 v3] k) = some (.agg #[.int .i64 a, .int .i64 b]) := fun u0 v0 u1 v1 u2 v2 u3 v3 k a b h => by
    rw [part_agg 113 _ k 2 agg113 size113, h]
  rw [Std.Legacy.Range.forIn_eq_forIn_range']
  show pureP Try.prog (forIn [0, 1, 2, 3] _ _ >>= _) = _
  simp only [List.forIn_cons, List.forIn_nil, bind_assoc]
  rw [pureP_bind _ _ _ _ (hp a0 b0 a1 b1 a2 b2 a3 b3 (0 * 2) a0 b0 rfl), pureP_bind _ _ _ _ (hp c0 e0 c1 e1 c2 e2 c3 e3 (0 * 2) c0 e0 rfl), pureP_bind _ _ _ _ (he a0 b0 c0 e0)]
  by_cases h0 : a0 = c0 ∧ b0 = e0
  · simp only [h0, and_self, decide_true, Bool.not_true, Bool.false_eq_true, if_false, pure_bind, bind_assoc]
    rw [pureP_bind _ _ _ _ (hp c0 e0 a1 b1 a2 b2 a3 b3 (1 * 2) a1 b1 rfl), pureP_bind _ _ _ _ (hp c0 e0 c1 e1 c2 e2 c3 e3 (1 * 2) c1 e1 rfl), pureP_bind _ _ _ _ (he a1 b1 c1 e1)]
    by_cases h1 : a1 = c1 ∧ b1 = e1
    · simp only [h1, and_self, decide_true, Bool.not_true, Bool.false_eq_true, if_false, pure_bind, bind_assoc]
      rw [pureP_bind _ _ _ _ (hp c0 e0 c1 e1 a2 b2 a3 b3 (2 * 2) a2 b2 rfl), pureP_bind _ _ _ _ (hp c0 e0 c1 e1 c2 e2 c3 e3 (2 * 2) c2 e2 rfl), pureP_bind _ _ _ _ (he a2 b2 c2 e2)]
      by_cases h2 : a2 = c2 ∧ b2 = e2
      · simp only [h2, and_self, decide_true, Bool.not_true, Bool.false_eq_true, if_false, pure_bind, bind_assoc]
        rw [pureP_bind _ _ _ _ (hp c0 e0 c1 e1 c2 e2 a3 b3 (3 * 2) a3 b3 rfl), pureP_bind _ _ _ _ (hp c0 e0 c1 e1 c2 e2 c3 e3 (3 * 2) c3 e3 rfl), pureP_bind _ _ _ _ (he a3 b3 c3 e3)]
        by_cases h3 : a3 = c3 ∧ b3 = e3
        · simp [h3]
        · simp [h3]
      · simp [h2]
    · simp [h1]
  · simp [h0]
theorem eq_box (x y : Operand) (u v : List (Int × Int)) (hu : u.length = 4) (hv : v.length = 4) : qBinP Try.prog .eql 115 x y (some (.agg (bxV u).toArray)) (some (.agg (bxV v).toArray)) = some (.s (.bool (decide (u = v)))) := by
  match u, v, hu, hv with
  | [(a0, b0), (a1, b1), (a2, b2), (a3, b3)], [(c0, e0), (c1, e1), (c2, e2), (c3, e3)], _, _ =>
    have := q_agg (P := Try.prog) 115 x y _ _ _ Try.eqGuardType115 (pe_arr _ a0 b0 a1 b1 a2 b2 a3 b3 c0 e0 c1 e1 c2 e2 c3 e3)
    simp only [bxV, List.flatMap_cons, List.flatMap_nil, List.cons_append, List.nil_append, List.append_nil]
    rw [this]
    simp
end Go.Ev
end
