/- The statement MeltProofs: for any order, any price, any list of bounds, any bound, any place and any list of numbers the function MeltProofs returns true, and turns nothing of what it was handed; no condition. -/
import Derived.Test.YtdcelpomnboeoaaRows
import Derived.Test.YtdcelpomnboeoaaLM
import Derived.Test.YtdcelpomnboeoaaLU

section
set_option linter.all false
open Go Go.Ev Go.Proofs Go.RowKit Go.ChangeShapes Go.WideShapes
namespace Go.Proofs.Ytdcelpomnboeoaa
set_option linter.unusedSimpArgs false
set_option linter.unusedVariables false
set_option maxRecDepth 100000

theorem meltProofs_lifted (os : Os) (started : os.Started) (H : Type) (enc : TypeId × Value → H) :
    ReturnsInHanded {} Try.checked os 10 .any (Rows.meltProofsSpec.pre6 enc Try.prog Try.f10 Rows.meltProofsRow.domain false) (Rows.meltProofsSpec.post enc Try.prog Try.f10 false true false false) := by
  refine lifted_true (C := Try.checked) (tb := 4) (by decide) Go.Ev.Try.ownK started (by kernel_rfl) Try.func10 Go.Ev.Try.laid (by kernel_rfl) Try.underlying4 ?_ rfl ?_
    (ChangeSpec.witness6 (enc := enc) (C := Try.checked) false ⟨#[], #[.agg #[.slice none 0 0, .int .i64 0, .int .i64 0, .slice none 0 0], .int .i64 0, .slice none 0 0, .agg #[.int .i64 0, .int .i64 0, .int .i64 0], .int .i64 0, .slice none 0 0], []⟩ 8 (by kernel_rfl) (by kernel_rfl) (by kernel_rfl) (by kernel_rfl)) ?_
  · rw [Try.params10]
    intro t ht
    simp only [List.mem_cons, List.not_mem_nil, or_false] at ht
    rcases ht with rfl | rfl | rfl | rfl | rfl | rfl <;> exact ⟨by kernel_rfl, of_decide_eq_true (by kernel_rfl)⟩
  · intro ds h
    rw [Try.params10] at h
    match ds, h with
    | [d0, d1, d2, d3, d4, d5], _ => rfl
  · intro W base args ds ps hval hT hsz hlt
    rw [Try.params10] at hT hval hsz
    obtain ⟨args⟩ := args
    simp only at hT hval
    obtain ⟨v0, vs0, d0, ds0, p0, q0, rfl, rfl, rfl, h0, hT0⟩ := trodAll_cons hT
    obtain ⟨v1, vs1, d1, ds1, p1, q1, rfl, rfl, rfl, h1, hT1⟩ := trodAll_cons hT0
    obtain ⟨v2, vs2, d2, ds2, p2, q2, rfl, rfl, rfl, h2, hT2⟩ := trodAll_cons hT1
    obtain ⟨v3, vs3, d3, ds3, p3, q3, rfl, rfl, rfl, h3, hT3⟩ := trodAll_cons hT2
    obtain ⟨v4, vs4, d4, ds4, p4, q4, rfl, rfl, rfl, h4, hT4⟩ := trodAll_cons hT3
    obtain ⟨v5, vs5, d5, ds5, p5, q5, rfl, rfl, rfl, h5, hT5⟩ := trodAll_cons hT4
    obtain ⟨rfl, rfl, rfl⟩ := trodAll_nil hT5
    have hv0 := hval 0 25 v0 rfl rfl
    simp only [Value.okWide] at hv0
    rw [show Try.checked.prog.underlying 25 = _ from Try.underlying25] at hv0
    obtain ⟨cs0, rfl, _⟩ := hv0
    obtain ⟨o, s0, z0⟩ := In.arg in_ord h0 (fun x hx => hlt x (by simp [hx]))
    have r0 := arg_agg s0
    simp only [eOrd, List.map_cons, List.map_nil, av_int, av_sl] at r0
    obtain ⟨n1, s1, z1⟩ := In.arg (In.int Try.underlying3) h1 (fun x hx => hlt x (by simp [hx]))
    have r1 : RV W (c0 (rdO W) []) (.s (.int .i64 n1)) v1 := int_arg (hval 1 3 v1 rfl rfl) s1
    obtain ⟨A2, L2, C2, rfl⟩ := okWide_slice (P := Try.prog) Try.underlying62 (hval 2 62 v2 rfl rfl)
    obtain ⟨b, s2, z2⟩ := In.arg in_bds h2 (fun x hx => hlt x (by simp [hx]))
    have r2 := arg_cell (base := 0) (t := 62) rfl s2
    simp only [av_sl] at r2
    have hv3 := hval 3 64 v3 rfl rfl
    simp only [Value.okWide] at hv3
    rw [show Try.checked.prog.underlying 64 = _ from Try.underlying64] at hv3
    obtain ⟨cs3, rfl, _⟩ := hv3
    obtain ⟨q, s3, z3⟩ := In.arg in_bnd h3 (fun x hx => hlt x (by simp [hx]))
    have r3 := arg_agg s3
    simp only [eBd, List.map_cons, List.map_nil, av_int] at r3
    obtain ⟨n2, s4, z4⟩ := In.arg (In.int Try.underlying3) h4 (fun x hx => hlt x (by simp [hx]))
    have r4 : RV W (c0 (rdO W) []) (.s (.int .i64 n2)) v4 := int_arg (hval 4 3 v4 rfl rfl) s4
    obtain ⟨l, r5, z5⟩ := ints_in (P := Try.prog) Try.underlying22 Try.underlying3 Go.Ev.Try.cells3' h5 (hval 5 22 v5 rfl rfl) (fun x hx => hlt x (by simp [hx])) (fun e s hd => by
      subst hd
      have := sized_slice hsz (j := 5) rfl rfl Try.underlying22
      rwa [show Try.checked.prog.bytesOf 3 = 8 from Go.Ev.Try.bytes3'] at this)
    exact ⟨[.agg [.sl false false .U .no o.limits.length (eInts o.limits), .s (.int .i64 o.least), .s (.int .i64 o.most), .sl false false .U .no o.bins.length (eBins o.bins)], .s (.int .i64 n1), .sl false false .U .no b.length (eBds b), .agg [.s (.int .i64 q.r), .s (.int .i64 q.a), .s (.int .i64 q.c)], .s (.int .i64 n2), .sl false false .U .no l.length (eInts l)], ⟨_, _, rfl, r0, ⟨_, _, rfl, r1, ⟨_, _, rfl, r2, ⟨_, _, rfl, r3, ⟨_, _, rfl, r4, ⟨_, _, rfl, r5, rfl⟩⟩⟩⟩⟩⟩, MeltProofs_ok o n1 b q n2 l (by omega)⟩
theorem meltProofs_holds : Rows.MeltProofsSaid :=
  OpenClaim.holds_of_wide 10 Try.f10 rfl rfl rfl rfl rfl rfl rfl ⟨rfl, rfl, rfl, rfl, rfl⟩ rfl rfl rfl rfl rfl (by kernel_rfl) Try.func10 (by kernel_rfl)
    (of_decide_eq_true (by kernel_rfl)) (by unfold Func.isWrapper; first | (rw [if_pos (by decide +kernel)]; kernel_rfl) | (rw [if_neg (by decide +kernel)]; exact ⟨rfl, rfl⟩))
    (fun os started H enc _ => meltProofs_lifted os started H enc)
end Go.Proofs.Ytdcelpomnboeoaa
end
