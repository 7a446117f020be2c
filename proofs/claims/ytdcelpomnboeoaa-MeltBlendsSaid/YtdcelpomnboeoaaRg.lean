/- The statement MeltBlends: for any order and any lists of numbers the function MeltBlends returns true, and turns nothing of what it was handed; no condition. -/
import Derived.Test.YtdcelpomnboeoaaRows
import Derived.Test.YtdcelpomnboeoaaLM
import Derived.Test.YtdcelpomnboeoaaLN

section
set_option linter.all false
open Go Go.Ev Go.Proofs Go.RowKit Go.ChangeShapes Go.WideShapes
namespace Go.Proofs.Ytdcelpomnboeoaa
set_option linter.unusedSimpArgs false
set_option linter.unusedVariables false
set_option maxRecDepth 100000

theorem meltBlends_lifted (os : Os) (started : os.Started) (H : Type) (enc : TypeId × Value → H) :
    ReturnsInHanded {} Try.checked os 8 .any (Rows.meltBlendsSpec.pre6 enc Try.prog Try.f8 Rows.meltBlendsRow.domain false) (Rows.meltBlendsSpec.post enc Try.prog Try.f8 false true false false) := by
  refine lifted_true (C := Try.checked) (tb := 4) (by decide) Go.Ev.Try.ownK started (by kernel_rfl) Try.func8 Go.Ev.Try.laid (by kernel_rfl) Try.underlying4 ?_ rfl ?_
    (ChangeSpec.witness6 (enc := enc) (C := Try.checked) false ⟨#[], #[.agg #[.slice none 0 0, .int .i64 0, .int .i64 0, .slice none 0 0], .slice none 0 0, .slice none 0 0], []⟩ 8 (by kernel_rfl) (by kernel_rfl) (by kernel_rfl) (by kernel_rfl)) ?_
  · rw [Try.params8]
    intro t ht
    simp only [List.mem_cons, List.not_mem_nil, or_false] at ht
    rcases ht with rfl | rfl | rfl <;> exact ⟨by kernel_rfl, of_decide_eq_true (by kernel_rfl)⟩
  · intro ds h
    rw [Try.params8] at h
    match ds, h with
    | [d0, d1, d2], _ => rfl
  · intro W base args ds ps hval hT hsz hlt
    rw [Try.params8] at hT hval hsz
    obtain ⟨args⟩ := args
    simp only at hT hval
    obtain ⟨v0, vs0, d0, ds0, p0, q0, rfl, rfl, rfl, h0, hT0⟩ := trodAll_cons hT
    obtain ⟨v1, vs1, d1, ds1, p1, q1, rfl, rfl, rfl, h1, hT1⟩ := trodAll_cons hT0
    obtain ⟨v2, vs2, d2, ds2, p2, q2, rfl, rfl, rfl, h2, hT2⟩ := trodAll_cons hT1
    obtain ⟨rfl, rfl, rfl⟩ := trodAll_nil hT2
    have hv0 := hval 0 25 v0 rfl rfl
    simp only [Value.okWide] at hv0
    rw [show Try.checked.prog.underlying 25 = _ from Try.underlying25] at hv0
    obtain ⟨cs0, rfl, _⟩ := hv0
    obtain ⟨o, s0, z0⟩ := In.arg in_ord h0 (fun x hx => hlt x (by simp [hx]))
    have r0 := arg_agg s0
    simp only [eOrd, List.map_cons, List.map_nil, av_int, av_sl] at r0
    obtain ⟨l1, r1, z1⟩ := ints_in (P := Try.prog) Try.underlying22 Try.underlying3 Go.Ev.Try.cells3' h1 (hval 1 22 v1 rfl rfl) (fun x hx => hlt x (by simp [hx])) (fun e s hd => by
      subst hd
      have := sized_slice hsz (j := 1) rfl rfl Try.underlying22
      rwa [show Try.checked.prog.bytesOf 3 = 8 from Go.Ev.Try.bytes3'] at this)
    obtain ⟨l2, r2, z2⟩ := ints_in (P := Try.prog) Try.underlying22 Try.underlying3 Go.Ev.Try.cells3' h2 (hval 2 22 v2 rfl rfl) (fun x hx => hlt x (by simp [hx])) (fun e s hd => by
      subst hd
      have := sized_slice hsz (j := 2) rfl rfl Try.underlying22
      rwa [show Try.checked.prog.bytesOf 3 = 8 from Go.Ev.Try.bytes3'] at this)
    exact ⟨[.agg [.sl false false .U .no o.limits.length (eInts o.limits), .s (.int .i64 o.least), .s (.int .i64 o.most), .sl false false .U .no o.bins.length (eBins o.bins)], .sl false false .U .no l1.length (eInts l1), .sl false false .U .no l2.length (eInts l2)], ⟨_, _, rfl, r0, ⟨_, _, rfl, r1, ⟨_, _, rfl, r2, rfl⟩⟩⟩, MeltBlends_ok o l1 l2 (by omega)⟩
theorem meltBlends_holds : Rows.MeltBlendsSaid :=
  OpenClaim.holds_of_wide 8 Try.f8 rfl rfl rfl rfl rfl rfl rfl ⟨rfl, rfl, rfl, rfl, rfl⟩ rfl rfl rfl rfl rfl (by kernel_rfl) Try.func8 (by kernel_rfl)
    (of_decide_eq_true (by kernel_rfl)) (by unfold Func.isWrapper; first | (rw [if_pos (by decide +kernel)]; kernel_rfl) | (rw [if_neg (by decide +kernel)]; exact ⟨rfl, rfl⟩))
    (fun os started H enc _ => meltBlends_lifted os started H enc)
end Go.Proofs.Ytdcelpomnboeoaa
end
