/- The statement MeltEasier: for any list of numbers the function MeltEasier returns true (if the limits of an order are higher, its least less and its most more, its scrap purer, its grabs more and its costs less, the cheapest blend costs no more), and turns nothing of what it was handed; no condition. -/
import Derived.Test.YtdcelpomnboeoaaRows
import Derived.Test.YtdcelpomnboeoaaLI
import Derived.Test.YtdcelpomnboeoaaLW

section
set_option linter.all false
open Go Go.Ev Go.Proofs Go.RowKit Go.ChangeShapes Go.WideShapes
namespace Go.Proofs.Ytdcelpomnboeoaa
set_option linter.unusedSimpArgs false
set_option linter.unusedVariables false
set_option maxRecDepth 100000

theorem meltEasier_lifted (os : Os) (started : os.Started) (H : Type) (enc : TypeId × Value → H) :
    ReturnsInHanded {} Try.checked os 6 .any (Rows.meltEasierSpec.pre6 enc Try.prog Try.f6 Rows.meltEasierRow.domain false) (Rows.meltEasierSpec.post enc Try.prog Try.f6 false true false false) := by
  refine lifted_true (C := Try.checked) (tb := 4) (by decide) Go.Ev.Try.ownK started (by kernel_rfl) Try.func6 Go.Ev.Try.laid (by kernel_rfl) Try.underlying4 ?_ rfl ?_
    (ChangeSpec.witness6 (enc := enc) (C := Try.checked) false ⟨#[], #[.slice none 0 0], []⟩ 8 (by kernel_rfl) (by kernel_rfl) (by kernel_rfl) (by kernel_rfl)) ?_
  · rw [Try.params6]
    intro t ht
    simp only [List.mem_cons, List.not_mem_nil, or_false] at ht
    subst ht
    exact ⟨by kernel_rfl, of_decide_eq_true (by kernel_rfl)⟩
  · intro ds h
    rw [Try.params6] at h
    match ds, h with
    | [d], _ => rfl
  · intro W base args ds ps hval hT hsz hlt
    rw [Try.params6] at hT hval hsz
    obtain ⟨v, d, rfl, rfl, h0⟩ := trodAll_one hT
    obtain ⟨l, h1, h2⟩ := ints_in (P := Try.prog) Try.underlying22 Try.underlying3 Go.Ev.Try.cells3' h0 (hval 0 22 v rfl rfl) hlt (fun e s hd => by
      subst hd
      have := sized_slice hsz (j := 0) rfl rfl Try.underlying22
      rwa [show Try.checked.prog.bytesOf 3 = 8 from Go.Ev.Try.bytes3'] at this)
    exact ⟨[.sl false false .U .no l.length (eInts l)], ⟨v, [], rfl, h1, rfl⟩, MeltEasier_ok l (by omega)⟩
theorem meltEasier_holds : Rows.MeltEasierSaid :=
  OpenClaim.holds_of_wide 6 Try.f6 rfl rfl rfl rfl rfl rfl rfl ⟨rfl, rfl, rfl, rfl, rfl⟩ rfl rfl rfl rfl rfl (by kernel_rfl) Try.func6 (by kernel_rfl)
    (of_decide_eq_true (by kernel_rfl)) (by unfold Func.isWrapper; first | (rw [if_pos (by decide +kernel)]; kernel_rfl) | (rw [if_neg (by decide +kernel)]; exact ⟨rfl, rfl⟩))
    (fun os started H enc _ => meltEasier_lifted os started H enc)
end Go.Proofs.Ytdcelpomnboeoaa
end
