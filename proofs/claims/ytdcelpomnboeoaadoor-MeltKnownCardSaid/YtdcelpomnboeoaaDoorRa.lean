/- The tied card of MeltKnown: the function MeltKnown, which has no argument, returns true (the chapter's examples have the results given there), and turns nothing; the row lists three tables of the library with what they hold, and the card ties them to the program's text; no further condition. -/
import Derived.Test.YtdcelpomnboeoaaDoorRows
import Derived.Test.YtdcelpomnboeoaaDoorCards
import Derived.Test.YtdcelpomnboeoaaDoorTie
import Derived.SevenTiedAt
import Derived.Test.YtdcelpomnboeoaaDoorGAG
import Derived.Test.YtdcelpomnboeoaaDoorGAN

section
set_option linter.all false
open Go Go.Ev Go.Proofs Go.RowKit Go.ChangeShapes Go.WideShapes
namespace Go.Proofs.YtdcelpomnboeoaaDoor
set_option linter.unusedSimpArgs false
set_option linter.unusedVariables false
set_option maxRecDepth 100000

theorem ownK : ownKnob Tryd.prog.godebug = none := by kernel_rfl
theorem laidO : laidOutB Tryd.prog = true := by kernel_rfl
theorem known_met (os : Os) (args : Array Value) : laidMetH Tryd.prog Rows.meltKnownRow.laid ((World.doorLaid Tryd.prog 400 os).forCall (fun _ _ => 0) ⟨#[], args, []⟩).memory :=
  laidMetH_of_parts3 (fuel := 8) (laidMet_of_run' 8 (by kernel_rfl) (by kernel_rfl)) (by kernel_rfl) (by kernel_rfl)
theorem meltKnown_lifted (os : Os) (started : os.Started) (H : Type) (enc : TypeId × Value → H) :
    ReturnsInHanded {} Tryd.checked os 3 .any (fun w args => (Rows.meltKnownSpec.pre enc Tryd.prog Tryd.f3 [] false w args ∧ laidMetH Tryd.prog Rows.meltKnownRow.laid w) ∧ sizedMet enc Tryd.prog Tryd.f3 (OpenSpec.ofChange Rows.meltKnownSpec) false w args)
      (Rows.meltKnownSpec.post enc Tryd.prog Tryd.f3 false true false false) := by
  refine lifted_true_and (C := Tryd.checked) (X := fun w _ => laidMetH Tryd.prog Rows.meltKnownRow.laid w) (tb := 4) (by decide) ownK started (by kernel_rfl) Tryd.func3 laidO (by kernel_rfl) Tryd.underlying4 ?_ rfl ?_ (fun _ _ _ hh h => h.of_heap hh)
    (ChangeSpec.witness_shaped (enc := enc) (C := Tryd.checked) (os := os) (X := fun w _ => laidMetH Tryd.prog Rows.meltKnownRow.laid w) false (World.doorLaid Tryd.prog 400 os) #[] 8 rfl (World.shaped_of_RefB (by kernel_rfl) (by kernel_rfl)) (by kernel_rfl) (by kernel_rfl) (by kernel_rfl) (known_met os _)) ?_
  · rw [Tryd.params3]
    intro t ht
    simp at ht
  · intro ds h
    rw [Tryd.params3] at h
    match ds, h with
    | [], _ => rfl
  · intro W base args ds ps hval hT hsz hlt hX hh
    rw [Tryd.params3] at hT
    have e1 : args.toList = [] := (trodAll_nil hT).1
    exact ⟨[], by rw [e1]; simp [RVs], known_ok⟩
theorem meltKnown_row : Rows.MeltKnownSaid :=
  OpenClaim.holds_of_wide 3 Tryd.f3 rfl rfl rfl rfl rfl rfl rfl ⟨rfl, rfl, rfl, rfl, rfl⟩ rfl rfl rfl rfl rfl (by kernel_rfl) Tryd.func3 (by kernel_rfl)
    (of_decide_eq_true (by kernel_rfl)) (by unfold Func.isWrapper; first | (rw [if_pos (by decide +kernel)]; kernel_rfl) | (rw [if_neg (by decide +kernel)]; exact ⟨rfl, rfl⟩))
    (fun os started H enc _ => meltKnown_lifted os started H enc)
theorem meltKnown_card : Rows.MeltKnownCardSaid :=
  Claim7.holds_tied_plain_at .later [] [.data, .data, .data] true (true, "db7f018e291a1379842093836ed02978ee2f588ca7f21d11efbbeee32c7f71c1") true
    meltKnown_row (fun _ h => by cases h) (by kernel_rfl) (fun _ h => by cases h) meltKnown_row_tie rfl ⟨rfl, rfl⟩ (by kernel_rfl) rfl
    (fun f fn hf hfn => by
      obtain rfl : f = 3 := Option.some.inj ((show Tryd.prog.funcNamed "swarf/swarflaw06.MeltKnown" = some 3 by kernel_rfl).symm.trans hf) |>.symm
      obtain rfl : fn = Tryd.f3 := (Option.some.inj (Tryd.func3.symm.trans hfn)).symm
      exact ⟨by kernel_rfl, fun j t ht => by
        rw [Tryd.params3] at ht
        simp at ht⟩)
    (by kernel_rfl)
end Go.Proofs.YtdcelpomnboeoaaDoor
end
