/- The tied card of MeltRead: for any numbers and any text, the function MeltRead returns true (a proof of a made order's price is written without an error and read again as it was, and a text of at most 700 bytes that is read is written again as it was), and turns nothing of what it was handed; the row lists five tables of the library with what they hold (one of them by a constant of the form), and the card ties them to the text of the program's pruned copy; no further condition. -/
import Derived.Test.YtdcelpomnboeoaaDoorRows
import Derived.Test.YtdcelpomnboeoaaDoorCards
import Derived.Test.YtdcelpomnboeoaaDoorTie
import Derived.SevenTiedAt
import Derived.Lay
import Derived.ChangeMaps5
import Derived.Test.YtdcelpomnboeoaaDoorGAG
import Derived.Test.YtdcelpomnboeoaaDoorGAO

section
set_option linter.all false
open Go Go.Ev Go.Proofs Go.RowKit Go.ChangeShapes Go.WideShapes
namespace Go.Proofs.YtdcelpomnboeoaaDoor
set_option linter.unusedSimpArgs false
set_option linter.unusedVariables false
set_option maxRecDepth 100000

theorem ownK : ownKnob Tryd.prog.godebug = none := by kernel_rfl
theorem laidO : laidOutB Tryd.prog = true := by kernel_rfl
theorem read_met (os : Os) (args : Array Value) : laidMetH Tryd.prog Rows.meltReadRow.laid ((World.laidAll Tryd.prog os Rows.meltReadRow.laid).forCall (fun _ _ => 0) ⟨#[], args, []⟩).memory := by
  rw [MakeChecks.laidMetH_plain _ _ _ (by kernel_rfl)]
  exact laidMet_laidAll _ (by kernel_rfl) (by kernel_rfl)
theorem meltRead_lifted (os : Os) (started : os.Started) (H : Type) (enc : TypeId × Value → H) :
    ReturnsInHanded {} Tryd.checked os 4 .any (fun w args => (Rows.meltReadSpec.pre enc Tryd.prog Tryd.f4 [] false w args ∧ laidMetH Tryd.prog Rows.meltReadRow.laid w) ∧ sizedMet enc Tryd.prog Tryd.f4 (OpenSpec.ofChange Rows.meltReadSpec) false w args)
      (Rows.meltReadSpec.post enc Tryd.prog Tryd.f4 false true false false) := by
  refine lifted_true_and (C := Tryd.checked) (X := fun w _ => laidMetH Tryd.prog Rows.meltReadRow.laid w) (tb := 4) (by decide) ownK started (by kernel_rfl) Tryd.func4 laidO (by kernel_rfl) Tryd.underlying4 ?_ rfl ?_ (fun _ _ _ hh h => h.of_heap hh)
    (ChangeSpec.witness_shaped (enc := enc) (C := Tryd.checked) (os := os) (X := fun w _ => laidMetH Tryd.prog Rows.meltReadRow.laid w) false (World.laidAll Tryd.prog os Rows.meltReadRow.laid) #[.slice none 0 0, .string ⟨#[]⟩] 8 (World.laidAll_os _ _ _) (World.shaped_of_ZipB (by kernel_rfl) (by kernel_rfl)) (by kernel_rfl) (by kernel_rfl) (by kernel_rfl) (read_met os _)) ?_
  · rw [Tryd.params4]
    intro t ht
    simp only [List.mem_cons, List.not_mem_nil, or_false] at ht
    rcases ht with rfl | rfl <;> exact ⟨by kernel_rfl, of_decide_eq_true (by kernel_rfl)⟩
  · intro ds h
    rw [Tryd.params4] at h
    match ds, h with
    | [d0, d1], _ => rfl
  · intro W base args ds ps hval hT hsz hlt hX hh
    rw [Tryd.params4] at hT hval hsz
    obtain ⟨args⟩ := args
    simp only at hT hval
    obtain ⟨v0, vs0, d0, ds0, p0, q0, rfl, rfl, rfl, h0, hT0⟩ := trodAll_cons hT
    obtain ⟨v1, vs1, d1, ds1, p1, q1, rfl, rfl, rfl, h1, hT1⟩ := trodAll_cons hT0
    obtain ⟨rfl, rfl, rfl⟩ := trodAll_nil hT1
    obtain ⟨l, r0, z0⟩ := ints_in (P := Tryd.prog) Tryd.underlying22 Tryd.underlying3 Go.Ev.Tryd.cells3' h0 (hval 0 22 v0 rfl rfl) (fun x hx => hlt x (by simp [hx])) (fun e s hd => by
      subst hd
      have := sized_slice hsz (j := 0) rfl rfl Tryd.underlying22
      rwa [show Tryd.checked.prog.bytesOf 3 = 8 from Go.Ev.Tryd.bytes3'] at this)
    obtain ⟨s, e1, -, -, -⟩ := ChangeMaps.open_string Tryd.underlying9 (hval 1 9 v1 rfl rfl) h1
    subst e1
    exact ⟨[.sl false false .U .no l.length (eInts l), .s (tx s.data.toList)], ⟨_, _, rfl, r0, ⟨_, _, rfl, rfl, rfl⟩⟩, MeltRead_ok l (by omega) s.data.toList⟩
theorem meltRead_row : Rows.MeltReadSaid :=
  OpenClaim.holds_of_wide 4 Tryd.f4 rfl rfl rfl rfl rfl rfl rfl ⟨rfl, rfl, rfl, rfl, rfl⟩ rfl rfl rfl rfl rfl (by kernel_rfl) Tryd.func4 (by kernel_rfl)
    (of_decide_eq_true (by kernel_rfl)) (by unfold Func.isWrapper; first | (rw [if_pos (by decide +kernel)]; kernel_rfl) | (rw [if_neg (by decide +kernel)]; exact ⟨rfl, rfl⟩))
    (fun os started H enc _ => meltRead_lifted os started H enc)
theorem meltRead_card : Rows.MeltReadCardSaid :=
  Claim7.holds_tied_plain_at .later [] [.data, .data, .data, .data, .pinned] true (true, "db7f018e291a1379842093836ed02978ee2f588ca7f21d11efbbeee32c7f71c1") true
    meltRead_row (fun _ h => by cases h) (by kernel_rfl) (fun _ h => by cases h) meltRead_row_tie rfl ⟨rfl, rfl⟩ (by kernel_rfl) rfl
    (fun f fn hf hfn => by
      obtain rfl : f = 4 := Option.some.inj ((show Tryd.prog.funcNamed "swarf/swarflaw06.MeltRead" = some 4 by kernel_rfl).symm.trans hf) |>.symm
      obtain rfl : fn = Tryd.f4 := (Option.some.inj (Tryd.func4.symm.trans hfn)).symm
      exact ⟨by kernel_rfl, fun j t ht => by
        rw [Tryd.params4] at ht
        have hm : t ∈ [22, 9] := by simpa using Array.mem_of_getElem? ht
        have hall : ([22, 9].all fun u => !Tryd.prog.wantsStandIn u) = true := by kernel_rfl
        exact (show Tryd.prog.wantsStandIn t = false by simpa using List.all_eq_true.1 hall t hm)⟩)
    (by kernel_rfl)
end Go.Proofs.YtdcelpomnboeoaaDoor
end
