/- The tied card of MeltReasons: for any proof, any text, any numbers, any two numbers and any byte, the function MeltReasons returns true (at a proof of at most 60 bounds or of 6001 to 6060, and a text of at most 700 bytes or of more than 60000, the program writes and reads proofs as the reference does), and turns nothing of what it was handed; the row lists five tables of the library with what they hold (one of them by a constant of the form), and the card ties them to the text of the program's pruned copy; no further condition. -/
import Derived.Test.YtdcelpomnboeoaaGreatDoorRows
import Derived.Test.YtdcelpomnboeoaaGreatDoorCards
import Derived.Test.YtdcelpomnboeoaaGreatDoorTie
import Derived.SevenTiedAt
import Derived.Lay
import Derived.ChangeMaps5
import Derived.Test.YtdcelpomnboeoaaGreatDoorGAG
import Derived.Test.YtdcelpomnboeoaaGreatDoorGAS

section
set_option linter.all false
open Go Go.Ev Go.Proofs Go.RowKit Go.ChangeShapes Go.WideShapes
namespace Go.Proofs.YtdcelpomnboeoaaGreatDoor
set_option linter.unusedSimpArgs false
set_option linter.unusedVariables false
set_option maxRecDepth 100000

theorem ownK : ownKnob Tryz.prog.godebug = none := by kernel_rfl
theorem laidO : laidOutB Tryz.prog = true := by kernel_rfl
theorem reasons_met (os : Os) (args : Array Value) : laidMetH Tryz.prog Rows.meltReasonsRow.laid ((World.laidAll Tryz.prog os Rows.meltReasonsRow.laid).forCall (fun _ _ => 0) ⟨#[], args, []⟩).memory := by
  rw [MakeChecks.laidMetH_plain _ _ _ (by kernel_rfl)]
  exact laidMet_laidAll _ (by kernel_rfl) (by kernel_rfl)
theorem meltReasons_lifted (os : Os) (started : os.Started) (H : Type) (enc : TypeId × Value → H) :
    ReturnsInHanded {} Tryz.checked os 3 .any (fun w args => (Rows.meltReasonsSpec.pre enc Tryz.prog Tryz.f3 [] false w args ∧ laidMetH Tryz.prog Rows.meltReasonsRow.laid w) ∧ sizedMet enc Tryz.prog Tryz.f3 (OpenSpec.ofChange Rows.meltReasonsSpec) false w args)
      (Rows.meltReasonsSpec.post enc Tryz.prog Tryz.f3 false true false false) := by
  refine lifted_true_and (C := Tryz.checked) (X := fun w _ => laidMetH Tryz.prog Rows.meltReasonsRow.laid w) (tb := 4) (by decide) ownK started (by kernel_rfl) Tryz.func3 laidO (by kernel_rfl) Tryz.underlying4 ?_ rfl ?_ (fun _ _ _ hh h => h.of_heap hh)
    (ChangeSpec.witness_shaped (enc := enc) (C := Tryz.checked) (os := os) (X := fun w _ => laidMetH Tryz.prog Rows.meltReasonsRow.laid w) false (World.laidAll Tryz.prog os Rows.meltReasonsRow.laid) #[.slice none 0 0, .string ⟨#[]⟩, .slice none 0 0, .int .i64 0, .int .i64 0, .int .u8 0] 8 (World.laidAll_os _ _ _) (World.shaped_of_ZipB (by kernel_rfl) (by kernel_rfl)) (by kernel_rfl) (by kernel_rfl) (by kernel_rfl) (reasons_met os _)) ?_
  · rw [Tryz.params3]
    intro t ht
    simp only [List.mem_cons, List.not_mem_nil, or_false] at ht
    rcases ht with rfl | rfl | rfl | rfl | rfl | rfl <;> exact ⟨by kernel_rfl, of_decide_eq_true (by kernel_rfl)⟩
  · intro ds h
    rw [Tryz.params3] at h
    match ds, h with
    | [d0, d1, d2, d3, d4, d5], _ => rfl
  · intro W base args ds ps hval hT hsz hlt hX hh
    rw [Tryz.params3] at hT hval hsz
    obtain ⟨args⟩ := args
    simp only at hT hval
    obtain ⟨v0, vs0, d0, ds0, p0, q0, rfl, rfl, rfl, h0, hT0⟩ := trodAll_cons hT
    obtain ⟨v1, vs1, d1, ds1, p1, q1, rfl, rfl, rfl, h1, hT1⟩ := trodAll_cons hT0
    obtain ⟨v2, vs2, d2, ds2, p2, q2, rfl, rfl, rfl, h2, hT2⟩ := trodAll_cons hT1
    obtain ⟨v3, vs3, d3, ds3, p3, q3, rfl, rfl, rfl, h3, hT3⟩ := trodAll_cons hT2
    obtain ⟨v4, vs4, d4, ds4, p4, q4, rfl, rfl, rfl, h4, hT4⟩ := trodAll_cons hT3
    obtain ⟨v5, vs5, d5, ds5, p5, q5, rfl, rfl, rfl, h5, hT5⟩ := trodAll_cons hT4
    obtain ⟨rfl, rfl, rfl⟩ := trodAll_nil hT5
    obtain ⟨A0, L0, C0, rfl⟩ := okWide_slice (P := Tryz.prog) Tryz.underlying22 (hval 0 22 v0 rfl rfl)
    obtain ⟨b, s0, z0⟩ := In.arg in_bds h0 (fun x hx => hlt x (by simp [hx]))
    have r0 := arg_cell (base := 0) (t := 22) rfl s0
    simp only [av_sl] at r0
    obtain ⟨s, e1, -, -, -⟩ := ChangeMaps.open_string Tryz.underlying9 (hval 1 9 v1 rfl rfl) h1
    subst e1
    obtain ⟨l, r2, z2⟩ := ints_in (P := Tryz.prog) Tryz.underlying23 Tryz.underlying3 Go.Ev.Tryz.cells3' h2 (hval 2 23 v2 rfl rfl) (fun x hx => hlt x (by simp [hx])) (fun e s hd => by
      subst hd
      have := sized_slice hsz (j := 2) rfl rfl Tryz.underlying23
      rwa [show Tryz.checked.prog.bytesOf 3 = 8 from Go.Ev.Tryz.bytes3'] at this)
    obtain ⟨n3, s3, z3⟩ := In.arg (In.int Tryz.underlying3) h3 (fun x hx => hlt x (by simp [hx]))
    have r3 : RV W (c0 (rdO W) []) (.s (.int .i64 n3)) v3 := int_arg (hval 3 3 v3 rfl rfl) s3
    obtain ⟨n4, s4, z4⟩ := In.arg (In.int Tryz.underlying3) h4 (fun x hx => hlt x (by simp [hx]))
    have r4 : RV W (c0 (rdO W) []) (.s (.int .i64 n4)) v4 := int_arg (hval 4 3 v4 rfl rfl) s4
    obtain ⟨x, rfl, rfl, rfl, wx⟩ := open_int Tryz.underlying5 (hval 5 5 v5 rfl rfl) h5
    have hx : 0 ≤ x ∧ x ≤ 255 := by simpa [Lit.wf, IntKind.min, IntKind.max, IntKind.signed, IntKind.bits] using wx
    obtain ⟨c, rfl⟩ : ∃ c : UInt8, x = (c.toNat : Int) := ⟨UInt8.ofNat x.toNat, by
      rw [UInt8.toNat_ofNat']; omega⟩
    exact ⟨[.sl false false .U .no b.length (eBds b), .s (tx s.data.toList), .sl false false .U .no l.length (eInts l), .s (.int .i64 n3), .s (.int .i64 n4), .s (.int .u8 c.toNat)], ⟨_, _, rfl, r0, ⟨_, _, rfl, rfl, ⟨_, _, rfl, r2, ⟨_, _, rfl, r3, ⟨_, _, rfl, r4, ⟨_, _, rfl, rfl, rfl⟩⟩⟩⟩⟩⟩, MeltReasons_ok b s.data.toList l n3 n4 c (by omega)⟩
theorem meltReasons_row : Rows.MeltReasonsSaid :=
  OpenClaim.holds_of_wide 3 Tryz.f3 rfl rfl rfl rfl rfl rfl rfl ⟨rfl, rfl, rfl, rfl, rfl⟩ rfl rfl rfl rfl rfl (by kernel_rfl) Tryz.func3 (by kernel_rfl)
    (of_decide_eq_true (by kernel_rfl)) (by unfold Func.isWrapper; first | (rw [if_pos (by decide +kernel)]; kernel_rfl) | (rw [if_neg (by decide +kernel)]; exact ⟨rfl, rfl⟩))
    (fun os started H enc _ => meltReasons_lifted os started H enc)
theorem meltReasons_card : Rows.MeltReasonsCardSaid :=
  Claim7.holds_tied_plain_at .later [] [.data, .data, .data, .data, .pinned] true (true, "6cd08f7821760015c450434d134d8ef2427bee3c459fe841af993470fe752467") true
    meltReasons_row (fun _ h => by cases h) (by kernel_rfl) (fun _ h => by cases h) meltReasons_row_tie rfl ⟨rfl, rfl⟩ (by kernel_rfl) rfl
    (fun f fn hf hfn => by
      obtain rfl : f = 3 := Option.some.inj ((show Tryz.prog.funcNamed "swarf/swarflaw06.MeltReasons" = some 3 by kernel_rfl).symm.trans hf) |>.symm
      obtain rfl : fn = Tryz.f3 := (Option.some.inj (Tryz.func3.symm.trans hfn)).symm
      exact ⟨by kernel_rfl, fun j t ht => by
        rw [Tryz.params3] at ht
        have hm : t ∈ [22, 9, 23, 3, 3, 5] := by simpa using Array.mem_of_getElem? ht
        have hall : ([22, 9, 23, 3, 3, 5].all fun u => !Tryz.prog.wantsStandIn u) = true := by kernel_rfl
        exact (show Tryz.prog.wantsStandIn t = false by simpa using List.all_eq_true.1 hall t hm)⟩)
    (by kernel_rfl)
end Go.Proofs.YtdcelpomnboeoaaGreatDoor
end
