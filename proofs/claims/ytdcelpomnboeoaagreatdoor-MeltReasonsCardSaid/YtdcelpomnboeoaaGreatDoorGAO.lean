/- Lemmas for the claims of this seat: an evaluator over abstract values, its soundness, and the contracts of the functions of melt that it walks; no premise beyond what each theorem states. -/
import Derived.Shelf.Strings.Builder1
import Derived.Shelf.Strings.BuilderF
import Derived.Shelf.Strings.BuilderK
import Derived.Shelf.Strconv.Itoa1
import Derived.Shelf.Strconv.Itoa2
import Derived.Shelf.Strconv.Itoa3
import Derived.Shelf.Strings.Split
import Derived.Test.YtdcelpomnboeoaaGreatDoorProg
import Derived.WalkKit
import Derived.BigCall
import Derived.ShutString
import Derived.StillTailTactics
import Derived.Test.YtdcelpomnboeoaaGreatDoorGAH
import Derived.Test.YtdcelpomnboeoaaGreatDoorGAK

section
set_option linter.all false
namespace Go.Proofs
open Go.Shelf Go.RowKit Go.Lib
def Tryz.lays169_ren : Go.Shelf.Ren := ⟨fun | 169 => 34 | n => n, fun | 70 => 74 | 9 => 9 | 0 => 0 | 72 => 77 | 37 => 75 | 127 => 103 | 3 => 3 | 5 => 5 | n => n, fun | n => n⟩
theorem Tryz.lays169 : Go.Proofs.Lays.n169 Tryz.prog Tryz.lays169_ren := {
  mixed := by kernel_rfl
  f169 := Tryz.func34.trans (congrArg some (by kernel_rfl))
  t0 := Tryz.underlying0
  a0 := Tryz.isAgg0
  z0 := Tryz.sizeOf0
  v0 := Tryz.zeroValue0
  t3 := Tryz.underlying3
  a3 := Tryz.isAgg3
  z3 := Tryz.sizeOf3
  v3 := Tryz.zeroValue3
  t9 := Tryz.underlying9
  a9 := Tryz.isAgg9
  z9 := Tryz.sizeOf9
  v9 := Tryz.zeroValue9
  t37 := Tryz.underlying75
  a37 := Tryz.isAgg75
  z37 := Tryz.sizeOf75
  v37 := Tryz.zeroValue75
  t70 := Tryz.underlying74
  a70 := Tryz.isAgg74
  z70 := Tryz.sizeOf74
  v70 := Tryz.zeroValue74
  t72 := Tryz.underlying77
  a72 := Tryz.isAgg77
  z72 := Tryz.sizeOf77
  v72 := Tryz.zeroValue77
  t127 := Tryz.underlying103
  a127 := Tryz.isAgg103
  z127 := Tryz.sizeOf103
  v127 := Tryz.zeroValue103 }
theorem Tryz.Builder_Extra_169 : Builder.Extra Tryz.prog Tryz.lays169_ren := {
  sizeBuilder := by kernel_rfl
  liesBuilder := by kernel_rfl
  t5 := Tryz.underlying5
  a5 := Tryz.isAgg5
  z5 := Tryz.sizeOf5
  v5 := Tryz.zeroValue5
  infoByte := by kernel_rfl
  cellsByte := by kernel_rfl
  sizeByte := by kernel_rfl
  neB5 := by decide }
theorem Tryz.Builder_String_any_k (B b : Nat) (l : List UInt8) (w : World) (h : Lib.IsBuilderF 77 5 B b (Lib.byteCells l) w) (hBw : B ≤ w.heap.size) :
    Calls Tryz.prog 34 #[.pointer (some ⟨b, 0, none⟩)] w fun e w' => e = .returned (.string ⟨l.toArray⟩) ∧ (Lib.IsBuilderF 77 5 B b (Lib.byteCells l) w' ∧ Below B w w' ∧ Lib.OthersKept 5 (some b) w w') := Any.Builder_String_any_k Tryz.lays169 Tryz.Builder_Extra_169 B b l w h hBw
def Tryz.lays171_ren : Go.Shelf.Ren := ⟨fun | 171 => 33 | 243 => 56 | 246 => 76 | 283 => 86 | 284 => 87 | 285 => 88 | 286 => 89 | 129 => 98 | 317 => 97 | 318 => 99 | 319 => 100 | 320 => 101 | 337 => 107 | 338 => 108 | n => n, fun | 3 => 3 | 9 => 9 | 2 => 2 | 4 => 4 | 171 => 136 | 0 => 0 | 53 => 55 | 37 => 75 | 5 => 5 | 173 => 139 | 212 => 148 | 51 => 149 | 20 => 20 | 213 => 150 | 46 => 73 | 232 => 159 | 233 => 160 | n => n, fun | 17 => 0 | 18 => 4 | 19 => 5 | n => n⟩
theorem Tryz.lays171 : Go.Proofs.Lays.n171 Tryz.prog Tryz.lays171_ren := {
  mixed := by kernel_rfl
  f129 := Tryz.func98.trans (congrArg some (by kernel_rfl))
  f171 := Tryz.func33.trans (congrArg some (by kernel_rfl))
  f243 := Tryz.func56.trans (congrArg some (by kernel_rfl))
  f246 := Tryz.func76.trans (congrArg some (by kernel_rfl))
  f283 := Tryz.func86.trans (congrArg some (by kernel_rfl))
  f284 := Tryz.func87.trans (congrArg some (by kernel_rfl))
  f285 := Tryz.func88.trans (congrArg some (by kernel_rfl))
  f286 := Tryz.func89.trans (congrArg some (by kernel_rfl))
  f317 := Tryz.func97.trans (congrArg some (by kernel_rfl))
  f318 := Tryz.func99.trans (congrArg some (by kernel_rfl))
  f319 := Tryz.func100.trans (congrArg some (by kernel_rfl))
  f320 := Tryz.func101.trans (congrArg some (by kernel_rfl))
  f337 := Tryz.func107.trans (congrArg some (by kernel_rfl))
  f338 := Tryz.func108.trans (congrArg some (by kernel_rfl))
  t0 := Tryz.underlying0
  a0 := Tryz.isAgg0
  z0 := Tryz.sizeOf0
  v0 := Tryz.zeroValue0
  t2 := Tryz.underlying2
  a2 := Tryz.isAgg2
  z2 := Tryz.sizeOf2
  v2 := Tryz.zeroValue2
  t3 := Tryz.underlying3
  a3 := Tryz.isAgg3
  z3 := Tryz.sizeOf3
  v3 := Tryz.zeroValue3
  t4 := Tryz.underlying4
  a4 := Tryz.isAgg4
  z4 := Tryz.sizeOf4
  v4 := Tryz.zeroValue4
  t5 := Tryz.underlying5
  a5 := Tryz.isAgg5
  z5 := Tryz.sizeOf5
  v5 := Tryz.zeroValue5
  t9 := Tryz.underlying9
  a9 := Tryz.isAgg9
  z9 := Tryz.sizeOf9
  v9 := Tryz.zeroValue9
  t20 := Tryz.underlying20
  a20 := Tryz.isAgg20
  z20 := Tryz.sizeOf20
  v20 := Tryz.zeroValue20
  t37 := Tryz.underlying75
  a37 := Tryz.isAgg75
  z37 := Tryz.sizeOf75
  v37 := Tryz.zeroValue75
  t46 := Tryz.underlying73
  a46 := Tryz.isAgg73
  z46 := Tryz.sizeOf73
  v46 := Tryz.zeroValue73
  t51 := Tryz.underlying149
  a51 := Tryz.isAgg149
  z51 := Tryz.sizeOf149
  v51 := Tryz.zeroValue149
  t53 := Tryz.underlying55
  a53 := Tryz.isAgg55
  z53 := Tryz.sizeOf55
  v53 := Tryz.zeroValue55
  t171 := Tryz.underlying136
  a171 := Tryz.isAgg136
  z171 := Tryz.sizeOf136
  v171 := Tryz.zeroValue136
  t173 := Tryz.underlying139
  a173 := Tryz.isAgg139
  z173 := Tryz.sizeOf139
  v173 := Tryz.zeroValue139
  t212 := Tryz.underlying148
  a212 := Tryz.isAgg148
  z212 := Tryz.sizeOf148
  v212 := Tryz.zeroValue148
  t213 := Tryz.underlying150
  a213 := Tryz.isAgg150
  z213 := Tryz.sizeOf150
  t232 := Tryz.underlying159
  a232 := Tryz.isAgg159
  z232 := Tryz.sizeOf159
  v232 := Tryz.zeroValue159
  t233 := Tryz.underlying160
  a233 := Tryz.isAgg160
  z233 := Tryz.sizeOf160
  v233 := Tryz.zeroValue160
  g17 := by kernel_rfl
  g18 := by kernel_rfl
  g19 := by kernel_rfl }
theorem Tryz.strconv_Itoa_small (i : Nat) (hi : i < 100) (w : World) :
    Calls Tryz.prog 33 #[.int .i64 i] w fun e w' => e = .returned (.string ⟨(Lib.decDigits i).toArray⟩) ∧ w' = w := Any.strconv_Itoa_small Tryz.lays171 i hi w
def Tryz.lays146_ren : Go.Shelf.Ren := ⟨fun | 146 => 38 | 221 => 57 | 268 => 77 | 138 => 78 | 143 => 79 | 195 => 90 | 197 => 91 | 218 => 92 | 219 => 93 | 260 => 102 | 217 => 103 | 225 => 104 | 224 => 105 | 267 => 106 | 266 => 109 | 314 => 110 | n => n, fun | 9 => 9 | 31 => 36 | 3 => 3 | 4 => 4 | 0 => 0 | 105 => 142 | 21 => 21 | 5 => 5 | 46 => 73 | 119 => 153 | 139 => 156 | 138 => 155 | 146 => 157 | 51 => 149 | n => n, fun | 1 => 1 | 3 => 2 | 4 => 3 | n => n⟩
theorem Tryz.lays146 : Go.Proofs.Lays.n146 Tryz.prog Tryz.lays146_ren := {
  mixed := by kernel_rfl
  f138 := Tryz.func78.trans (congrArg some (by kernel_rfl))
  f143 := Tryz.func79.trans (congrArg some (by kernel_rfl))
  f146 := Tryz.func38.trans (congrArg some (by kernel_rfl))
  f195 := Tryz.func90.trans (congrArg some (by kernel_rfl))
  f197 := Tryz.func91.trans (congrArg some (by kernel_rfl))
  f217 := Tryz.func103.trans (congrArg some (by kernel_rfl))
  f218 := Tryz.func92.trans (congrArg some (by kernel_rfl))
  f219 := Tryz.func93.trans (congrArg some (by kernel_rfl))
  f221 := Tryz.func57.trans (congrArg some (by kernel_rfl))
  f224 := Tryz.func105.trans (congrArg some (by kernel_rfl))
  f225 := Tryz.func104.trans (congrArg some (by kernel_rfl))
  f260 := Tryz.func102.trans (congrArg some (by kernel_rfl))
  f266 := Tryz.func109.trans (congrArg some (by kernel_rfl))
  f267 := Tryz.func106.trans (congrArg some (by kernel_rfl))
  f268 := Tryz.func77.trans (congrArg some (by kernel_rfl))
  f314 := Tryz.func110.trans (congrArg some (by kernel_rfl))
  t0 := Tryz.underlying0
  a0 := Tryz.isAgg0
  z0 := Tryz.sizeOf0
  v0 := Tryz.zeroValue0
  t3 := Tryz.underlying3
  a3 := Tryz.isAgg3
  z3 := Tryz.sizeOf3
  v3 := Tryz.zeroValue3
  t4 := Tryz.underlying4
  a4 := Tryz.isAgg4
  z4 := Tryz.sizeOf4
  v4 := Tryz.zeroValue4
  t5 := Tryz.underlying5
  a5 := Tryz.isAgg5
  z5 := Tryz.sizeOf5
  v5 := Tryz.zeroValue5
  t9 := Tryz.underlying9
  a9 := Tryz.isAgg9
  z9 := Tryz.sizeOf9
  v9 := Tryz.zeroValue9
  t21 := Tryz.underlying21
  a21 := Tryz.isAgg21
  z21 := Tryz.sizeOf21
  v21 := Tryz.zeroValue21
  t31 := Tryz.underlying36
  a31 := Tryz.isAgg36
  z31 := Tryz.sizeOf36
  v31 := Tryz.zeroValue36
  t46 := Tryz.underlying73
  a46 := Tryz.isAgg73
  z46 := Tryz.sizeOf73
  v46 := Tryz.zeroValue73
  t51 := Tryz.underlying149
  a51 := Tryz.isAgg149
  z51 := Tryz.sizeOf149
  v51 := Tryz.zeroValue149
  t105 := Tryz.underlying142
  a105 := Tryz.isAgg142
  z105 := Tryz.sizeOf142
  v105 := Tryz.zeroValue142
  t119 := Tryz.underlying153
  a119 := Tryz.isAgg153
  z119 := Tryz.sizeOf153
  t138 := Tryz.underlying155
  a138 := Tryz.isAgg155
  z138 := Tryz.sizeOf155
  v138 := Tryz.zeroValue155
  t139 := Tryz.underlying156
  a139 := Tryz.isAgg156
  z139 := Tryz.sizeOf156
  v139 := Tryz.zeroValue156
  t146 := Tryz.underlying157
  a146 := Tryz.isAgg157
  z146 := Tryz.sizeOf157
  v146 := Tryz.zeroValue157
  g1 := by kernel_rfl
  g3 := by kernel_rfl
  g4 := by kernel_rfl }
theorem Tryz.strings_Split (s sep : ByteArray) (m : Int) (w : World) (hs : s.size < 4294967281) (hm : w.cell? ⟨1, 0, none⟩ = some (.int .i64 m)) (h1 : 1 ≤ sep.size) :
    Calls Tryz.prog 38 #[.string s, .string sep] w fun e w' =>
      e = .returned (.slice (some ⟨w.heap.size, 0, none⟩) (Lib.countB s sep + 1) (Lib.countB s sep + 1)) ∧ w' = w.alloc (.cells ((Lib.splitB sep 0 (Lib.countB s sep) s).map Value.string).toArray 9) := Any.strings_Split Tryz.lays146 (by kernel_rfl) s sep m w hs hm h1
end Go.Proofs
end

section
set_option linter.all false
set_option linter.unusedVariables false
set_option linter.unusedSimpArgs false
namespace Go.Proofs
open Go.Shelf Go.RowKit Go.Lib

/-! ### The builder's writers at this program -/
set_option maxHeartbeats 1000000 in
set_option maxRecDepth 100000 in
theorem Tryz.bCheck_used (b : Nat) (w : World) (h0 : w.cell? ⟨b, 0, none⟩ = some (.pointer (some ⟨b, 0, none⟩))) :
    Calls Tryz.prog 55 #[.pointer (some ⟨b, 0, none⟩)] w fun e w' => e = .returned (.tuple #[]) ∧ w' = w := by
  obtain ⟨j, hj, _⟩ := Option.map_eq_some_iff.1 Tryz.Builder_Extra_169.sizeBuilder
  go_enter Tryz.func55, Tryz.ntmps55
  go_wp2
  rw [Lib.run_neq_ptr_same w _ Tryz.underlying74 hj]
  go_wp2
  go_end0
  exact ⟨rfl, rfl⟩
set_option maxHeartbeats 1000000 in
set_option maxRecDepth 100000 in
theorem Tryz.bCheck_fresh (b : Nat) (w : World) (h0 : w.cell? ⟨b, 0, none⟩ = some (.pointer none)) (hsh : w.shape? b = some (77, 2)) (hfz : w.frozen? ⟨b, 0, none⟩ = false) :
    Calls Tryz.prog 55 #[.pointer (some ⟨b, 0, none⟩)] w fun e w' => e = .returned (.tuple #[]) ∧ w' = w.setCell ⟨b, 0, none⟩ (.pointer (some ⟨b, 0, none⟩)) := by
  obtain ⟨j, hj, hjs⟩ := Option.map_eq_some_iff.1 Tryz.Builder_Extra_169.sizeBuilder
  go_enter Tryz.func55, Tryz.ntmps55
  go_wp2
  rw [Lib.run_to_unsafe w ⟨b, 0, none⟩ Tryz.underlying74 Tryz.underlying125 hj (by rw [hjs]; decide) hsh (Nat.zero_lt_succ 1)]
  simp only [Result.andThen]
  rw [Oper.upon_value]
  go_wp2
  rw [run_callFunc_extern Tryz.func75 (by kernel_rfl) (by kernel_rfl) (by kernel_rfl) (e := Extern.AbiNoEscape.same) (by kernel_rfl)]
  rw [Lib.run_noEscape]
  simp only [Result.andThen]
  rw [Oper.upon_value]
  go_wp2
  rw [Lib.run_from_unsafe w ⟨b, 0, none⟩ Tryz.underlying125 Tryz.underlying74 hj hsh Tryz.Builder_Extra_169.liesBuilder]
  simp only [Result.andThen]
  rw [Oper.upon_value]
  go_wp2
  go_end0
  exact ⟨rfl, rfl⟩
theorem Tryz.bCheck_k (B b : Nat) (bs : List Value) (w : World) (h : Lib.IsBuilderF 77 5 B b bs w) :
    Calls Tryz.prog 55 #[.pointer (some ⟨b, 0, none⟩)] w fun e w' => e = .returned (.tuple #[]) ∧ (Lib.BuilderAtF 77 5 B b (.pointer (some ⟨b, 0, none⟩)) bs w' ∧ Below B w w' ∧ Lib.OthersKept 5 (some b) w w') := by
  rcases h with h | h
  · refine (Tryz.bCheck_fresh b w h.cell0 h.shape h.frozen0).mono ?_
    rintro e w' ⟨rfl, rfl⟩
    exact ⟨rfl, h.used _, (Below.refl B w).setCell (p := ⟨b, 0, none⟩) h.1 _, (Lib.OthersKept.refl _ _ w).setCell ⟨b, 0, none⟩ rfl _⟩
  · refine (Tryz.bCheck_used b w h.cell0).mono ?_
    rintro e w' ⟨rfl, rfl⟩
    exact ⟨rfl, h, Below.refl B _, Lib.OthersKept.refl _ _ _⟩
set_option maxHeartbeats 2000000 in
set_option maxRecDepth 100000 in
theorem Tryz.bWrite_k (B b : Nat) (bs : List Value) (s : ByteArray) (w : World) (h : Lib.IsBuilderF 77 5 B b bs w) (hlen : bs.length + s.size ≤ 140737488355328) (hBw : B ≤ w.heap.size) :
    Calls Tryz.prog 32 #[.pointer (some ⟨b, 0, none⟩), .string s] w fun e w' => e = .returned (.tuple #[.int .i64 s.size, .nilIface]) ∧ (Lib.BuilderAtF 77 5 B b (.pointer (some ⟨b, 0, none⟩)) (bs ++ Lib.strCells s) w' ∧ Below B w w' ∧ Lib.OthersKept 5 (some b) w w') := by
  obtain ⟨i0, hi, hz0, hz1, hz2⟩ := info_parts Tryz.Builder_Extra_169.infoByte
  go_enter Tryz.func32, Tryz.ntmps32
  go_wp2_with (go_at_call 55; refine (Tryz.bCheck_k B b bs _ h).mono ?_)
  rintro e w1 ⟨rfl, h1, hb1, hk1⟩
  obtain ⟨hB, v, hbk, hown, hne⟩ := h1
  have c0 : w1.cell? ⟨b, 0, none⟩ = some (.pointer (some ⟨b, 0, none⟩)) := by rw [Lib.cell_of_heap hbk]; rfl
  have c1 : w1.cell? ⟨b, 1, none⟩ = some v := by rw [Lib.cell_of_heap hbk]; rfl
  go_wp2_with (at_builtin; refine Lib.wpList_append_own_stringF _ rfl _ _ 75 9 rfl B 5 i0 Tryz.underlying75 Tryz.underlying9 hi hz0 hz1 hz2 _ _ _ rfl hown s rfl ?c3 ?c4 ?c5 ?_)
  case c3 => unfold maxLen; omega
  case c4 => omega
  case c5 => have := hb1.size; omega
  intro v' w2 hown' hgrow _
  have hlt : b < w1.heap.size := by
    rcases Nat.lt_or_ge b w1.heap.size with h' | h'
    · exact h'
    · simp [Array.getElem?_eq_none h'] at hbk
  have hb2 : w2.heap[b]? = some (.cells #[.pointer (some ⟨b, 0, none⟩), v] 77 (0, 0)) := by
    rw [hgrow.block b hlt (fun e => hne e.symm)]
    exact hbk
  have d0 : w2.cell? ⟨b, 0, none⟩ = some (.pointer (some ⟨b, 0, none⟩)) := by rw [Lib.cell_of_heap hb2]; rfl
  have d1 : w2.cell? ⟨b, 1, none⟩ = some v := by rw [Lib.cell_of_heap hb2]; rfl
  have f1 : w2.frozen? ⟨b, 1, none⟩ = false := Lib.frozen_of_heap hb2 1
  obtain ⟨ao, n', cap, rfl⟩ : ∃ ao n' cap, v' = .slice ao n' cap := by
    rcases hown'.2 with ⟨hv, _⟩ | ⟨g, cap, cur, fz, hv, _⟩
    · exact ⟨_, _, _, hv⟩
    · exact ⟨_, _, _, hv⟩
  go_wp2
  go_ret2
  refine ⟨rfl, ?_, ?_, (hk1.grown hgrow (Lib.ownsRowF_kind hown)).setCell ⟨b, 1, none⟩ rfl _⟩
  · exact Lib.BuilderAtF.put (T := 77) (e := 5) hB hb2 (bs' := bs ++ Lib.strCells s) (by simpa [Lib.strCells_length] using hown') Tryz.Builder_Extra_169.neB5
  · exact (hb1.grown hgrow (by have := hb1.size; omega) (fun k hk => (hown.lt k hk).1)).setCell (p := ⟨b, 1, none⟩) hB _
end Go.Proofs
end

section
set_option linter.all false
open Go Go.Ev Go.Proofs
namespace Go.Ev
set_option linter.unusedSimpArgs false
set_option linter.unusedVariables false


/-- The error of a bound that is written. -/
def bndErr (b : MBd) : Int :=
  if b.r = 1 then (if (inB b.a 0 3 && inB b.c 0 6) = true then 0 else 1)
  else if b.r = 4 then (if (inB b.a 0 2 && inB b.c 0 0) = true then 0 else 1)
  else if b.r = 2 ∨ b.r = 3 ∨ b.r = 5 then (if (inB b.a 0 0 && inB b.c 0 0) = true then 0 else 1)
  else 8

set_option maxHeartbeats 4000000 in
theorem checkBound_ok (b : MBd) : ACalls Tryz.prog 31 [.agg [.s (.int .i64 b.r), .s (.int .i64 b.a), .s (.int .i64 b.c)]] [] (.ret (.s (.int .i64 (bndErr b))) [] []) := by
  refine acalls_of_ew Tryz.func31 rfl rfl (by simp [Tryz.f31]) (rs := [.tmp 2]) rfl ?_
  refine EW.seq fun Ψ0 n0 x0 => ?_
  refine EW.region gs_nil ?_
  simp
  refine n0 _ ?_; clear n0 x0
  refine EW.seq fun Ψ1 n1 x1 => ?_
  refine EW.region gs_nil ?_
  simp
  refine n1 _ ?_; clear n1 x1
  refine EW.seq fun Ψ2 n2 x2 => ?_
  refine EW.seq fun Ψ3 n3 x3 => ?_
  refine EW.region gs_nil ?_
  simp
  refine n3 _ ?_; clear n3 x3
  refine EW.block ?_
  refine EW.seq fun Ψ4 n4 x4 => ?_
  refine EW.block ?_
  refine EW.seq fun Ψ5 n5 x5 => ?_
  refine EW.block ?_
  refine EW.seq fun Ψ6 n6 x6 => ?_
  refine EW.block ?_
  refine EW.seq fun Ψ7 n7 x7 => ?_
  refine EW.block ?_
  refine EW.seq fun Ψ8 n8 x8 => ?_
  refine EW.seq fun Ψ9 n9 x9 => ?_
  refine EW.seq fun Ψ10 n10 x10 => ?_
  refine EW.region gs_nil ?_
  simp
  refine n10 _ ?_; clear n10 x10
  refine EW.cond (t := _) (by rfl) (fun hc7 => ?_) (fun hc7 => ?_)
  · have h1 : b.r = 1 := by simpa using hc7
    refine EW.exit ?_
    refine x9 _ _ rfl ?_; clear n9 x9
    refine x8 _ _ rfl ?_; clear n8 x8
    refine n7 _ ?_; clear n7 x7
    refine EW.seq fun Ψ11 n11 x11 => ?_
    refine EW.region gs_nil ?_
    simp
    refine n11 _ ?_; clear n11 x11
    refine EW.exit ?_
    refine x6 _ _ rfl ?_; clear n6 x6
    refine x5 _ _ rfl ?_; clear n5 x5
    refine x4 _ _ rfl ?_; clear n4 x4
    refine n2 _ ?_; clear n2 x2
    refine EW.seq fun Ψ12 n12 x12 => ?_
    refine EW.seq fun Ψ13 n13 x13 => ?_
    rcases bor2 (inB b.a 0 3) (inB b.c 0 6) with q1 | ⟨q1, q2⟩ | ⟨q1, q2⟩
    · skip
      refine EW.region (gI_ok gs_nil) ?_
      simp [q1]
      have hv : bndErr b = 1 := by simp [bndErr, h1, q1]
      refine n13 _ ?_; clear n13 x13
      refine EW.cond (t := _) (by rfl) (fun hc26 => ?_) (fun hc26 => ?_)
      · clear hc26
        refine EW.seq fun Ψ14 n14 x14 => ?_
        refine EW.region gs_nil ?_
        simp
        refine n14 _ ?_; clear n14 x14
        refine EW.ret ?_
        refine x12 _ _ rfl ?_; clear n12 x12
        refine ⟨_, _, _, rfl, ?_, ?_, ?_, ?_, ?_⟩ <;> simp [hv]
      · simp at hc26
    · skip
      refine EW.region (gI_ok gs_nil) ?_
      simp [q1, q2]
      have hv : bndErr b = 1 := by simp [bndErr, h1, q1, q2]
      refine n13 _ ?_; clear n13 x13
      refine EW.cond (t := _) (by rfl) (fun hc26 => ?_) (fun hc26 => ?_)
      · clear hc26
        refine EW.seq fun Ψ15 n15 x15 => ?_
        refine EW.region gs_nil ?_
        simp
        refine n15 _ ?_; clear n15 x15
        refine EW.ret ?_
        refine x12 _ _ rfl ?_; clear n12 x12
        refine ⟨_, _, _, rfl, ?_, ?_, ?_, ?_, ?_⟩ <;> simp [hv]
      · simp at hc26
    · skip
      refine EW.region (gI_ok gs_nil) ?_
      simp [q1, q2]
      have hv : bndErr b = 0 := by simp [bndErr, h1, q1, q2]
      refine n13 _ ?_; clear n13 x13
      refine EW.cond (t := _) (by rfl) (fun hc26 => ?_) (fun hc26 => ?_)
      · simp at hc26
      · clear hc26
        refine EW.skip ?_
        refine n12 _ ?_; clear n12 x12
        refine EW.seq fun Ψ16 n16 x16 => ?_
        refine EW.region gs_nil ?_
        simp
        refine n16 _ ?_; clear n16 x16
        refine EW.ret ?_
        refine ⟨_, _, _, rfl, ?_, ?_, ?_, ?_, ?_⟩ <;> simp [hv]
  · have h1 : ¬ b.r = 1 := by simpa using hc7
    refine EW.skip ?_
    refine n9 _ ?_; clear n9 x9
    refine EW.seq fun Ψ17 n17 x17 => ?_
    refine EW.seq fun Ψ18 n18 x18 => ?_
    refine EW.region gs_nil ?_
    simp
    refine n18 _ ?_; clear n18 x18
    refine EW.cond (t := _) (by rfl) (fun hc9 => ?_) (fun hc9 => ?_)
    · have h4 : b.r = 4 := by simpa using hc9
      refine EW.exit ?_
      refine x17 _ _ rfl ?_; clear n17 x17
      refine x8 _ _ rfl ?_; clear n8 x8
      refine x7 _ _ rfl ?_; clear n7 x7
      refine n6 _ ?_; clear n6 x6
      refine EW.hide fun Ψ19 n19 => ?_
      refine EW.region gs_nil ?_
      simp
      refine n19 _ _ ?_; clear n19
      refine n5 _ ?_; clear n5 x5
      refine EW.seq fun Ψ20 n20 x20 => ?_
      refine EW.region gs_nil ?_
      simp
      refine n20 _ ?_; clear n20 x20
      refine EW.exit ?_
      refine x4 _ _ rfl ?_; clear n4 x4
      refine n2 _ ?_; clear n2 x2
      refine EW.seq fun Ψ21 n21 x21 => ?_
      refine EW.seq fun Ψ22 n22 x22 => ?_
      rcases bor2 (inB b.a 0 2) (inB b.c 0 0) with q1 | ⟨q1, q2⟩ | ⟨q1, q2⟩
      · skip
        refine EW.region (gI_ok gs_nil) ?_
        simp [q1]
        have hv : bndErr b = 1 := by simp [bndErr, h1, h4, q1]
        refine n22 _ ?_; clear n22 x22
        refine EW.cond (t := _) (by rfl) (fun hc26 => ?_) (fun hc26 => ?_)
        · clear hc26
          refine EW.seq fun Ψ23 n23 x23 => ?_
          refine EW.region gs_nil ?_
          simp
          refine n23 _ ?_; clear n23 x23
          refine EW.ret ?_
          refine x21 _ _ rfl ?_; clear n21 x21
          refine ⟨_, _, _, rfl, ?_, ?_, ?_, ?_, ?_⟩ <;> simp [hv]
        · simp at hc26
      · skip
        refine EW.region (gI_ok gs_nil) ?_
        simp [q1, q2]
        have hv : bndErr b = 1 := by simp [bndErr, h1, h4, q1, q2]
        refine n22 _ ?_; clear n22 x22
        refine EW.cond (t := _) (by rfl) (fun hc26 => ?_) (fun hc26 => ?_)
        · clear hc26
          refine EW.seq fun Ψ24 n24 x24 => ?_
          refine EW.region gs_nil ?_
          simp
          refine n24 _ ?_; clear n24 x24
          refine EW.ret ?_
          refine x21 _ _ rfl ?_; clear n21 x21
          refine ⟨_, _, _, rfl, ?_, ?_, ?_, ?_, ?_⟩ <;> simp [hv]
        · simp at hc26
      · skip
        refine EW.region (gI_ok gs_nil) ?_
        simp [q1, q2]
        have hv : bndErr b = 0 := by simp [bndErr, h1, h4, q1, q2]
        refine n22 _ ?_; clear n22 x22
        refine EW.cond (t := _) (by rfl) (fun hc26 => ?_) (fun hc26 => ?_)
        · simp at hc26
        · clear hc26
          refine EW.skip ?_
          refine n21 _ ?_; clear n21 x21
          refine EW.seq fun Ψ25 n25 x25 => ?_
          refine EW.region gs_nil ?_
          simp
          refine n25 _ ?_; clear n25 x25
          refine EW.ret ?_
          refine ⟨_, _, _, rfl, ?_, ?_, ?_, ?_, ?_⟩ <;> simp [hv]
    · have h4 : ¬ b.r = 4 := by simpa using hc9
      refine EW.skip ?_
      refine n17 _ ?_; clear n17 x17
      refine EW.seq fun Ψ26 n26 x26 => ?_
      refine EW.seq fun Ψ27 n27 x27 => ?_
      refine EW.region gs_nil ?_
      simp
      refine n27 _ ?_; clear n27 x27
      refine EW.cond (t := _) (by rfl) (fun hc11 => ?_) (fun hc11 => ?_)
      · have h2 : b.r = 2 := by simpa using hc11
        refine EW.skip ?_
        refine n26 _ ?_; clear n26 x26
        refine EW.cond (t := _) (by rfl) (fun hc11 => ?_) (fun hc11 => ?_)
        · clear hc11
          refine EW.exit ?_
          refine x8 _ _ rfl ?_; clear n8 x8
          refine x7 _ _ rfl ?_; clear n7 x7
          refine x6 _ _ rfl ?_; clear n6 x6
          refine n5 _ ?_; clear n5 x5
          refine EW.seq fun Ψ28 n28 x28 => ?_
          refine EW.region gs_nil ?_
          simp
          refine n28 _ ?_; clear n28 x28
          refine EW.exit ?_
          refine x4 _ _ rfl ?_; clear n4 x4
          refine n2 _ ?_; clear n2 x2
          refine EW.seq fun Ψ29 n29 x29 => ?_
          refine EW.seq fun Ψ30 n30 x30 => ?_
          rcases bor2 (inB b.a 0 0) (inB b.c 0 0) with q1 | ⟨q1, q2⟩ | ⟨q1, q2⟩
          · skip
            refine EW.region (gI_ok gs_nil) ?_
            simp [q1]
            have hv : bndErr b = 1 := by simp [bndErr, h1, h4, h2, q1]
            refine n30 _ ?_; clear n30 x30
            refine EW.cond (t := _) (by rfl) (fun hc26 => ?_) (fun hc26 => ?_)
            · clear hc26
              refine EW.seq fun Ψ31 n31 x31 => ?_
              refine EW.region gs_nil ?_
              simp
              refine n31 _ ?_; clear n31 x31
              refine EW.ret ?_
              refine x29 _ _ rfl ?_; clear n29 x29
              refine ⟨_, _, _, rfl, ?_, ?_, ?_, ?_, ?_⟩ <;> simp [hv]
            · simp at hc26
          · skip
            refine EW.region (gI_ok gs_nil) ?_
            simp [q1, q2]
            have hv : bndErr b = 1 := by simp [bndErr, h1, h4, h2, q1, q2]
            refine n30 _ ?_; clear n30 x30
            refine EW.cond (t := _) (by rfl) (fun hc26 => ?_) (fun hc26 => ?_)
            · clear hc26
              refine EW.seq fun Ψ32 n32 x32 => ?_
              refine EW.region gs_nil ?_
              simp
              refine n32 _ ?_; clear n32 x32
              refine EW.ret ?_
              refine x29 _ _ rfl ?_; clear n29 x29
              refine ⟨_, _, _, rfl, ?_, ?_, ?_, ?_, ?_⟩ <;> simp [hv]
            · simp at hc26
          · skip
            refine EW.region (gI_ok gs_nil) ?_
            simp [q1, q2]
            have hv : bndErr b = 0 := by simp [bndErr, h1, h4, h2, q1, q2]
            refine n30 _ ?_; clear n30 x30
            refine EW.cond (t := _) (by rfl) (fun hc26 => ?_) (fun hc26 => ?_)
            · simp at hc26
            · clear hc26
              refine EW.skip ?_
              refine n29 _ ?_; clear n29 x29
              refine EW.seq fun Ψ33 n33 x33 => ?_
              refine EW.region gs_nil ?_
              simp
              refine n33 _ ?_; clear n33 x33
              refine EW.ret ?_
              refine ⟨_, _, _, rfl, ?_, ?_, ?_, ?_, ?_⟩ <;> simp [hv]
        · simp [h2] at hc11
      · have h2 : ¬ b.r = 2 := by simpa using hc11
        refine EW.seq fun Ψ34 n34 x34 => ?_
        refine EW.region gs_nil ?_
        simp
        refine n34 _ ?_; clear n34 x34
        refine EW.cond (t := _) (by rfl) (fun hc11 => ?_) (fun hc11 => ?_)
        · have h3 : b.r = 3 := by simpa using hc11
          refine EW.skip ?_
          refine n26 _ ?_; clear n26 x26
          refine EW.cond (t := _) (by rfl) (fun hc11 => ?_) (fun hc11 => ?_)
          · clear hc11
            refine EW.exit ?_
            refine x8 _ _ rfl ?_; clear n8 x8
            refine x7 _ _ rfl ?_; clear n7 x7
            refine x6 _ _ rfl ?_; clear n6 x6
            refine n5 _ ?_; clear n5 x5
            refine EW.seq fun Ψ35 n35 x35 => ?_
            refine EW.region gs_nil ?_
            simp
            refine n35 _ ?_; clear n35 x35
            refine EW.exit ?_
            refine x4 _ _ rfl ?_; clear n4 x4
            refine n2 _ ?_; clear n2 x2
            refine EW.seq fun Ψ36 n36 x36 => ?_
            refine EW.seq fun Ψ37 n37 x37 => ?_
            rcases bor2 (inB b.a 0 0) (inB b.c 0 0) with q1 | ⟨q1, q2⟩ | ⟨q1, q2⟩
            · skip
              refine EW.region (gI_ok gs_nil) ?_
              simp [q1]
              have hv : bndErr b = 1 := by simp [bndErr, h1, h4, h2, h3, q1]
              refine n37 _ ?_; clear n37 x37
              refine EW.cond (t := _) (by rfl) (fun hc26 => ?_) (fun hc26 => ?_)
              · clear hc26
                refine EW.seq fun Ψ38 n38 x38 => ?_
                refine EW.region gs_nil ?_
                simp
                refine n38 _ ?_; clear n38 x38
                refine EW.ret ?_
                refine x36 _ _ rfl ?_; clear n36 x36
                refine ⟨_, _, _, rfl, ?_, ?_, ?_, ?_, ?_⟩ <;> simp [hv]
              · simp at hc26
            · skip
              refine EW.region (gI_ok gs_nil) ?_
              simp [q1, q2]
              have hv : bndErr b = 1 := by simp [bndErr, h1, h4, h2, h3, q1, q2]
              refine n37 _ ?_; clear n37 x37
              refine EW.cond (t := _) (by rfl) (fun hc26 => ?_) (fun hc26 => ?_)
              · clear hc26
                refine EW.seq fun Ψ39 n39 x39 => ?_
                refine EW.region gs_nil ?_
                simp
                refine n39 _ ?_; clear n39 x39
                refine EW.ret ?_
                refine x36 _ _ rfl ?_; clear n36 x36
                refine ⟨_, _, _, rfl, ?_, ?_, ?_, ?_, ?_⟩ <;> simp [hv]
              · simp at hc26
            · skip
              refine EW.region (gI_ok gs_nil) ?_
              simp [q1, q2]
              have hv : bndErr b = 0 := by simp [bndErr, h1, h4, h2, h3, q1, q2]
              refine n37 _ ?_; clear n37 x37
              refine EW.cond (t := _) (by rfl) (fun hc26 => ?_) (fun hc26 => ?_)
              · simp at hc26
              · clear hc26
                refine EW.skip ?_
                refine n36 _ ?_; clear n36 x36
                refine EW.seq fun Ψ40 n40 x40 => ?_
                refine EW.region gs_nil ?_
                simp
                refine n40 _ ?_; clear n40 x40
                refine EW.ret ?_
                refine ⟨_, _, _, rfl, ?_, ?_, ?_, ?_, ?_⟩ <;> simp [hv]
          · simp [h3] at hc11
        · have h3 : ¬ b.r = 3 := by simpa using hc11
          refine EW.region gs_nil ?_
          simp
          refine n26 _ ?_; clear n26 x26
          refine EW.cond (t := _) (by rfl) (fun hc11 => ?_) (fun hc11 => ?_)
          · have h5 : b.r = 5 := by simpa using hc11
            refine EW.exit ?_
            refine x8 _ _ rfl ?_; clear n8 x8
            refine x7 _ _ rfl ?_; clear n7 x7
            refine x6 _ _ rfl ?_; clear n6 x6
            refine n5 _ ?_; clear n5 x5
            refine EW.seq fun Ψ41 n41 x41 => ?_
            refine EW.region gs_nil ?_
            simp
            refine n41 _ ?_; clear n41 x41
            refine EW.exit ?_
            refine x4 _ _ rfl ?_; clear n4 x4
            refine n2 _ ?_; clear n2 x2
            refine EW.seq fun Ψ42 n42 x42 => ?_
            refine EW.seq fun Ψ43 n43 x43 => ?_
            rcases bor2 (inB b.a 0 0) (inB b.c 0 0) with q1 | ⟨q1, q2⟩ | ⟨q1, q2⟩
            · skip
              refine EW.region (gI_ok gs_nil) ?_
              simp [q1]
              have hv : bndErr b = 1 := by simp [bndErr, h1, h4, h2, h3, h5, q1]
              refine n43 _ ?_; clear n43 x43
              refine EW.cond (t := _) (by rfl) (fun hc26 => ?_) (fun hc26 => ?_)
              · clear hc26
                refine EW.seq fun Ψ44 n44 x44 => ?_
                refine EW.region gs_nil ?_
                simp
                refine n44 _ ?_; clear n44 x44
                refine EW.ret ?_
                refine x42 _ _ rfl ?_; clear n42 x42
                refine ⟨_, _, _, rfl, ?_, ?_, ?_, ?_, ?_⟩ <;> simp [hv]
              · simp at hc26
            · skip
              refine EW.region (gI_ok gs_nil) ?_
              simp [q1, q2]
              have hv : bndErr b = 1 := by simp [bndErr, h1, h4, h2, h3, h5, q1, q2]
              refine n43 _ ?_; clear n43 x43
              refine EW.cond (t := _) (by rfl) (fun hc26 => ?_) (fun hc26 => ?_)
              · clear hc26
                refine EW.seq fun Ψ45 n45 x45 => ?_
                refine EW.region gs_nil ?_
                simp
                refine n45 _ ?_; clear n45 x45
                refine EW.ret ?_
                refine x42 _ _ rfl ?_; clear n42 x42
                refine ⟨_, _, _, rfl, ?_, ?_, ?_, ?_, ?_⟩ <;> simp [hv]
              · simp at hc26
            · skip
              refine EW.region (gI_ok gs_nil) ?_
              simp [q1, q2]
              have hv : bndErr b = 0 := by simp [bndErr, h1, h4, h2, h3, h5, q1, q2]
              refine n43 _ ?_; clear n43 x43
              refine EW.cond (t := _) (by rfl) (fun hc26 => ?_) (fun hc26 => ?_)
              · simp at hc26
              · clear hc26
                refine EW.skip ?_
                refine n42 _ ?_; clear n42 x42
                refine EW.seq fun Ψ46 n46 x46 => ?_
                refine EW.region gs_nil ?_
                simp
                refine n46 _ ?_; clear n46 x46
                refine EW.ret ?_
                refine ⟨_, _, _, rfl, ?_, ?_, ?_, ?_, ?_⟩ <;> simp [hv]
          · have h5 : ¬ b.r = 5 := by simpa using hc11
            have hv : bndErr b = 8 := by simp [bndErr, h1, h2, h3, h4, h5]
            refine EW.skip ?_
            refine n8 _ ?_; clear n8 x8
            refine EW.exit ?_
            refine x7 _ _ rfl ?_; clear n7 x7
            refine x6 _ _ rfl ?_; clear n6 x6
            refine x5 _ _ rfl ?_; clear n5 x5
            refine n4 _ ?_; clear n4 x4
            refine EW.seq fun Ψ47 n47 x47 => ?_
            refine EW.seq fun Ψ48 n48 x48 => ?_
            refine EW.region gs_nil ?_
            simp
            refine n48 _ ?_; clear n48 x48
            refine EW.ret ?_
            refine x47 _ _ rfl ?_; clear n47 x47
            refine x2 _ _ rfl ?_; clear n2 x2
            refine ⟨_, _, _, rfl, ?_, ?_, ?_, ?_, ?_⟩ <;> simp [hv]

end Go.Ev
end

section
set_option linter.all false
set_option linter.unusedVariables false
set_option linter.unusedSimpArgs false
namespace Go.Ev
open Go Go.Proofs Go.Shelf Go.RowKit Go.Lib

/-- A bound as a line. -/
def dgB (n : Int) : List UInt8 := Lib.decDigits n.toNat
def bodyB (b : MBd) : List UInt8 :=
  if b.r = 1 then [99, 117, 116, 32] ++ dgB b.a ++ [32] ++ dgB b.c
  else if b.r = 2 then [108, 105, 103, 104, 116]
  else if b.r = 3 then [104, 101, 97, 118, 121]
  else if b.r = 4 then [98, 114, 111, 107, 101, 110, 32] ++ dgB b.a
  else [100, 101, 97, 114]
def lineB (b : MBd) : List UInt8 := bodyB b ++ [10]
/-- What is written, and the error. -/
def reaF : List MBd → List UInt8 → List UInt8 × Int
  | [], acc => (acc, 0)
  | b :: l, acc => if bndErr b = 0 then reaF l (acc ++ lineB b) else ([], bndErr b)
def reaR (l : List MBd) : List UInt8 × Int := if 6000 < l.length then ([], 6) else reaF l []
theorem checkBound_calls (b : MBd) (w : World) : Calls Tryz.prog 31 #[.agg #[.int .i64 b.r, .int .i64 b.a, .int .i64 b.c]] w fun e w' => e = .returned (.int .i64 (bndErr b)) ∧ Below w.heap.size w w' := by
  have h := checkBound_ok b
  unfold ACalls at h
  rw [if_neg (by decide)] at h
  refine (h.2 w ⟨fun _ _ => False, fun _ => False, [], []⟩ [] #[.agg #[.int .i64 b.r, .int .i64 b.a, .int .i64 b.c]] ⟨fun _ _ h => h.elim, fun _ h => h.elim, List.nodup_nil, rfl, (fun _ h => by cases h), (fun i _ _ h => by simp at h), ?_⟩).mono ?_
  · simp [RVs, RV]
  · rintro e w' ⟨v, ob, rfl, hR⟩
    have e := hR.ret
    simp only [RV] at e
    subst e
    exact ⟨rfl, hR.fr.os, hR.fr.tape, hR.fr.output, hR.fr.size, fun k hk => hR.fr.old k hk (by simp)⟩
theorem builder_keep {T e : TypeId} {B b : Nat} {bs : List Value} {w w' : World} (h : Lib.IsBuilderF T e B b bs w) (hb : Below w.heap.size w w') : Lib.IsBuilderF T e B b bs w' := by
  have key : ∀ p, Lib.BuilderAtF T e B b p bs w → Lib.BuilderAtF T e B b p bs w' := by
    rintro p ⟨h1, v, h2, h3, h4⟩
    have hlt : ∀ (k : Nat) (o : Obj), w.heap[k]? = some o → w'.heap[k]? = some o := fun k o hk => by
      rw [hb.block k]
      · exact hk
      · rcases Nat.lt_or_ge k w.heap.size with h | h
        · exact h
        · simp [Array.getElem?_eq_none h] at hk
    refine ⟨h1, v, hlt _ _ h2, ⟨h3.1, h3.2.imp id ?_⟩, h4⟩
    rintro ⟨g, cap, cur, fz, a1, a2, a3, a4⟩
    exact ⟨g, cap, cur, fz, a1, a2, hlt _ _ a3, a4⟩
  exact h.imp (key _) (key _)
theorem dig1 {n : Nat} (h : n < 10) : Lib.decDigits n = [48 + UInt8.ofNat n] := by rw [Lib.decDigits, dif_pos h, UInt8.ofNat_add]; rfl
theorem itoa1 (i : Nat) (hi : i < 10) (w : World) : Calls Tryz.prog 33 #[.int .i64 i] w fun e w' => e = .returned (.string ⟨#[48 + UInt8.ofNat i]⟩) ∧ w' = w := by
  have c := Tryz.strconv_Itoa_small i (by omega) w
  rw [dig1 hi] at c
  exact c
theorem bndErr_0 {b : MBd} (h : bndErr b = 0) : (b.r = 1 ∧ (0 ≤ b.a ∧ b.a ≤ 3) ∧ 0 ≤ b.c ∧ b.c ≤ 6) ∨ b.r = 2 ∨ b.r = 3 ∨ (b.r = 4 ∧ 0 ≤ b.a ∧ b.a ≤ 2) ∨ b.r = 5 := by
  unfold bndErr at h
  split at h
  · rename_i h1
    split at h
    · rename_i h2
      simp only [Bool.and_eq_true, inB, decide_eq_true_eq] at h2
      exact .inl ⟨h1, h2.1, h2.2⟩
    · cases h
  · split at h
    · rename_i h1
      split at h
      · rename_i h2
        simp only [Bool.and_eq_true, inB, decide_eq_true_eq] at h2
        exact .inr (.inr (.inr (.inl ⟨h1, h2.1⟩)))
      · cases h
    · split at h
      · rename_i h1
        rcases h1 with h1 | h1 | h1
        · exact .inr (.inl h1)
        · exact .inr (.inr (.inl h1))
        · exact .inr (.inr (.inr (.inr h1)))
      · cases h
set_option maxHeartbeats 4000000 in
set_option maxRecDepth 1000000 in
theorem reasons_calls (l : List MBd) (w : World) (pb po cap : Nat) (hn : l.length ≤ 6000) (hpb : pb < w.heap.size)
    (hc : ∀ (k : Nat) (h : k < l.length), w.cell? ⟨pb, po + k * 3, none⟩ = some (.int .i64 l[k].r) ∧ w.cell? ⟨pb, po + k * 3 + 1, none⟩ = some (.int .i64 l[k].a) ∧ w.cell? ⟨pb, po + k * 3 + 2, none⟩ = some (.int .i64 l[k].c)) :
    Calls Tryz.prog 9 #[.slice (some ⟨pb, po, none⟩) l.length cap] w fun e w' => e = .returned (.tuple #[.string ⟨(reaF l []).1.toArray⟩, .int .i64 (reaF l []).2]) ∧ Below w.heap.size w w' := by
  go_enter Tryz.func9, Tryz.ntmps9
  go_wp2
  go_loopw [13] (fun v wr => ∃ (k : Nat) (acc : List UInt8), k ≤ l.length ∧ v = .int .i64 k ∧ Lib.IsBuilderF 77 5 w.heap.size w.heap.size (Lib.byteCells acc) wr ∧ Below w.heap.size w wr ∧ reaF (l.drop k) acc = reaF l [] ∧ acc.length ≤ 12 * k) (fun v _ => l.length - (RowKit.intOf v).toNat)
  case atStart =>
    refine ⟨0, [], Nat.zero_le _, rfl, Lib.IsBuilderF.of (Lib.fresh_isBuilder 77 5 w), (Below.refl _ w).alloc (Nat.le_refl _) _, by simp, by simp⟩
  case round =>
    obtain ⟨k, acc, hk, rfl, hI, hbw, hacc, hal⟩ := hrel
    by_cases hp : k < l.length
    · obtain ⟨c0, c1, c2⟩ := hc k hp
      rw [← hbw.cell (p := ⟨pb, po + k * 3, none⟩) hpb] at c0
      rw [← hbw.cell (p := ⟨pb, po + k * 3 + 1, none⟩) hpb] at c1
      rw [← hbw.cell (p := ⟨pb, po + k * 3 + 2, none⟩) hpb] at c2
      go_wp2_with (go_at_call 31; refine (checkBound_calls l[k] _).mono ?_)
      rintro e W1 ⟨rfl, b1⟩
      have hsz : w.heap.size ≤ wr.heap.size := hbw.size
      have hbw1 : Below w.heap.size w W1 := (hbw.alloc hsz _).trans (b1.mono (by simp; omega))
      have hI1 : Lib.IsBuilderF 77 5 w.heap.size w.heap.size (Lib.byteCells acc) W1 := builder_keep (hI.alloc _) b1
      have hbx : W1.heap[wr.heap.size]? = some (.cells #[.int .i64 l[k].r, .int .i64 l[k].a, .int .i64 l[k].c] 52 (0, 0)) := by
        rw [b1.block _ (by simp)]; exact heap_alloc_new wr _
      have d0 : W1.cell? ⟨wr.heap.size, 0, none⟩ = some (.int .i64 l[k].r) := by rw [Lib.cell_of_heap hbx]; rfl
      have d1 : W1.cell? ⟨wr.heap.size, 1, none⟩ = some (.int .i64 l[k].a) := by rw [Lib.cell_of_heap hbx]; rfl
      have d2 : W1.cell? ⟨wr.heap.size, 2, none⟩ = some (.int .i64 l[k].c) := by rw [Lib.cell_of_heap hbx]; rfl
      have hdr : l.drop k = l[k] :: l.drop (k + 1) := List.drop_eq_getElem_cons hp
      by_cases he : bndErr l[k] = 0
      · rw [he]
        rcases bndErr_0 he with ⟨h1, ha, hcc⟩ | h1 | h1 | ⟨h1, ha⟩ | h1
        · obtain ⟨ai, hai⟩ : ∃ ai : Nat, l[k].a = ai := ⟨l[k].a.toNat, by omega⟩
          obtain ⟨ci, hci⟩ : ∃ ci : Nat, l[k].c = ci := ⟨l[k].c.toNat, by omega⟩
          rw [h1] at d0
          rw [hai] at d1
          rw [hci] at d2
          go_wp2
          refine wp_region_still_tail 9 (by kernel_rfl) (by kernel_rfl) ?_
          simp only [List.take_succ_cons, List.take_zero, List.drop_succ_cons, List.drop_zero]
          repeat still_step
          still_call (itoa1 ai (by omega) _)
          repeat still_step
          still_call (itoa1 ci (by omega) _)
          repeat still_step
          refine wpStill_nil ?_
          change wpList _ _ _ _ _ W1.drew
          have ebody : bodyB l[k] = [99, 117, 116, 32, 48 + UInt8.ofNat ai, 32, 48 + UInt8.ofNat ci] := by
            rw [bodyB, if_pos h1, dgB, dgB, hai, hci, Int.toNat_natCast, Int.toNat_natCast, dig1 (by omega), dig1 (by omega)]
            rfl
          have hbl : (bodyB l[k]).length ≤ 11 := by rw [ebody]; simp
          have hI1d : Lib.IsBuilderF 77 5 w.heap.size w.heap.size (Lib.byteCells acc) W1.drew := hI1
          go_wp2_with (go_at_call 32; refine (Tryz.bWrite_k w.heap.size w.heap.size (Lib.byteCells acc) _ W1.drew hI1d (by simp [Lib.byteCells_length, ByteArray.size]; omega) hbw1.drew.size).mono ?_)
          rintro e W2 ⟨rfl, h2, b2, k2⟩
          have eS : Lib.strCells ({ data := #[99, 117, 116, 32] } ++ { data := #[48 + UInt8.ofNat ai] } ++ { data := #[32] } ++ { data := #[48 + UInt8.ofNat ci] }) = Lib.byteCells (bodyB l[k]) := by
            rw [ebody]; simp [Lib.strCells, Lib.byteCells]
          rw [eS] at h2
          go_wp2_with (go_at_call 32; refine (Tryz.bWrite_k w.heap.size w.heap.size _ ⟨#[10]⟩ W2 (Or.inr h2) (by rw [List.length_append, Lib.byteCells_length, Lib.byteCells_length]; have := hbl; show _ + 1 ≤ _; omega) (hbw1.drew.trans b2).size).mono ?_)
          rintro e W3 ⟨rfl, h3, b3, k3⟩
          go_wp2
          go_roundw
          case rel =>
            refine ⟨k + 1, acc ++ lineB l[k], by omega, by simp, Or.inr ?_, (hbw1.drew.trans b2).trans b3, ?_, ?_⟩
            · have e : Lib.byteCells acc ++ Lib.byteCells (bodyB l[k]) ++ Lib.strCells ⟨#[10]⟩ = Lib.byteCells (acc ++ lineB l[k]) := by
                rw [Lib.byteCells_append, lineB, Lib.byteCells_append, ← List.append_assoc]
                rfl
              rw [← e]; exact h3
            · rw [← hacc, hdr, reaF, if_pos he]
            · have : (lineB l[k]).length ≤ 12 := by rw [lineB, List.length_append]; simp; omega
              simp; omega
          case measure =>
            show l.length - ((k : Int) + 1).toNat < l.length - (k : Int).toNat
            omega
        · rw [h1] at d0
          go_wp2_with (go_at_call 32; refine (Tryz.bWrite_k w.heap.size w.heap.size (Lib.byteCells acc) ⟨#[108, 105, 103, 104, 116]⟩ W1 hI1 (by rw [Lib.byteCells_length]; show _ + 5 ≤ _; omega) hbw1.size).mono ?_)
          rintro e W2 ⟨rfl, h2, b2, k2⟩
          go_wp2_with (go_at_call 32; refine (Tryz.bWrite_k w.heap.size w.heap.size _ ⟨#[10]⟩ W2 (Or.inr h2) (by rw [List.length_append, Lib.byteCells_length, Lib.strCells_length]; show _ + 5 + _ ≤ _; show _ + 1 ≤ _; omega) (hbw1.trans b2).size).mono ?_)
          rintro e W3 ⟨rfl, h3, b3, k3⟩
          go_wp2
          go_roundw
          case rel =>
            refine ⟨k + 1, acc ++ lineB l[k], by omega, by simp, Or.inr ?_, (hbw1.trans b2).trans b3, ?_, ?_⟩
            · have e : Lib.byteCells acc ++ Lib.strCells ⟨#[108, 105, 103, 104, 116]⟩ ++ Lib.strCells ⟨#[10]⟩ = Lib.byteCells (acc ++ lineB l[k]) := by
                rw [Lib.byteCells_append, lineB, Lib.byteCells_append, ← List.append_assoc]
                congr 2
                simp only [bodyB, h1]; rfl
              rw [← e]; exact h3
            · rw [← hacc, hdr, reaF, if_pos he]
            · have : (lineB l[k]).length ≤ 12 := by simp [lineB, bodyB, h1]
              simp; omega
          case measure =>
            show l.length - ((k : Int) + 1).toNat < l.length - (k : Int).toNat
            omega
        · rw [h1] at d0
          go_wp2_with (go_at_call 32; refine (Tryz.bWrite_k w.heap.size w.heap.size (Lib.byteCells acc) ⟨#[104, 101, 97, 118, 121]⟩ W1 hI1 (by rw [Lib.byteCells_length]; show _ + 5 ≤ _; omega) hbw1.size).mono ?_)
          rintro e W2 ⟨rfl, h2, b2, k2⟩
          go_wp2_with (go_at_call 32; refine (Tryz.bWrite_k w.heap.size w.heap.size _ ⟨#[10]⟩ W2 (Or.inr h2) (by rw [List.length_append, Lib.byteCells_length, Lib.strCells_length]; show _ + 5 + _ ≤ _; show _ + 1 ≤ _; omega) (hbw1.trans b2).size).mono ?_)
          rintro e W3 ⟨rfl, h3, b3, k3⟩
          go_wp2
          go_roundw
          case rel =>
            refine ⟨k + 1, acc ++ lineB l[k], by omega, by simp, Or.inr ?_, (hbw1.trans b2).trans b3, ?_, ?_⟩
            · have e : Lib.byteCells acc ++ Lib.strCells ⟨#[104, 101, 97, 118, 121]⟩ ++ Lib.strCells ⟨#[10]⟩ = Lib.byteCells (acc ++ lineB l[k]) := by
                rw [Lib.byteCells_append, lineB, Lib.byteCells_append, ← List.append_assoc]
                congr 2
                simp only [bodyB, h1]; rfl
              rw [← e]; exact h3
            · rw [← hacc, hdr, reaF, if_pos he]
            · have : (lineB l[k]).length ≤ 12 := by simp [lineB, bodyB, h1]
              simp; omega
          case measure =>
            show l.length - ((k : Int) + 1).toNat < l.length - (k : Int).toNat
            omega
        · obtain ⟨ai, hai⟩ : ∃ ai : Nat, l[k].a = ai := ⟨l[k].a.toNat, by omega⟩
          rw [h1] at d0
          rw [hai] at d1
          have ebody : bodyB l[k] = [98, 114, 111, 107, 101, 110, 32, 48 + UInt8.ofNat ai] := by
            rw [bodyB, if_neg (by omega), if_neg (by omega), if_neg (by omega), if_pos h1, dgB, hai, Int.toNat_natCast, dig1 (by omega)]
            rfl
          have hbl : (bodyB l[k]).length ≤ 11 := by rw [ebody]; simp
          go_wp2_with (go_at_call 33; refine (itoa1 ai (by omega) _).mono ?_; rintro e w' ⟨rfl, hw⟩; rw [hw]; clear hw)
          refine (Tryz.bWrite_k w.heap.size w.heap.size (Lib.byteCells acc) _ W1 hI1 (by simp [Lib.byteCells_length, ByteArray.size]; omega) hbw1.size).mono ?_
          rintro e W2 ⟨rfl, h2, b2, k2⟩
          have eS : Lib.strCells ({ data := #[98, 114, 111, 107, 101, 110, 32] } ++ { data := #[48 + UInt8.ofNat ai] }) = Lib.byteCells (bodyB l[k]) := by
            rw [ebody]; simp [Lib.strCells, Lib.byteCells]
          rw [eS] at h2
          go_wp2_with (go_at_call 32; refine (Tryz.bWrite_k w.heap.size w.heap.size _ ⟨#[10]⟩ W2 (Or.inr h2) (by rw [List.length_append, Lib.byteCells_length, Lib.byteCells_length]; have := hbl; show _ + 1 ≤ _; omega) (hbw1.trans b2).size).mono ?_)
          rintro e W3 ⟨rfl, h3, b3, k3⟩
          go_wp2
          go_roundw
          case rel =>
            refine ⟨k + 1, acc ++ lineB l[k], by omega, by simp, Or.inr ?_, (hbw1.trans b2).trans b3, ?_, ?_⟩
            · have e : Lib.byteCells acc ++ Lib.byteCells (bodyB l[k]) ++ Lib.strCells ⟨#[10]⟩ = Lib.byteCells (acc ++ lineB l[k]) := by
                rw [Lib.byteCells_append, lineB, Lib.byteCells_append, ← List.append_assoc]
                rfl
              rw [← e]; exact h3
            · rw [← hacc, hdr, reaF, if_pos he]
            · have : (lineB l[k]).length ≤ 12 := by rw [lineB, List.length_append]; simp; omega
              simp; omega
          case measure =>
            show l.length - ((k : Int) + 1).toNat < l.length - (k : Int).toNat
            omega
        · rw [h1] at d0
          go_wp2_with (go_at_call 32; refine (Tryz.bWrite_k w.heap.size w.heap.size (Lib.byteCells acc) ⟨#[100, 101, 97, 114]⟩ W1 hI1 (by rw [Lib.byteCells_length]; show _ + 4 ≤ _; omega) hbw1.size).mono ?_)
          rintro e W2 ⟨rfl, h2, b2, k2⟩
          go_wp2_with (go_at_call 32; refine (Tryz.bWrite_k w.heap.size w.heap.size _ ⟨#[10]⟩ W2 (Or.inr h2) (by rw [List.length_append, Lib.byteCells_length, Lib.strCells_length]; show _ + 4 + _ ≤ _; show _ + 1 ≤ _; omega) (hbw1.trans b2).size).mono ?_)
          rintro e W3 ⟨rfl, h3, b3, k3⟩
          go_wp2
          go_roundw
          case rel =>
            refine ⟨k + 1, acc ++ lineB l[k], by omega, by simp, Or.inr ?_, (hbw1.trans b2).trans b3, ?_, ?_⟩
            · have e : Lib.byteCells acc ++ Lib.strCells ⟨#[100, 101, 97, 114]⟩ ++ Lib.strCells ⟨#[10]⟩ = Lib.byteCells (acc ++ lineB l[k]) := by
                rw [Lib.byteCells_append, lineB, Lib.byteCells_append, ← List.append_assoc]
                congr 2
                simp only [bodyB, h1]; rfl
              rw [← e]; exact h3
            · rw [← hacc, hdr, reaF, if_pos he]
            · have : (lineB l[k]).length ≤ 12 := by simp [lineB, bodyB, h1]
              simp; omega
          case measure =>
            show l.length - ((k : Int) + 1).toNat < l.length - (k : Int).toNat
            omega
      · go_wp2
        go_ret2
        refine ⟨?_, hbw1⟩
        rw [← hacc, hdr, reaF, if_neg he]
        rfl
    · have hkl : k = l.length := by omega
      go_wp2_with (go_at_call 34; refine (Tryz.Builder_String_any_k w.heap.size w.heap.size acc _ hI hbw.size).mono ?_)
      rintro e W1 ⟨rfl, _, b1, _⟩
      go_wp2
      go_ret2
      refine ⟨?_, hbw.trans b1⟩
      rw [← hacc, hkl, List.drop_length, reaF]
      rfl
end Go.Ev
end

section
set_option linter.all false
set_option linter.unusedVariables false
set_option linter.unusedSimpArgs false
namespace Go.Ev
open Go Go.Proofs Go.Shelf Go.RowKit Go.Lib

set_option maxHeartbeats 4000000 in
set_option maxRecDepth 1000000 in
theorem reasons_empty (a : Option Addr) (cap : Nat) (w : World) : Calls Tryz.prog 9 #[.slice a 0 cap] w fun e w' => e = .returned (.tuple #[.string ⟨#[]⟩, .int .i64 0]) ∧ Below w.heap.size w w' := by
  go_enter Tryz.func9, Tryz.ntmps9
  go_wp2
  go_loopw [13] (fun v wr => v = .int .i64 0 ∧ Lib.IsBuilderF 77 5 w.heap.size w.heap.size (Lib.byteCells []) wr ∧ Below w.heap.size w wr) (fun v _ => 0)
  case atStart =>
    exact ⟨rfl, Lib.IsBuilderF.of (Lib.fresh_isBuilder 77 5 w), (Below.refl _ w).alloc (Nat.le_refl _) _⟩
  case round =>
    obtain ⟨rfl, hI, hbw⟩ := hrel
    go_wp2_with (go_at_call 34; refine (Tryz.Builder_String_any_k w.heap.size w.heap.size [] _ hI hbw.size).mono ?_)
    rintro e W1 ⟨rfl, _, b1, _⟩
    go_wp2
    go_ret2
    exact ⟨rfl, hbw.trans b1⟩
/-- A function that turns nothing old and hands back plain values. -/
theorem outR_plain {w : World} {rd : Rd} {be : List Nat} (hbe : be = []) {e : Ending} {w' : World} {v : Value} {r : AV} (hr : ∀ c : Cx, RV w' c r v) (h : e = .returned v ∧ Below w.heap.size w w') : OutR w rd be (.ret r [] []) e w' := by
  subst hbe
  obtain ⟨rfl, hb⟩ := h
  refine ⟨v, fun _ => none, rfl, ⟨hb.os, hb.tape, hb.output, hb.size, fun b hlt _ => hb.block b hlt⟩, rfl, (fun _ _ _ h => by cases h), (fun _ _ h => by cases h), (fun _ _ h => by cases h), List.nodup_nil, (fun p h => by cases h), (fun i b cs h => by simp at h), hr _⟩
theorem reasons_ok (l : List MBd) (hn : l.length ≤ 6000) : ACalls Tryz.prog 9 [.sl false false .U .no l.length (eBds l)] [] (.ret (.tup [.s (.string ⟨(reaF l []).1.toArray⟩), .s (.int .i64 (reaF l []).2)]) [] []) := by
  unfold ACalls
  rw [if_neg (by decide)]
  refine ⟨⟨Tryz.f9, _, Tryz.func9, rfl, rfl⟩, fun w rd be vs hp => ?_⟩
  have hbe : be = [] := List.length_eq_zero_iff.1 hp.len
  have ha := hp.args
  simp only [RVs, RV, RS] at ha
  obtain ⟨v, r, e1, ⟨a, cap, rfl, h2, h3, _⟩, rfl⟩ := ha
  have evs : vs = #[.slice a l.length cap] := by apply Array.ext'; simpa using e1
  subst evs
  have hret : ∀ (w' : World) (c : Cx), RV w' c (.tup [.s (.string ⟨(reaF l []).1.toArray⟩), .s (.int .i64 (reaF l []).2)]) (.tuple #[.string ⟨(reaF l []).1.toArray⟩, .int .i64 (reaF l []).2]) := fun w' c => by
    simp [RV, RVs]
  by_cases h0 : l = []
  · subst h0
    refine (reasons_empty a cap w).mono fun e w' h => outR_plain hbe (v := .tuple #[.string ⟨#[]⟩, .int .i64 0]) (fun c => hret w' c) h
  · have hlen : l.length ≠ 0 := fun e => h0 (List.length_eq_zero_iff.1 e)
    cases a with
    | none => exact absurd h3.1 hlen
    | some ad =>
      obtain ⟨h4, _, h6⟩ := h3
      have hsp : ad.spot = none := by
        rcases h4 with h4 | h4
        · exact h4
        · exact absurd h4.1 hlen
      obtain ⟨pb, po, sp⟩ := ad
      simp only at hsp h6
      subst hsp
      have hcell : ∀ (j : Nat) (x : Int), (eBds l)[j]? = some (.s (.int .i64 x)) → rd.c pb (po + j) ∧ w.cell? ⟨pb, po + j, none⟩ = some (.int .i64 x) := fun j x hj => by
        obtain ⟨q1, v, q2, _, q3⟩ := h6.get j _ hj
        simp only [RD] at q3
        subst q3
        exact ⟨q1, q2⟩
      have hc : ∀ (k : Nat) (h : k < l.length), w.cell? ⟨pb, po + k * 3, none⟩ = some (.int .i64 l[k].r) ∧ w.cell? ⟨pb, po + k * 3 + 1, none⟩ = some (.int .i64 l[k].a) ∧ w.cell? ⟨pb, po + k * 3 + 2, none⟩ = some (.int .i64 l[k].c) := fun k h => by
        have a0 := (hcell (k * 3) l[k].r (by simp [h])).2
        have a1 := (hcell (k * 3 + 1) l[k].a (by simp [h])).2
        have a2 := (hcell (k * 3 + 2) l[k].c (by simp [h])).2
        exact ⟨a0, a1, a2⟩
      have hpb : pb < w.heap.size := by
        have hpos : 0 < l.length := by omega
        have := (hcell (0 * 3) l[0].r (by rw [eBds_0]; rw [List.getElem?_eq_getElem hpos]; rfl)).1
        exact (hp.rdok _ _ this).1
      exact (reasons_calls l w pb po cap hn hpb hc).mono fun e w' h => outR_plain hbe (fun c => hret w' c) h
end Go.Ev
end
