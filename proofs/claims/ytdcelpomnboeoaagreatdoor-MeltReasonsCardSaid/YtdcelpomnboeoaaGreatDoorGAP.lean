/- Lemmas for the claims of this seat: an evaluator over abstract values, its soundness, and the contracts of the functions of melt that it walks; no premise beyond what each theorem states. -/
import Derived.Shelf.Strings.Search1
import Derived.Shelf.Strings.Search2
import Derived.Shelf.Strings.Search3
import Derived.Shelf.Strings.Count
import Derived.Shelf.Strings.SplitCore
import Derived.Shelf.Strings.Split
import Derived.Lib.IndexBytes
import Derived.Lib.IndexLaws
import Derived.Lib.Split
import Derived.Test.YtdcelpomnboeoaaGreatDoorGAO
import Derived.Test.YtdcelpomnboeoaaGreatDoorGAH
import Derived.Test.YtdcelpomnboeoaaGreatDoorGAM
import Derived.Test.YtdcelpomnboeoaaGreatDoorGAK

section
set_option linter.all false
set_option linter.unusedVariables false
set_option linter.unusedSimpArgs false
namespace Go.Proofs
open Go.Shelf Go.RowKit Go.Lib
def Tryz.lays143_ren : Go.Shelf.Ren := ⟨fun | 143 => 79 | 219 => 93 | 217 => 103 | 225 => 104 | 224 => 105 | 267 => 106 | 266 => 109 | 314 => 110 | n => n, fun | 9 => 9 | 3 => 3 | 4 => 4 | 5 => 5 | 46 => 73 | 146 => 157 | 51 => 149 | n => n, fun | 1 => 1 | n => n⟩
theorem Tryz.lays143 : Go.Proofs.Lays.n143 Tryz.prog Tryz.lays143_ren := {
  mixed := by kernel_rfl
  f143 := Tryz.func79.trans (congrArg some (by kernel_rfl))
  f217 := Tryz.func103.trans (congrArg some (by kernel_rfl))
  f219 := Tryz.func93.trans (congrArg some (by kernel_rfl))
  f224 := Tryz.func105.trans (congrArg some (by kernel_rfl))
  f225 := Tryz.func104.trans (congrArg some (by kernel_rfl))
  f266 := Tryz.func109.trans (congrArg some (by kernel_rfl))
  f267 := Tryz.func106.trans (congrArg some (by kernel_rfl))
  f314 := Tryz.func110.trans (congrArg some (by kernel_rfl))
  t3 := Tryz.underlying3
  a3 := Tryz.isAgg3
  z3 := Tryz.sizeOf3
  v3 := Tryz.zeroValue3
  t4 := Tryz.underlying4
  a4 := Tryz.isAgg4
  z4 := Tryz.sizeOf4
  v4 := Tryz.zeroValue4
  t5 := Tryz.underlying5
  a5 := Tryz.isAgg5
  z5 := Tryz.sizeOf5
  v5 := Tryz.zeroValue5
  t9 := Tryz.underlying9
  a9 := Tryz.isAgg9
  z9 := Tryz.sizeOf9
  v9 := Tryz.zeroValue9
  t46 := Tryz.underlying73
  a46 := Tryz.isAgg73
  z46 := Tryz.sizeOf73
  v46 := Tryz.zeroValue73
  t51 := Tryz.underlying149
  a51 := Tryz.isAgg149
  z51 := Tryz.sizeOf149
  v51 := Tryz.zeroValue149
  t146 := Tryz.underlying157
  a146 := Tryz.isAgg157
  z146 := Tryz.sizeOf157
  v146 := Tryz.zeroValue157
  g1 := by kernel_rfl }
theorem Tryz.strings_Index_one (s : ByteArray) (c : UInt8) (w : World) :
    Calls Tryz.prog 79 #[.string s, .string ⟨#[c]⟩] w fun e w' => e = .returned (.int .i64 (Lib.indexByte s.data.toList c)) ∧ w' = w := Any.strings_Index_one Tryz.lays143 s c w
def Tryz.lays138_ren : Go.Shelf.Ren := ⟨fun | 138 => 78 | 195 => 90 | 218 => 92 | 143 => 79 | 219 => 93 | 217 => 103 | 225 => 104 | 224 => 105 | 267 => 106 | 266 => 109 | 314 => 110 | n => n, fun | 9 => 9 | 3 => 3 | 4 => 4 | 5 => 5 | 0 => 0 | 46 => 73 | 146 => 157 | 51 => 149 | n => n, fun | 1 => 1 | n => n⟩
theorem Tryz.lays138 : Go.Proofs.Lays.n138 Tryz.prog Tryz.lays138_ren := {
  mixed := by kernel_rfl
  f138 := Tryz.func78.trans (congrArg some (by kernel_rfl))
  f143 := Tryz.func79.trans (congrArg some (by kernel_rfl))
  f195 := Tryz.func90.trans (congrArg some (by kernel_rfl))
  f217 := Tryz.func103.trans (congrArg some (by kernel_rfl))
  f218 := Tryz.func92.trans (congrArg some (by kernel_rfl))
  f219 := Tryz.func93.trans (congrArg some (by kernel_rfl))
  f224 := Tryz.func105.trans (congrArg some (by kernel_rfl))
  f225 := Tryz.func104.trans (congrArg some (by kernel_rfl))
  f266 := Tryz.func109.trans (congrArg some (by kernel_rfl))
  f267 := Tryz.func106.trans (congrArg some (by kernel_rfl))
  f314 := Tryz.func110.trans (congrArg some (by kernel_rfl))
  t0 := Tryz.underlying0
  a0 := Tryz.isAgg0
  z0 := Tryz.sizeOf0
  v0 := Tryz.zeroValue0
  t3 := Tryz.underlying3
  a3 := Tryz.isAgg3
  z3 := Tryz.sizeOf3
  v3 := Tryz.zeroValue3
  t4 := Tryz.underlying4
  a4 := Tryz.isAgg4
  z4 := Tryz.sizeOf4
  v4 := Tryz.zeroValue4
  t5 := Tryz.underlying5
  a5 := Tryz.isAgg5
  z5 := Tryz.sizeOf5
  v5 := Tryz.zeroValue5
  t9 := Tryz.underlying9
  a9 := Tryz.isAgg9
  z9 := Tryz.sizeOf9
  v9 := Tryz.zeroValue9
  t46 := Tryz.underlying73
  a46 := Tryz.isAgg73
  z46 := Tryz.sizeOf73
  v46 := Tryz.zeroValue73
  t51 := Tryz.underlying149
  a51 := Tryz.isAgg149
  z51 := Tryz.sizeOf149
  v51 := Tryz.zeroValue149
  t146 := Tryz.underlying157
  a146 := Tryz.isAgg157
  z146 := Tryz.sizeOf157
  v146 := Tryz.zeroValue157
  g1 := by kernel_rfl }
theorem Tryz.strings_Count_one (s : ByteArray) (c : UInt8) (w : World) :
    Calls Tryz.prog 78 #[.string s, .string ⟨#[c]⟩] w fun e w' => e = .returned (.int .i64 (Lib.countByte s.data.toList c)) ∧ w' = w := Any.strings_Count_one Tryz.lays138 s c w
def Tryz.lays221_ren : Go.Shelf.Ren := ⟨fun | 221 => 57 | 268 => 77 | 138 => 78 | 143 => 79 | 195 => 90 | 197 => 91 | 218 => 92 | 219 => 93 | 260 => 102 | 217 => 103 | 225 => 104 | 224 => 105 | 267 => 106 | 266 => 109 | 314 => 110 | n => n, fun | 9 => 9 | 3 => 3 | 31 => 36 | 4 => 4 | 0 => 0 | 105 => 142 | 21 => 21 | 5 => 5 | 46 => 73 | 119 => 153 | 139 => 156 | 138 => 155 | 146 => 157 | 51 => 149 | n => n, fun | 1 => 1 | 3 => 2 | 4 => 3 | n => n⟩
theorem Tryz.lays221 : Go.Proofs.Lays.n221 Tryz.prog Tryz.lays221_ren := {
  mixed := by kernel_rfl
  f138 := Tryz.func78.trans (congrArg some (by kernel_rfl))
  f143 := Tryz.func79.trans (congrArg some (by kernel_rfl))
  f195 := Tryz.func90.trans (congrArg some (by kernel_rfl))
  f197 := Tryz.func91.trans (congrArg some (by kernel_rfl))
  f217 := Tryz.func103.trans (congrArg some (by kernel_rfl))
  f218 := Tryz.func92.trans (congrArg some (by kernel_rfl))
  f219 := Tryz.func93.trans (congrArg some (by kernel_rfl))
  f221 := Tryz.func57.trans (congrArg some (by kernel_rfl))
  f224 := Tryz.func105.trans (congrArg some (by kernel_rfl))
  f225 := Tryz.func104.trans (congrArg some (by kernel_rfl))
  f260 := Tryz.func102.trans (congrArg some (by kernel_rfl))
  f266 := Tryz.func109.trans (congrArg some (by kernel_rfl))
  f267 := Tryz.func106.trans (congrArg some (by kernel_rfl))
  f268 := Tryz.func77.trans (congrArg some (by kernel_rfl))
  f314 := Tryz.func110.trans (congrArg some (by kernel_rfl))
  t0 := Tryz.underlying0
  a0 := Tryz.isAgg0
  z0 := Tryz.sizeOf0
  v0 := Tryz.zeroValue0
  t3 := Tryz.underlying3
  a3 := Tryz.isAgg3
  z3 := Tryz.sizeOf3
  v3 := Tryz.zeroValue3
  t4 := Tryz.underlying4
  a4 := Tryz.isAgg4
  z4 := Tryz.sizeOf4
  v4 := Tryz.zeroValue4
  t5 := Tryz.underlying5
  a5 := Tryz.isAgg5
  z5 := Tryz.sizeOf5
  v5 := Tryz.zeroValue5
  t9 := Tryz.underlying9
  a9 := Tryz.isAgg9
  z9 := Tryz.sizeOf9
  v9 := Tryz.zeroValue9
  t21 := Tryz.underlying21
  a21 := Tryz.isAgg21
  z21 := Tryz.sizeOf21
  v21 := Tryz.zeroValue21
  t31 := Tryz.underlying36
  a31 := Tryz.isAgg36
  z31 := Tryz.sizeOf36
  v31 := Tryz.zeroValue36
  t46 := Tryz.underlying73
  a46 := Tryz.isAgg73
  z46 := Tryz.sizeOf73
  v46 := Tryz.zeroValue73
  t51 := Tryz.underlying149
  a51 := Tryz.isAgg149
  z51 := Tryz.sizeOf149
  v51 := Tryz.zeroValue149
  t105 := Tryz.underlying142
  a105 := Tryz.isAgg142
  z105 := Tryz.sizeOf142
  v105 := Tryz.zeroValue142
  t119 := Tryz.underlying153
  a119 := Tryz.isAgg153
  z119 := Tryz.sizeOf153
  t138 := Tryz.underlying155
  a138 := Tryz.isAgg155
  z138 := Tryz.sizeOf155
  v138 := Tryz.zeroValue155
  t139 := Tryz.underlying156
  a139 := Tryz.isAgg156
  z139 := Tryz.sizeOf156
  v139 := Tryz.zeroValue156
  t146 := Tryz.underlying157
  a146 := Tryz.isAgg157
  z146 := Tryz.sizeOf157
  v146 := Tryz.zeroValue157
  g1 := by kernel_rfl
  g3 := by kernel_rfl
  g4 := by kernel_rfl }
/-! ### strings.Split at a separator of one byte: no premise on the library's variables -/
/-- The parts of a text between separators. -/
def Tryz.parted (c : UInt8) : List UInt8 → List (List UInt8)
  | [] => [[]]
  | b :: l => if b = c then [] :: Tryz.parted c l else match Tryz.parted c l with
    | p :: r => (b :: p) :: r
    | [] => [[b]]
theorem Tryz.parted_ne (c : UInt8) : ∀ l, Tryz.parted c l ≠ []
  | [] => by simp [Tryz.parted]
  | b :: l => by
    rw [Tryz.parted]
    split
    · simp
    · split <;> simp
theorem Tryz.parted_no (c : UInt8) : ∀ l : List UInt8, c ∉ l → Tryz.parted c l = [l]
  | [], _ => rfl
  | b :: l, h => by
    have h1 : ¬ b = c := fun e => h (by simp [e])
    rw [Tryz.parted, if_neg h1, Tryz.parted_no c l (fun hm => h (by simp [hm]))]
theorem Tryz.parted_app (c : UInt8) (r : List UInt8) : ∀ a : List UInt8, c ∉ a → Tryz.parted c (a ++ c :: r) = a :: Tryz.parted c r
  | [], _ => by simp [Tryz.parted]
  | b :: a, h => by
    have h1 : ¬ b = c := fun e => h (by simp [e])
    rw [List.cons_append, Tryz.parted, if_neg h1, Tryz.parted_app c r a (fun hm => h (by simp [hm]))]
theorem Tryz.splitK_parted (c : UInt8) : ∀ (n : Nat) (l : List UInt8), l.length ≤ n → Lib.splitK [c] 0 (Lib.count l [c]) l = Tryz.parted c l := by
  intro n
  induction n with
  | zero =>
    intro l h
    have : l = [] := List.length_eq_zero_iff.1 (by omega)
    subst this
    rw [Lib.count_one]
    rfl
  | succ n ih =>
    intro l h
    by_cases hm : c ∈ l
    · obtain ⟨a, r, e, ha⟩ : ∃ a r, l = a ++ c :: r ∧ c ∉ a := by
        clear ih h
        induction l with
        | nil => cases hm
        | cons b l ih =>
          by_cases hb : b = c
          · exact ⟨[], l, by rw [hb]; rfl, by simp⟩
          · obtain ⟨a, r, e, ha⟩ := ih (by
              rcases List.mem_cons.1 hm with h | h
              · exact absurd h.symm hb
              · exact h)
            refine ⟨b :: a, r, by rw [e]; rfl, ?_⟩
            intro h
            rcases List.mem_cons.1 h with h | h
            · exact hb h.symm
            · exact ha h
      have hix : Lib.index l [c] = (a.length : Int) := by
        rw [Lib.index_one, e]
        clear e hm h ih
        induction a with
        | nil => simp [Lib.indexByte]
        | cons b a ih =>
          have hb : ¬ b = c := fun e => ha (by simp [e])
          have := ih (fun h => ha (by simp [h]))
          rw [List.cons_append, Lib.indexByte, this]
          simp [hb]
      have hcnt : Lib.count l [c] = Lib.count r [c] + 1 := by
        rw [Lib.count_one, Lib.count_one, e, List.count_append, List.count_eq_zero_of_not_mem ha, List.count_cons_self]
        first | omega | rfl
      rw [hcnt, Lib.splitK, hix, if_neg (by simp), e]
      have e1 : (a ++ c :: r).take (((a.length : Nat) : Int).toNat + 0) = a := by simp
      have e2 : (a ++ c :: r).drop (((a.length : Nat) : Int).toNat + [c].length) = r := by simp
      rw [e1, e2, ih r (by rw [e] at h; simp at h; omega), Tryz.parted_app c r a ha]
    · rw [Lib.count_one, List.count_eq_zero_of_not_mem hm, Tryz.parted_no c l hm]
      rfl
set_option maxHeartbeats 1000000 in
theorem Tryz.split_one (s : ByteArray) (c : UInt8) (w : World) (hs : s.size < 4294967281) :
    Calls Tryz.prog 38 #[.string s, .string ⟨#[c]⟩] w fun e w' =>
      e = .returned (.slice (some ⟨w.heap.size, 0, none⟩) (Tryz.parted c s.data.toList).length (Tryz.parted c s.data.toList).length) ∧ w' = w.alloc (.cells ((Tryz.parted c s.data.toList).map fun p => Value.string ⟨p.toArray⟩).toArray 9) := by
  have h1 : 1 ≤ (⟨#[c]⟩ : ByteArray).size := Nat.le_refl 1
  have hle := Lib.countB_le ⟨#[c]⟩ h1 s.size s (Nat.le_refl _)
  have hlen := Lib.splitB_all ⟨#[c]⟩ h1 0 _ s rfl
  have hiB : ∀ x : ByteArray, Lib.indexB x ⟨#[c]⟩ = Lib.indexByte x.data.toList c := fun x => Lib.index_one x.data.toList c
  have hcB : Lib.countB s ⟨#[c]⟩ = Lib.countByte s.data.toList c := Lib.count_one c s.data.toList
  have cc := Any.strings_genSplit_core Tryz.lays221 (by kernel_rfl) s ⟨#[c]⟩ 0 (-1) (Lib.countB s ⟨#[c]⟩ + 1) w hs h1 (Nat.zero_le _)
    (fun x c' hx => by rw [hiB]; exact Tryz.strings_Index_one x c _) (by rw [hcB]; exact Tryz.strings_Count_one s c w) (by decide) (by decide) (by rw [if_pos (by decide)]; omega)
  rw [Nat.add_sub_cancel, hlen] at cc
  have e2 : Lib.cellsOf (Lib.splitB ⟨#[c]⟩ 0 (Lib.countB s ⟨#[c]⟩) s) (Lib.countB s ⟨#[c]⟩ + 1) = ((Lib.splitB ⟨#[c]⟩ 0 (Lib.countB s ⟨#[c]⟩) s).map Value.string).toArray := by rw [← hlen]; exact Lib.cellsOf_full _
  rw [e2] at cc
  have e3 : (Lib.splitB ⟨#[c]⟩ 0 (Lib.countB s ⟨#[c]⟩) s).map Value.string = (Tryz.parted c s.data.toList).map fun p => Value.string ⟨p.toArray⟩ := by
    have h := Lib.splitB_data ⟨#[c]⟩ 0 (Lib.countB s ⟨#[c]⟩) s
    have h2 : Lib.splitK [c] 0 (Lib.countB s ⟨#[c]⟩) s.data.toList = Tryz.parted c s.data.toList := Tryz.splitK_parted c _ _ (Nat.le_refl _)
    rw [show (⟨#[c]⟩ : ByteArray).data.toList = [c] from rfl, h2] at h
    rw [← h, List.map_map]
    refine List.map_congr_left fun x _ => ?_
    simp
  have e4 : Lib.countB s ⟨#[c]⟩ + 1 = (Tryz.parted c s.data.toList).length := by
    rw [← hlen, ← List.length_map (f := Value.string), e3, List.length_map]
  rw [e3, e4] at cc
  go_enter Tryz.func38, Tryz.ntmps38
  go_wp2_with (go_at_call 57; refine cc.mono ?_; rintro e w' ⟨rfl, hw⟩; rw [hw])
  go_ret
  exact ⟨rfl, rfl⟩
end Go.Proofs
end

section
set_option linter.all false
set_option linter.unusedVariables false
set_option linter.unusedSimpArgs false
namespace Go.Ev
open Go Go.Proofs Go.Shelf Go.RowKit Go.Lib

/-! ### Texts and their parts -/
abbrev tx (l : List UInt8) : Value := .string ⟨l.toArray⟩
def eTx (l : List (List UInt8)) : List D := l.map fun p => .s (tx p)
@[simp] theorem eTx_len (l : List (List UInt8)) : (eTx l).length = l.length := by simp [eTx]
@[simp] theorem eTx_get (l : List (List UInt8)) (i : Nat) : (eTx l)[i]? = (l[i]?).map fun p => D.s (tx p) := by simp [eTx]
/-- From a contract over values to one over abstract values. -/
theorem acalls_vals {f : FuncId} {xs : List Value} {r : AV} {v : Value} (hf : f ≠ YID) (hcl : Callable Tryz.prog f) (h : ∀ w, Calls Tryz.prog f xs.toArray w fun e w' => e = .returned v ∧ Below w.heap.size w w') (hr : ∀ (w : World) (c : Cx), RV w c r v) : ACalls Tryz.prog f (xs.map AV.s) [] (.ret r [] []) := by
  unfold ACalls
  rw [if_neg hf]
  refine ⟨hcl, fun w rd be vs hp => ?_⟩
  have hbe : be = [] := List.length_eq_zero_iff.1 hp.len
  have key : ∀ (xs : List Value) (vs : List Value) (w : World) (c : Cx), RVs w c (xs.map AV.s) vs → vs = xs := by
    intro xs
    induction xs with
    | nil => intro vs w c h; simpa [RVs] using h
    | cons x xs ih =>
      intro vs w c h
      simp only [List.map_cons, RVs, RV] at h
      obtain ⟨v, r, rfl, rfl, h2⟩ := h
      rw [ih r w c h2]
  have e := key _ _ _ _ hp.args
  have evs : vs = xs.toArray := by apply Array.ext'; simpa using e
  subst evs
  exact (h w).mono fun e w' hh => outR_plain hbe (fun c => hr w' c) hh
theorem split_ok (s : List UInt8) (c : UInt8) (hs : s.length < 4294967281) : ACalls Tryz.prog 38 [.s (tx s), .s (.string ⟨#[c]⟩)] [] (.ret (.sl true true .E .no (Tryz.parted c s).length (eTx (Tryz.parted c s))) [] []) := by
  unfold ACalls
  rw [if_neg (by decide)]
  refine ⟨⟨Tryz.f38, _, Tryz.func38, rfl, rfl⟩, fun w rd be vs hp => ?_⟩
  have hbe : be = [] := List.length_eq_zero_iff.1 hp.len
  subst hbe
  have ha := hp.args
  simp only [RVs, RV] at ha
  obtain ⟨v, r, e1, rfl, v2, r2, rfl, rfl, rfl⟩ := ha
  have evs : vs = #[tx s, .string ⟨#[c]⟩] := by apply Array.ext'; simpa using e1
  subst evs
  refine (Tryz.split_one ⟨s.toArray⟩ c w (by simpa [ByteArray.size] using hs)).mono ?_
  rintro e w' ⟨rfl, rfl⟩
  have ed : (⟨s.toArray⟩ : ByteArray).data.toList = s := rfl
  rw [ed]
  generalize hp2 : Tryz.parted c s = ps
  refine ⟨_, fun _ => none, rfl, ⟨rfl, rfl, rfl, by simp, fun b hb _ => Go.RowKit.Below.heap_alloc w _ b hb⟩, rfl, (fun _ _ _ h => by cases h), (fun _ _ h => by cases h), (fun _ _ h => by cases h), List.nodup_nil, (fun p h => by cases h), (fun i b cs h => by simp at h), ?_⟩
  simp only [RV, RS]
  refine ⟨_, _, rfl, Nat.le_refl _, ⟨.inl rfl, by simp, RDs.of_get fun j d hj => ?_⟩, trivial⟩
  rw [eTx_get] at hj
  obtain ⟨p, hp3, rfl⟩ := Option.map_eq_some_iff.1 hj
  refine ⟨.inl ⟨Nat.le_refl _, by simp, fun k h => by cases h⟩, tx p, ?_, rfl, rfl⟩
  have hh : (w.alloc (.cells ((ps.map fun p => Value.string ⟨p.toArray⟩).toArray) 9)).heap[w.heap.size]? = some (.cells ((ps.map fun p => Value.string ⟨p.toArray⟩).toArray) 9 (0, 0)) := heap_alloc_new w _
  rw [Lib.cell_of_heap hh]
  simp [hp3]
/-! ### A digit -/
def digR (s : List UInt8) : Int × Bool := match s with
  | [b] => if 48 ≤ b.toNat ∧ b.toNat ≤ 57 then ((b.toNat : Int) - 48, true) else (0, false)
  | _ => (0, false)
set_option maxHeartbeats 4000000 in
set_option maxRecDepth 1000000 in
theorem digit_one (b : UInt8) (w : World) : Calls Tryz.prog 58 #[.string ⟨#[b]⟩] w fun e w' => e = .returned (.tuple #[.int .i64 (digR [b]).1, .bool (digR [b]).2]) ∧ Below w.heap.size w w' := by
  go_enter Tryz.func58, Tryz.ntmps58
  go_wp2
  all_goals
    have hb0 : ∀ h, (⟨#[b]⟩ : ByteArray)[0]'h = b := fun _ => rfl
    simp only [hb0] at *
    go_ret2
    refine ⟨?_, Below.refl _ _⟩
  · have e : digR [b] = (0, false) := by
      unfold digR
      simp only
      rw [if_neg]
      omega
    rw [e]; rfl
  · have e : digR [b] = ((b.toNat : Int) - 48, true) := by
      unfold digR
      simp only
      rw [if_pos]
      omega
    rw [e]; rfl
  · have e : digR [b] = (0, false) := by
      unfold digR
      simp only
      rw [if_neg]
      omega
    rw [e]; rfl
set_option maxHeartbeats 4000000 in
set_option maxRecDepth 1000000 in
theorem digit_not (s : List UInt8) (hs : s.length ≠ 1) (w : World) : Calls Tryz.prog 58 #[.string ⟨s.toArray⟩] w fun e w' => e = .returned (.tuple #[.int .i64 0, .bool false]) ∧ Below w.heap.size w w' := by
  go_enter Tryz.func58, Tryz.ntmps58
  have h1 : (⟨s.toArray⟩ : ByteArray).size ≠ 1 := by simpa [ByteArray.size] using hs
  go_wp2
  go_ret2
  exact ⟨rfl, Below.refl _ _⟩
theorem digit_ok (s : List UInt8) : ACalls Tryz.prog 58 [.s (tx s)] [] (.ret (.tup [.s (.int .i64 (digR s).1), .s (.bool (digR s).2)]) [] []) := by
  refine acalls_vals (xs := [tx s]) (v := .tuple #[.int .i64 (digR s).1, .bool (digR s).2]) (by decide) ⟨Tryz.f58, _, Tryz.func58, rfl, rfl⟩ (fun w => ?_) (fun w c => by simp [RV, RVs])
  match s with
  | [b] => exact digit_one b w
  | [] => exact digit_not [] (by simp) w
  | a :: b :: r => exact digit_not (a :: b :: r) (by simp) w
end Go.Ev
end

section
set_option linter.all false
open Go Go.Ev Go.Proofs
namespace Go.Ev
set_option linter.unusedSimpArgs false
set_option linter.unusedVariables false


@[simp high] theorem q_eqs' (x y : Operand) (a b : ByteArray) : qBinP Tryz.prog .eql 9 x y (some (.string a)) (some (.string b)) = some (.s (.bool (decide (a.data.toList = b.data.toList)))) := by
  have h2 : pureP Tryz.prog (binOp .eql 9 (.string a) (.string b)) = some (.bool (decide (a.data.toList = b.data.toList))) := by
    unfold binOp
    simp [Op.stringOp, Go.Lib.toList_data]
    rw [Bool.eq_iff_iff]; simp
  simp only [qBinP, h2]
  simp [eqGuard, AV.ofVal, AV.ofCell, AV.ofFn]
@[simp high] theorem q_nes' (x y : Operand) (a b : ByteArray) : qBinP Tryz.prog .neq 9 x y (some (.string a)) (some (.string b)) = some (.s (.bool (decide (a.data.toList ≠ b.data.toList)))) := by
  have h2 : pureP Tryz.prog (binOp .neq 9 (.string a) (.string b)) = some (.bool (decide (a.data.toList ≠ b.data.toList))) := by
    unfold binOp
    simp [Op.stringOp, Go.Lib.toList_data]
    rw [Bool.eq_iff_iff]; simp
  simp only [qBinP, h2]
  simp [eqGuard, AV.ofVal, AV.ofCell, AV.ofFn]
@[simp] theorem av_tx (f g : Bool) (p : ByteArray) : D.av f g (D.s (.string p)) = .s (.string p) := rfl
@[simp] theorem val_tx (p : ByteArray) : (AV.s (.string p)).val? = some (.string p) := rfl
/-- What a line says; whether it is a bound. -/
def bndR (s : List UInt8) : MBd × Bool :=
  if s = [108, 105, 103, 104, 116] then (⟨2, 0, 0⟩, true) else if s = [104, 101, 97, 118, 121] then (⟨3, 0, 0⟩, true) else if s = [100, 101, 97, 114] then (⟨5, 0, 0⟩, true) else
  match Tryz.parted 32 s with
  | [w0, w1] => if w0 = [98, 114, 111, 107, 101, 110] then (⟨4, (digR w1).1, 0⟩, (digR w1).2) else (⟨0, 0, 0⟩, false)
  | [w0, w1, w2] => if w0 = [99, 117, 116] then (⟨1, (digR w1).1, (digR w2).1⟩, (digR w1).2 && (digR w2).2) else (⟨0, 0, 0⟩, false)
  | _ => (⟨0, 0, 0⟩, false)
theorem parts_cases (ps : List (List UInt8)) : (∃ w0 w1, ps = [w0, w1] ∧ w0 = [98, 114, 111, 107, 101, 110]) ∨ (∃ w0 w1, ps = [w0, w1] ∧ ¬ w0 = [98, 114, 111, 107, 101, 110]) ∨ (∃ w0 w1 w2, ps = [w0, w1, w2] ∧ w0 = [99, 117, 116]) ∨ (∃ w0 w1 w2, ps = [w0, w1, w2] ∧ ¬ w0 = [99, 117, 116]) ∨ (ps.length ≠ 2 ∧ ps.length ≠ 3) := by
  match ps with
  | [] => simp
  | [a] => simp
  | [a, b] => by_cases h : a = [98, 114, 111, 107, 101, 110] <;> simp [h]
  | [a, b, c] => by_cases h : a = [99, 117, 116] <;> simp [h]
  | a :: b :: c :: d :: r => simp
theorem bndR_else {s : List UInt8} (n1 : ¬ s = [108, 105, 103, 104, 116]) (n2 : ¬ s = [104, 101, 97, 118, 121]) (n3 : ¬ s = [100, 101, 97, 114]) (h2 : (Tryz.parted 32 s).length ≠ 2) (h3 : (Tryz.parted 32 s).length ≠ 3) : bndR s = (⟨0, 0, 0⟩, false) := by
  unfold bndR
  rw [if_neg n1, if_neg n2, if_neg n3]
  split
  · rename_i h; rw [h] at h2; simp at h2
  · rename_i h; rw [h] at h3; simp at h3
  · rfl

set_option maxHeartbeats 4000000 in
theorem bound_ok (s : List UInt8) (hs : s.length < 4294967281) : ACalls Tryz.prog 39 [.s (tx s)] [] (.ret (.tup [.agg [.s (.int .i64 (bndR s).1.r), .s (.int .i64 (bndR s).1.a), .s (.int .i64 (bndR s).1.c)], .s (.bool (bndR s).2)]) [] []) := by
  have shp := parts_cases (Tryz.parted 32 s)
  refine acalls_of_ew Tryz.func39 rfl rfl (by simp [Tryz.f39]) (rs := [.cell 2 52, .tmp 3]) rfl ?_
  refine EW.seq fun Ψ0 n0 x0 => ?_
  refine EW.region gs_nil ?_
  simp
  refine n0 _ ?_; clear n0 x0
  refine EW.seq fun Ψ1 n1 x1 => ?_
  refine EW.seq fun Ψ2 n2 x2 => ?_
  refine EW.region gs_nil ?_
  simp
  refine n2 _ ?_; clear n2 x2
  refine EW.block ?_
  refine EW.seq fun Ψ3 n3 x3 => ?_
  refine EW.region gs_nil ?_
  simp
  refine n3 _ ?_; clear n3 x3
  refine EW.cond (t := _) (by rfl) (fun hc12 => ?_) (fun hc12 => ?_)
  · have m1 : s = [108, 105, 103, 104, 116] := by simpa using hc12
    have hv : bndR s = (⟨2, 0, 0⟩, true) := by simp [bndR, m1]
    refine EW.seq fun Ψ4 n4 x4 => ?_
    refine EW.region gs_nil ?_
    simp
    refine n4 _ ?_; clear n4 x4
    refine EW.ret ?_
    refine x1 _ _ rfl ?_; clear n1 x1
    refine ⟨_, _, _, rfl, ?_, ?_, ?_, ?_, ?_⟩ <;> simp [hv]
  · have m1 : ¬ s = [108, 105, 103, 104, 116] := by simpa using hc12
    refine EW.seq fun Ψ5 n5 x5 => ?_
    refine EW.region gs_nil ?_
    simp
    refine n5 _ ?_; clear n5 x5
    refine EW.cond (t := _) (by rfl) (fun hc15 => ?_) (fun hc15 => ?_)
    · have m2 : s = [104, 101, 97, 118, 121] := by simpa using hc15
      have hv : bndR s = (⟨3, 0, 0⟩, true) := by simp [bndR, m2]
      refine EW.seq fun Ψ6 n6 x6 => ?_
      refine EW.region gs_nil ?_
      simp
      refine n6 _ ?_; clear n6 x6
      refine EW.ret ?_
      refine x1 _ _ rfl ?_; clear n1 x1
      refine ⟨_, _, _, rfl, ?_, ?_, ?_, ?_, ?_⟩ <;> simp [hv]
    · have m2 : ¬ s = [104, 101, 97, 118, 121] := by simpa using hc15
      refine EW.seq fun Ψ7 n7 x7 => ?_
      refine EW.region gs_nil ?_
      simp
      refine n7 _ ?_; clear n7 x7
      refine EW.cond (t := _) (by rfl) (fun hc18 => ?_) (fun hc18 => ?_)
      · have m3 : s = [100, 101, 97, 114] := by simpa using hc18
        have hv : bndR s = (⟨5, 0, 0⟩, true) := by simp [bndR, m3]
        refine EW.seq fun Ψ8 n8 x8 => ?_
        refine EW.region gs_nil ?_
        simp
        refine n8 _ ?_; clear n8 x8
        refine EW.ret ?_
        refine x1 _ _ rfl ?_; clear n1 x1
        refine ⟨_, _, _, rfl, ?_, ?_, ?_, ?_, ?_⟩ <;> simp [hv]
      · have m3 : ¬ s = [100, 101, 97, 114] := by simpa using hc18
        refine EW.skip ?_
        refine n1 _ ?_; clear n1 x1
        refine EW.seq fun Ψ9 n9 x9 => ?_
        refine EW.region (gs_cons (split_ok s 32 hs) gs_nil) ?_
        simp
        refine n9 _ ?_; clear n9 x9
        refine EW.seq fun Ψ10 n10 x10 => ?_
        refine EW.block ?_
        refine EW.seq fun Ψ11 n11 x11 => ?_
        rcases shp with ⟨w0, w1, hp, hq⟩ | ⟨w0, w1, hp, hq⟩ | ⟨w0, w1, w2, hp, hq⟩ | ⟨w0, w1, w2, hp, hq⟩ | ⟨h2, h3⟩
        · skip
          refine EW.region gs_nil ?_
          simp [hp, hq, eTx]
          refine n11 _ ?_; clear n11 x11
          refine EW.cond (t := _) (by rfl) (fun hc23 => ?_) (fun hc23 => ?_)
          · clear hc23
            have hv : bndR s = (⟨4, (digR w1).1, 0⟩, (digR w1).2) := by simp [bndR, m1, m2, m3, hp, hq]
            refine EW.seq fun Ψ12 n12 x12 => ?_
            refine EW.region (gs_cons (digit_ok w1) gs_nil) ?_
            simp [hp, eTx]
            refine n12 _ ?_; clear n12 x12
            refine EW.seq fun Ψ13 n13 x13 => ?_
            refine EW.region gs_nil ?_
            simp
            refine n13 _ ?_; clear n13 x13
            refine EW.ret ?_
            refine x10 _ _ rfl ?_; clear n10 x10
            refine ⟨_, _, _, rfl, ?_, ?_, ?_, ?_, ?_⟩ <;> simp [hv]
          · simp at hc23
        · skip
          refine EW.region gs_nil ?_
          simp [hp, hq, eTx]
          refine n11 _ ?_; clear n11 x11
          refine EW.cond (t := _) (by rfl) (fun hc23 => ?_) (fun hc23 => ?_)
          · simp at hc23
          · clear hc23
            refine EW.seq fun Ψ14 n14 x14 => ?_
            refine EW.region gs_nil ?_
            simp [hp, hq, eTx]
            refine n14 _ ?_; clear n14 x14
            refine EW.cond (t := _) (by rfl) (fun hc43 => ?_) (fun hc43 => ?_)
            · simp at hc43
            · clear hc43
              have hv : bndR s = (⟨0, 0, 0⟩, false) := by simp [bndR, m1, m2, m3, hp, hq]
              refine EW.skip ?_
              refine n10 _ ?_; clear n10 x10
              refine EW.seq fun Ψ15 n15 x15 => ?_
              refine EW.region gs_nil ?_
              simp
              refine n15 _ ?_; clear n15 x15
              refine EW.ret ?_
              refine ⟨_, _, _, rfl, ?_, ?_, ?_, ?_, ?_⟩ <;> simp [hv]
        · skip
          refine EW.region gs_nil ?_
          simp [hp, hq, eTx]
          refine n11 _ ?_; clear n11 x11
          refine EW.cond (t := _) (by rfl) (fun hc23 => ?_) (fun hc23 => ?_)
          · simp at hc23
          · clear hc23
            refine EW.seq fun Ψ16 n16 x16 => ?_
            refine EW.region gs_nil ?_
            simp [hp, hq, eTx]
            refine n16 _ ?_; clear n16 x16
            refine EW.cond (t := _) (by rfl) (fun hc43 => ?_) (fun hc43 => ?_)
            · clear hc43
              have hv : bndR s = (⟨1, (digR w1).1, (digR w2).1⟩, (digR w1).2 && (digR w2).2) := by simp [bndR, m1, m2, m3, hp, hq]
              refine EW.seq fun Ψ17 n17 x17 => ?_
              refine EW.region (gs_cons (digit_ok w1) gs_nil) ?_
              simp [hp, eTx]
              refine n17 _ ?_; clear n17 x17
              refine EW.seq fun Ψ18 n18 x18 => ?_
              refine EW.region (gs_cons (digit_ok w2) gs_nil) ?_
              simp [hp, eTx]
              refine n18 _ ?_; clear n18 x18
              refine EW.seq fun Ψ19 n19 x19 => ?_
              cases q1 : (digR w1).2
              · skip
                refine EW.region gs_nil ?_
                simp [q1]
                simp only [q1, Bool.false_and] at hv
                refine n19 _ ?_; clear n19 x19
                refine EW.ret ?_
                refine x10 _ _ rfl ?_; clear n10 x10
                refine ⟨_, _, _, rfl, ?_, ?_, ?_, ?_, ?_⟩ <;> simp [hv]
              · skip
                refine EW.region gs_nil ?_
                simp [q1]
                simp only [q1, Bool.true_and] at hv
                refine n19 _ ?_; clear n19 x19
                refine EW.ret ?_
                refine x10 _ _ rfl ?_; clear n10 x10
                refine ⟨_, _, _, rfl, ?_, ?_, ?_, ?_, ?_⟩ <;> simp [hv]
            · simp at hc43
        · skip
          refine EW.region gs_nil ?_
          simp [hp, hq, eTx]
          refine n11 _ ?_; clear n11 x11
          refine EW.cond (t := _) (by rfl) (fun hc23 => ?_) (fun hc23 => ?_)
          · simp at hc23
          · clear hc23
            refine EW.seq fun Ψ20 n20 x20 => ?_
            refine EW.region gs_nil ?_
            simp [hp, hq, eTx]
            refine n20 _ ?_; clear n20 x20
            refine EW.cond (t := _) (by rfl) (fun hc43 => ?_) (fun hc43 => ?_)
            · simp at hc43
            · clear hc43
              have hv : bndR s = (⟨0, 0, 0⟩, false) := by simp [bndR, m1, m2, m3, hp, hq]
              refine EW.skip ?_
              refine n10 _ ?_; clear n10 x10
              refine EW.seq fun Ψ21 n21 x21 => ?_
              refine EW.region gs_nil ?_
              simp
              refine n21 _ ?_; clear n21 x21
              refine EW.ret ?_
              refine ⟨_, _, _, rfl, ?_, ?_, ?_, ?_, ?_⟩ <;> simp [hv]
        · skip
          refine EW.region gs_nil ?_
          simp [h2, h3, show ¬ ((Tryz.parted 32 s).length : Int) = 2 by omega]
          refine n11 _ ?_; clear n11 x11
          refine EW.cond (t := _) (by rfl) (fun hc23 => ?_) (fun hc23 => ?_)
          · simp at hc23
          · clear hc23
            refine EW.seq fun Ψ22 n22 x22 => ?_
            refine EW.region gs_nil ?_
            simp [h2, h3, show ¬ ((Tryz.parted 32 s).length : Int) = 3 by omega]
            refine n22 _ ?_; clear n22 x22
            refine EW.cond (t := _) (by rfl) (fun hc43 => ?_) (fun hc43 => ?_)
            · simp at hc43
            · clear hc43
              have hv : bndR s = (⟨0, 0, 0⟩, false) := bndR_else m1 m2 m3 h2 h3
              refine EW.skip ?_
              refine n10 _ ?_; clear n10 x10
              refine EW.seq fun Ψ23 n23 x23 => ?_
              refine EW.region gs_nil ?_
              simp
              refine n23 _ ?_; clear n23 x23
              refine EW.ret ?_
              refine ⟨_, _, _, rfl, ?_, ?_, ?_, ?_, ?_⟩ <;> simp [hv]

end Go.Ev
end

section
set_option linter.all false
open Go Go.Ev Go.Proofs
namespace Go.Ev
set_option linter.unusedSimpArgs false
set_option linter.unusedVariables false


@[simp] theorem eTx_gE (l : List (List UInt8)) (i : Nat) (h : i < (eTx l).length) : (eTx l)[i] = D.s (tx (l[i]'(by simpa using h))) := by simp [eTx]
theorem parted_len (c : UInt8) : ∀ l : List UInt8, (Tryz.parted c l).length ≤ l.length + 1
  | [] => by simp [Tryz.parted]
  | b :: l => by
    have ih := parted_len c l
    rw [Tryz.parted]
    split
    · simp; omega
    · split
      · rename_i p r h; rw [h] at ih; simp at ih ⊢; omega
      · simp
theorem parted_mem (c : UInt8) : ∀ (l p : List UInt8), p ∈ Tryz.parted c l → p.length ≤ l.length ∧ c ∉ p
  | [], p, h => by simp [Tryz.parted] at h; subst h; simp
  | b :: l, p, h => by
    have ih := parted_mem c l
    rw [Tryz.parted] at h
    split at h
    · rcases List.mem_cons.1 h with rfl | h
      · simp
      · have := ih p h; simp; exact ⟨by omega, this.2⟩
    · rename_i hb
      split at h
      · rename_i q r e
        rw [e] at ih
        rcases List.mem_cons.1 h with rfl | h
        · have := ih q (by simp); simp; exact ⟨by omega, fun e => hb e.symm, this.2⟩
        · have := ih p (by simp [h]); simp; exact ⟨by omega, this.2⟩
      · simp at h; subst h; simp; exact fun e => hb e.symm
/-- The bounds of some lines; or which line is none. -/
def prsG : List (List UInt8) → Nat → List MBd → List MBd ⊕ Nat
  | [], _, acc => .inl acc
  | s :: l, i, acc => if (bndR s).2 = true then prsG l (i + 1) (acc ++ [(bndR s).1]) else .inr (i + 1)
/-- What is read of a text: the proof, the line, the error. -/
def prsR (ls : List (List UInt8)) (la : List UInt8) : List MBd × Int × Int :=
  match prsG ls 0 [] with
  | .inr i => ([], i, 2)
  | .inl acc => if la = [] then (if (reaF acc []).2 = 0 then (acc, 0, 0) else ([], 0, (reaF acc []).2)) else ([], ls.length + 1, 2)
def prS (ls : List (List UInt8)) (la : List UInt8) (p : Nat × List MBd) : St :=
  St.lit 60 [(2, .sl false false .Z (.tok 42) p.2.length (eBds p.2)), (5, .sl true true .U .no (ls.length + 1) (eTx (ls ++ [la]))), (6, .s (.int .i64 ls.length)), (23, .sl true true .U .no ls.length (eTx ls)), (24, .s (.int .i64 ls.length)), (25, .s (.int .i64 p.1))] [] [] [(42, (p.2.length, 3))]
attribute [simp] prS

set_option maxHeartbeats 4000000 in
theorem parse_ok (t : List UInt8) (ls : List (List UInt8)) (la : List UInt8) (ht : t.length ≤ 6000) (hp : Tryz.parted 10 t = ls ++ [la]) : ACalls Tryz.prog 13 [.s (tx t)] [] (.ret (.tup [.sl false false .U .no (prsR ls la).1.length (eBds (prsR ls la).1), .s (.int .i64 (prsR ls la).2.1), .s (.int .i64 (prsR ls la).2.2)]) [] []) := by
  have hn : ls.length ≤ 6000 := by have := parted_len 10 t; rw [hp] at this; simp at this; omega
  have hm : ∀ p ∈ ls, p.length < 4294967281 := fun p h => by have := (parted_mem 10 t p (by rw [hp]; simp [h])).1; omega
  have ew : IntKind.i64.wrap (ls.length : Int) = ls.length := wr_small (by omega) (by omega)
  have hsz : (⟨t.toArray⟩ : ByteArray).size = t.length := by simp [ByteArray.size]
  refine acalls_of_ew Tryz.func13 rfl rfl (by simp [Tryz.f13]) (rs := [.tmp 2, .tmp 3, .tmp 4]) rfl ?_
  refine EW.seq fun Ψ0 n0 x0 => ?_
  refine EW.region gs_nil ?_
  simp
  refine n0 _ ?_; clear n0 x0
  refine EW.seq fun Ψ1 n1 x1 => ?_
  refine EW.seq fun Ψ2 n2 x2 => ?_
  refine EW.region gs_nil ?_
  simp
  refine n2 _ ?_; clear n2 x2
  refine EW.cond (t := _) (by rfl) (fun hc15 => ?_) (fun hc15 => ?_)
  · simp [hsz] at hc15; omega
  · clear hc15
    refine EW.skip ?_
    refine n1 _ ?_; clear n1 x1
    refine EW.seq fun Ψ3 n3 x3 => ?_
    refine EW.region (gs_cons (split_ok t 10 (by omega)) gs_nil) ?_
    simp [hp]
    refine n3 _ ?_; clear n3 x3
    refine EW.seq fun Ψ4 n4 x4 => ?_
    refine EW.region gs_nil ?_
    simp [hp, ew]
    refine n4 _ ?_; clear n4 x4
    refine EW.seq fun Ψ5 n5 x5 => ?_
    refine EW.seq fun Ψ6 n6 x6 => ?_
    refine EW.region gs_nil ?_
    simp [hp, ew, eTx, show (ls.length : Int) ≤ (ls.length : Int) + 1 by omega]
    refine n6 _ ?_; clear n6 x6
    refine EW.block ?_
    refine EW.loopA (prS ls la) (fun p => p.1 ≤ ls.length ∧ p.2.length = p.1 ∧ prsG (ls.drop p.1) p.1 p.2 = prsG ls 0 []) (fun p => ls.length - p.1) (0, []) (St.le_lit rfl (by simp [eTx]) (by simp) (by simp) (by simp) (by simp)) ?_ fun p hk => ?_
    · simp
    obtain ⟨k, acc⟩ := p
    obtain ⟨hk, hal, hw⟩ := hk
    simp only at hk hal hw
    refine EW.seq fun Ψ7 n7 x7 => ?_
    refine EW.region gs_nil ?_
    simp
    refine n7 _ ?_; clear n7 x7
    refine EW.seq fun Ψ8 n8 x8 => ?_
    refine EW.cond (t := _) (by rfl) (fun hc26 => ?_) (fun hc26 => ?_)
    · simp at hc26
      have hdr : ls.drop k = ls[k] :: ls.drop (k + 1) := List.drop_eq_getElem_cons hc26
      have hmk := hm ls[k] (List.getElem_mem hc26)
      have e1 : ls[k]? = some ls[k] := List.getElem?_eq_getElem hc26
      refine EW.skip ?_
      refine n8 _ ?_; clear n8 x8
      refine EW.seq fun Ψ9 n9 x9 => ?_
      refine EW.block ?_
      refine EW.seq fun Ψ10 n10 x10 => ?_
      refine EW.region gs_nil ?_
      simp [hc26, e1]
      refine n10 _ ?_; clear n10 x10
      refine EW.seq fun Ψ11 n11 x11 => ?_
      refine EW.region (gs_cons (bound_ok ls[k] hmk) gs_nil) ?_
      simp
      refine n11 _ ?_; clear n11 x11
      refine EW.seq fun Ψ12 n12 x12 => ?_
      refine EW.seq fun Ψ13 n13 x13 => ?_
      refine EW.region gs_nil ?_
      simp
      refine n13 _ ?_; clear n13 x13
      refine EW.cond (t := _) (by rfl) (fun hc36 => ?_) (fun hc36 => ?_)
      · have q36 : (bndR ls[k]).2 = false := by simpa using hc36
        have hv : prsR ls la = ([], ((k + 1 : Nat) : Int), 2) := by unfold prsR; rw [← hw, hdr, prsG, if_neg (by simp [q36])]
        have e3 : IntKind.i64.wrap ((k : Int) + 1) = k + 1 := wr_small (by omega) (by omega)
        refine EW.seq fun Ψ14 n14 x14 => ?_
        refine EW.region gs_nil ?_
        simp
        refine n14 _ ?_; clear n14 x14
        refine EW.ret ?_
        refine x12 _ _ rfl ?_; clear n12 x12
        refine x9 _ _ rfl ?_; clear n9 x9
        refine x5 _ _ rfl ?_; clear n5 x5
        refine ⟨_, _, _, rfl, ?_, ?_, ?_, ?_, ?_⟩ <;> simp [hv, e3]
      · have q36 : (bndR ls[k]).2 = true := by simpa using hc36
        refine EW.skip ?_
        refine n12 _ ?_; clear n12 x12
        refine EW.hide fun Ψ15 n15 => ?_
        refine EW.region gs_nil ?_
        simp [hal, show (k + 1) * 24 ≤ 140737488355328 by omega]
        refine n15 _ _ ?_; clear n15
        refine n9 _ ?_; clear n9 x9
        refine EW.hide fun Ψ16 n16 => ?_
        refine EW.region gs_nil ?_
        simp
        refine n16 _ _ ?_; clear n16
        have e3 : IntKind.i64.wrap ((k : Int) + 1) = k + 1 := wr_small (by omega) (by omega)
        have eap : eBds (acc ++ [(bndR ls[k]).1]) = eBds acc ++ [D.s (.int .i64 (bndR ls[k]).1.r), D.s (.int .i64 (bndR ls[k]).1.a), D.s (.int .i64 (bndR ls[k]).1.c)] := by unfold eBds; rw [List.flatMap_append]; rfl
        refine ⟨(k + 1, acc ++ [(bndR ls[k]).1]), (St.le_lit rfl (by simp [e3, hal, eap]) (by simp) (by simp) (by simp [hal]) (by simp)), ?_, ?_⟩
        · refine ⟨by omega, by simp [hal], ?_⟩
          rw [← hw, hdr, prsG, if_pos (by simpa using q36)]
        · simp; omega
    · simp at hc26
      have hkl : k = ls.length := by omega
      have hG : prsG ls 0 [] = .inl acc := by rw [← hw, hkl, List.drop_length]; rfl
      refine EW.exit ?_
      refine x8 _ _ rfl ?_; clear n8 x8
      refine n5 _ ?_; clear n5 x5
      refine EW.seq fun Ψ17 n17 x17 => ?_
      refine EW.seq fun Ψ18 n18 x18 => ?_
      refine EW.region gs_nil ?_
      simp [eTx, show (ls.length : Int) < (ls.length : Int) + 1 by omega]
      refine n18 _ ?_; clear n18 x18
      refine EW.cond (t := _) (by rfl) (fun hc48 => ?_) (fun hc48 => ?_)
      · have q48 : ¬ la = [] := by simpa using hc48
        have hv : prsR ls la = ([], (ls.length : Int) + 1, 2) := by unfold prsR; rw [hG]; simp [q48]
        have e3 : IntKind.i64.wrap ((ls.length : Int) + 1) = ls.length + 1 := wr_small (by omega) (by omega)
        refine EW.seq fun Ψ19 n19 x19 => ?_
        refine EW.region gs_nil ?_
        simp
        refine n19 _ ?_; clear n19 x19
        refine EW.ret ?_
        refine x17 _ _ rfl ?_; clear n17 x17
        refine ⟨_, _, _, rfl, ?_, ?_, ?_, ?_, ?_⟩ <;> simp [hv, e3]
      · have q48 : la = [] := by simpa using hc48
        refine EW.skip ?_
        refine n17 _ ?_; clear n17 x17
        refine EW.seq fun Ψ20 n20 x20 => ?_
        refine EW.seq fun Ψ21 n21 x21 => ?_
        refine EW.region (gs_cons (reasons_ok acc (by omega)) gs_nil) ?_
        simp
        refine n21 _ ?_; clear n21 x21
        refine EW.seq fun Ψ22 n22 x22 => ?_
        refine EW.region gs_nil ?_
        simp
        refine n22 _ ?_; clear n22 x22
        refine EW.cond (t := _) (by rfl) (fun hc57 => ?_) (fun hc57 => ?_)
        · have q57 : ¬ (reaF acc []).2 = 0 := by simpa using hc57
          have hv : prsR ls la = ([], 0, (reaF acc []).2) := by unfold prsR; rw [hG]; simp [q48, q57]
          have e3 : True := trivial
          refine EW.seq fun Ψ23 n23 x23 => ?_
          refine EW.region gs_nil ?_
          simp
          refine n23 _ ?_; clear n23 x23
          refine EW.ret ?_
          refine x20 _ _ rfl ?_; clear n20 x20
          refine ⟨_, _, _, rfl, ?_, ?_, ?_, ?_, ?_⟩ <;> simp [hv, e3]
        · have q57 : (reaF acc []).2 = 0 := by simpa using hc57
          have hv : prsR ls la = (acc, 0, 0) := by unfold prsR; rw [hG]; simp [q48, q57]
          have e3 : True := trivial
          refine EW.skip ?_
          refine n20 _ ?_; clear n20 x20
          refine EW.seq fun Ψ24 n24 x24 => ?_
          refine EW.region gs_nil ?_
          simp
          refine n24 _ ?_; clear n24 x24
          refine EW.ret ?_
          refine ⟨_, _, _, rfl, ?_, ?_, ?_, ?_, ?_⟩ <;> simp [hv, e3]

end Go.Ev
end

section
set_option linter.all false
set_option linter.unusedVariables false
set_option linter.unusedSimpArgs false
namespace Go.Ev
open Go Go.Proofs

/-! ### What is written is read again, and what is read is written as it was -/
def joinL (c : UInt8) : List (List UInt8) → List UInt8
  | [] => []
  | [p] => p
  | p :: q :: r => p ++ c :: joinL c (q :: r)
theorem parted_join (c : UInt8) : ∀ l, joinL c (Tryz.parted c l) = l
  | [] => rfl
  | b :: l => by
    have ih := parted_join c l
    have hne := Tryz.parted_ne c l
    rw [Tryz.parted]
    split
    · rename_i hb
      cases hp : Tryz.parted c l with
      | nil => exact absurd hp hne
      | cons p r => rw [hp] at ih; rw [joinL, ih, hb]; rfl
    · split
      · rename_i p r hp
        rw [hp] at ih
        cases r with
        | nil => simp only [joinL] at ih ⊢; rw [ih]
        | cons q r => simp only [joinL] at ih ⊢; rw [List.cons_append, ih]
      · rename_i hp; exact absurd hp hne
theorem join_lines (ls : List (List UInt8)) : joinL 10 (ls ++ [[]]) = ls.flatMap fun s => s ++ [10] := by
  induction ls with
  | nil => rfl
  | cons p ls ih =>
    rw [List.flatMap_cons, ← ih]
    cases ls with
    | nil => simp [joinL]
    | cons q r => simp [joinL]
theorem lines_parted : ∀ (ls : List (List UInt8)), (∀ s ∈ ls, (10 : UInt8) ∉ s) → Tryz.parted 10 (ls.flatMap fun s => s ++ [10]) = ls ++ [[]]
  | [], _ => rfl
  | s :: ls, h => by
    rw [List.flatMap_cons, List.append_assoc, List.singleton_append, Tryz.parted_app 10 _ s (h s (by simp)), lines_parted ls fun q hq => h q (by simp [hq])]
    rfl
theorem dgB_lt {a : Nat} (h : a < 10) : dgB (a : Int) = [48 + UInt8.ofNat a] := by rw [dgB, Int.toNat_natCast, dig1 h]
/-- The bounds that are valid. -/
theorem valid_cases {b : MBd} (h : bndErr b = 0) : (∃ a c : Nat, a < 4 ∧ c < 7 ∧ b = ⟨1, a, c⟩) ∨ b = ⟨2, 0, 0⟩ ∨ b = ⟨3, 0, 0⟩ ∨ (∃ a : Nat, a < 3 ∧ b = ⟨4, a, 0⟩) ∨ b = ⟨5, 0, 0⟩ := by
  obtain ⟨r, a, c⟩ := b
  unfold bndErr at h
  simp only at h
  split at h
  · rename_i h1
    split at h
    · rename_i h2
      simp only [Bool.and_eq_true, inB, decide_eq_true_eq] at h2
      refine .inl ⟨a.toNat, c.toNat, by omega, by omega, ?_⟩
      rw [h1, Int.toNat_of_nonneg h2.1.1, Int.toNat_of_nonneg h2.2.1]
    · cases h
  · split at h
    · rename_i h1
      split at h
      · rename_i h2
        simp only [Bool.and_eq_true, inB, decide_eq_true_eq] at h2
        refine .inr (.inr (.inr (.inl ⟨a.toNat, by omega, ?_⟩)))
        rw [h1, Int.toNat_of_nonneg h2.1.1, show c = 0 by omega]
      · cases h
    · split at h
      · rename_i h1
        split at h
        · rename_i h2
          simp only [Bool.and_eq_true, inB, decide_eq_true_eq] at h2
          have ea : a = 0 := by omega
          have ec : c = 0 := by omega
          subst ea; subst ec
          rcases h1 with h1 | h1 | h1 <;> subst h1
          · exact .inr (.inl rfl)
          · exact .inr (.inr (.inl rfl))
          · exact .inr (.inr (.inr (.inr rfl)))
        · cases h
      · cases h
set_option maxRecDepth 100000 in
theorem write_cut : ∀ a : Fin 4, ∀ c : Fin 7, bndR [99, 117, 116, 32, 48 + UInt8.ofNat a.val, 32, 48 + UInt8.ofNat c.val] = (⟨1, (a.val : Int), (c.val : Int)⟩, true) ∧ (10 : UInt8) ∉ [99, 117, 116, 32, 48 + UInt8.ofNat a.val, 32, 48 + UInt8.ofNat c.val] := by decide
set_option maxRecDepth 100000 in
theorem write_broken : ∀ a : Fin 3, bndR [98, 114, 111, 107, 101, 110, 32, 48 + UInt8.ofNat a.val] = (⟨4, (a.val : Int), 0⟩, true) ∧ (10 : UInt8) ∉ [98, 114, 111, 107, 101, 110, 32, 48 + UInt8.ofNat a.val] := by decide
theorem write_read {b : MBd} (h : bndErr b = 0) : bndR (bodyB b) = (b, true) ∧ (10 : UInt8) ∉ bodyB b ∧ (bodyB b).length ≤ 8 := by
  rcases valid_cases h with ⟨a, c, ha, hc, rfl⟩ | rfl | rfl | ⟨a, ha, rfl⟩ | rfl
  · have e : bodyB ⟨1, a, c⟩ = [99, 117, 116, 32, 48 + UInt8.ofNat a, 32, 48 + UInt8.ofNat c] := by
      rw [bodyB, if_pos rfl, dgB_lt (by omega), dgB_lt (by omega)]; rfl
    have := write_cut ⟨a, ha⟩ ⟨c, hc⟩
    rw [e]
    exact ⟨this.1, this.2, by simp⟩
  · exact ⟨by rfl, by decide, by decide⟩
  · exact ⟨by rfl, by decide, by decide⟩
  · have e : bodyB ⟨4, a, 0⟩ = [98, 114, 111, 107, 101, 110, 32, 48 + UInt8.ofNat a] := by
      rw [bodyB, if_neg (by simp), if_neg (by simp), if_neg (by simp), if_pos rfl, dgB_lt (by omega)]; rfl
    have := write_broken ⟨a, ha⟩
    rw [e]
    exact ⟨this.1, this.2, by simp⟩
  · exact ⟨by rfl, by decide, by decide⟩
theorem u8_dig {x : UInt8} (h1 : 48 ≤ x.toNat) (h2 : x.toNat ≤ 57) : 48 + UInt8.ofNat (x.toNat - 48) = x := by
  apply UInt8.toNat_inj.1
  simp [UInt8.toNat_add, UInt8.toNat_ofNat]
  omega
theorem digR_true {w : List UInt8} (h : (digR w).2 = true) : ∃ x : UInt8, w = [x] ∧ 48 ≤ x.toNat ∧ x.toNat ≤ 57 ∧ (digR w).1 = ((x.toNat - 48 : Nat) : Int) := by
  unfold digR at h ⊢
  split at h
  · rename_i x
    split at h
    · rename_i hx
      refine ⟨x, rfl, hx.1, hx.2, ?_⟩
      rw [if_pos hx]
      show (x.toNat : Int) - 48 = _
      omega
    · cases h
  · cases h
theorem digR_body {w : List UInt8} (h : (digR w).2 = true) : dgB (digR w).1 = w := by
  obtain ⟨x, rfl, h1, h2, e⟩ := digR_true h
  rw [e, dgB_lt (by omega), u8_dig h1 h2]
theorem read_write {s : List UInt8} (h : (bndR s).2 = true) : bodyB (bndR s).1 = s := by
  unfold bndR at h ⊢
  split at h
  · rename_i e; rw [if_pos e, e]; rfl
  · rename_i n1
    rw [if_neg n1]
    split at h
    · rename_i e; rw [if_pos e, e]; rfl
    · rename_i n2
      rw [if_neg n2]
      split at h
      · rename_i e; rw [if_pos e, e]; rfl
      · rename_i n3
        rw [if_neg n3]
        have hj := parted_join 32 s
        split at h
        · rename_i w0 w1 hp
          rw [hp] at hj
          split at h
          · rename_i e0
            rw [if_pos e0]
            simp only at h ⊢
            rw [bodyB, if_neg (by simp), if_neg (by simp), if_neg (by simp), if_pos rfl]
            simp only
            rw [digR_body h, ← hj, e0]
            rfl
          · cases h
        · rename_i w0 w1 w2 hp
          rw [hp] at hj
          split at h
          · rename_i e0
            rw [if_pos e0]
            simp only [Bool.and_eq_true] at h ⊢
            rw [bodyB, if_pos rfl]
            simp only
            rw [digR_body h.1, digR_body h.2, ← hj, e0]
            simp [joinL]
          · cases h
        · cases h
theorem prsG_inl : ∀ (ls : List (List UInt8)) (i : Nat) (acc acc' : List MBd), prsG ls i acc = .inl acc' → acc' = acc ++ ls.map (fun s => (bndR s).1) ∧ ∀ s ∈ ls, (bndR s).2 = true
  | [], i, acc, acc', h => by simp only [prsG, Sum.inl.injEq] at h; subst h; simp
  | s :: ls, i, acc, acc', h => by
    rw [prsG] at h
    split at h
    · rename_i hs
      obtain ⟨h1, h2⟩ := prsG_inl ls (i + 1) _ _ h
      refine ⟨by rw [h1]; simp, fun q hq => ?_⟩
      rcases List.mem_cons.1 hq with rfl | hq
      · exact hs
      · exact h2 q hq
    · cases h
theorem prsG_all : ∀ (ls : List (List UInt8)) (i : Nat) (acc : List MBd), (∀ s ∈ ls, (bndR s).2 = true) → prsG ls i acc = .inl (acc ++ ls.map fun s => (bndR s).1)
  | [], i, acc, _ => by simp [prsG]
  | s :: ls, i, acc, h => by
    rw [prsG, if_pos (h s (by simp)), prsG_all ls (i + 1) _ fun q hq => h q (by simp [hq])]
    simp
theorem reaF_0 : ∀ (l : List MBd) (acc : List UInt8), (reaF l acc).2 = 0 → (∀ b ∈ l, bndErr b = 0) ∧ (reaF l acc).1 = acc ++ l.flatMap lineB
  | [], acc, _ => by simp [reaF]
  | b :: l, acc, h => by
    rw [reaF] at h ⊢
    split at h
    · rename_i hb
      obtain ⟨h1, h2⟩ := reaF_0 l _ h
      rw [if_pos hb]
      refine ⟨fun q hq => ?_, by rw [h2]; simp⟩
      rcases List.mem_cons.1 hq with rfl | hq
      · exact hb
      · exact h1 q hq
    · rename_i hb; exact absurd h hb
theorem reaF_all : ∀ (l : List MBd) (acc : List UInt8), (∀ b ∈ l, bndErr b = 0) → reaF l acc = (acc ++ l.flatMap lineB, 0)
  | [], acc, _ => by simp [reaF]
  | b :: l, acc, h => by
    rw [reaF, if_pos (h b (by simp)), reaF_all l _ fun q hq => h q (by simp [hq])]
    simp
theorem lines_of (p : List MBd) : (p.map bodyB).flatMap (fun s => s ++ [10]) = p.flatMap lineB := by
  rw [List.flatMap_map]; rfl
/-- A valid proof that is written is read again. -/
theorem parse_written {p : List MBd} (h : ∀ b ∈ p, bndErr b = 0) : Tryz.parted 10 (p.flatMap lineB) = p.map bodyB ++ [[]] ∧ prsR (p.map bodyB) [] = (p, 0, 0) := by
  constructor
  · rw [← lines_of]
    refine lines_parted _ fun s hs => ?_
    obtain ⟨b, hb, rfl⟩ := List.mem_map.1 hs
    exact (write_read (h b hb)).2.1
  · have hG : prsG (p.map bodyB) 0 [] = .inl p := by
      rw [prsG_all _ _ _ fun s hs => by
        obtain ⟨b, hb, rfl⟩ := List.mem_map.1 hs
        rw [(write_read (h b hb)).1]]
      rw [List.nil_append, List.map_map]
      congr 1
      have : ∀ b ∈ p, ((fun s => (bndR s).1) ∘ bodyB) b = b := fun b hb => by simp only [Function.comp, (write_read (h b hb)).1]
      conv => rhs; rw [← List.map_id p]
      exact List.map_congr_left this
    unfold prsR
    rw [hG]
    simp only [if_true]
    rw [reaF_all p [] h]
    simp
/-- What is read is written as it was. -/
theorem written_parse {t : List UInt8} {ls : List (List UInt8)} {la : List UInt8} (hp : Tryz.parted 10 t = ls ++ [la]) (h : (prsR ls la).2.2 = 0) : reaF (prsR ls la).1 [] = (t, 0) ∧ (prsR ls la).1.length = ls.length := by
  unfold prsR at h ⊢
  cases hG : prsG ls 0 [] with
  | inr i => rw [hG] at h; cases h
  | inl acc =>
    rw [hG] at h
    simp only at h ⊢
    split at h
    · rename_i hl
      rw [if_pos hl]
      split at h
      · rename_i h0
        rw [if_pos h0]
        simp only
        obtain ⟨e1, e2⟩ := prsG_inl ls 0 [] acc hG
        obtain ⟨e3, e4⟩ := reaF_0 acc [] h0
        subst hl
        have hj := parted_join 10 t
        rw [hp, join_lines] at hj
        refine ⟨?_, by rw [e1]; simp⟩
        rw [reaF_all acc [] e3, List.nil_append]
        rw [← hj, e1, List.nil_append, ← lines_of, List.map_map]
        have : ls.map (bodyB ∘ fun s => (bndR s).1) = ls := by
          conv => rhs; rw [← List.map_id ls]
          exact List.map_congr_left fun s hs => read_write (e2 s hs)
        rw [this]
      · rename_i h0
        simp only at h
        exact absurd h h0
    · cases h
end Go.Ev
end

section
set_option linter.all false
set_option linter.unusedVariables false
set_option linter.unusedSimpArgs false
namespace Go.Ev
open Go Go.Proofs

/-! ### The bounds of a made proof -/
theorem brokL_lt (o : MOrd) (x : List (Int × Int)) : ∀ (n k j : Nat), brokL o x n k = some j → k ≤ j ∧ j < k + n
  | 0, _, _, h => by cases h
  | n + 1, k, j, h => by
    rw [brokL] at h
    split at h
    · cases h; omega
    · have := brokL_lt o x n (k + 1) j h; omega
theorem bnd_ok1 {i m : Int} (h1 : 0 ≤ i ∧ i ≤ 3) (h2 : 0 ≤ m ∧ m ≤ 6) : bndErr ⟨1, i, m⟩ = 0 := by
  simp [bndErr, inB, h1, h2]
theorem bnd_ok4 {i : Int} (h1 : 0 ≤ i ∧ i ≤ 2) : bndErr ⟨4, i, 0⟩ = 0 := by
  simp [bndErr, inB, h1]
theorem plain_valid {o : MOrd} (k : OkO o) (pr : Int) : ∀ (n : Nat) (x : List (Int × Int)), BX o x → ∀ p, plainL o pr n x = some p → ∀ b ∈ p, bndErr b = 0
  | 0, x, _, p, h => by simp [plainL] at h
  | n + 1, x, bx, p, h => by
    have hbx := BX.bx k bx
    rw [plainL] at h
    split at h
    · cases h; intro b hb; simp at hb; subst hb; rfl
    split at h
    · cases h; intro b hb; simp at hb; subst hb; rfl
    split at h
    · rename_i g
      cases h; intro b hb; simp at hb; subst hb
      unfold brokI at g
      unfold brokA
      cases hv : brokV o x with
      | none => rw [hv] at g; cases g
      | some j =>
        have := brokL_lt o x _ _ _ hv
        have := k.nl
        exact bnd_ok4 (by simp only; omega)
    split at h
    · cases h; intro b hb; simp at hb; subst hb; rfl
    split at h
    · cases h
    rename_i g5
    obtain ⟨f1, p0, f2, f3⟩ := firstD_lt x g5
    have hp0 := okBx_get hbx f2
    have hlt : firstD x < o.bins.length := by
      rcases Nat.lt_or_ge (firstD x) o.bins.length with h | h
      · exact h
      · have := (okX_get bx.ok f2).2 (by omega)
        rw [this] at f3
        exact absurd rfl f3
    obtain ⟨q, hq, h6⟩ := (okX_get bx.ok f2).1 hlt
    have hg := (k.bin q hq).g
    have hmid := midB_eq hbx f2
    have hw : wr (midB x + 1) = midB x + 1 := wr_small (by omega) (by omega)
    rw [hw] at h
    have b1 := BX.hi k bx f2 (v := midB x) hlt (by omega) (by omega)
    have b2 := BX.lo k bx f2 (v := midB x + 1) hlt (by omega) (by omega)
    split at h
    · rename_i a b hA hB
      cases h
      have v1 := plain_valid k pr n _ b1 a hA
      have v2 := plain_valid k pr n _ b2 b hB
      have hnb := k.nb
      intro c hc
      rcases List.mem_cons.1 hc with rfl | hc
      · exact bnd_ok1 (by omega) (by omega)
      · rcases List.mem_append.1 hc with hc | hc
        · exact v1 c hc
        · exact v2 c hc
    · cases h
theorem prv_valid {o : MOrd} (k : OkO o) (pr : Int) : ∀ b ∈ prvL o pr, bndErr b = 0 := by
  unfold prvL proveN
  split
  · cases h : plainL o pr 41 (wholeB o) with
    | none => simp
    | some p =>
      intro b hb
      exact plain_valid k pr 41 _ (whole_X k) p h b (by simpa using hb)
  · simp
theorem volX_le3 : ∀ (x : List (Int × Int)), (∀ p ∈ x, 0 ≤ p.1 ∧ p.2 ≤ 3) → volX x ≤ 4 ^ x.length
  | [], _ => by simp [volX]
  | p :: x, h => by
    have ih := volX_le3 x fun q hq => h q (by simp [hq])
    have hp := h p (by simp)
    rw [volX, List.length_cons, Nat.pow_succ, Nat.mul_comm (4 ^ x.length)]
    exact Nat.mul_le_mul (by omega) ih
theorem prv_short {o : MOrd} (m : MkO 4 3 3 o) (pr : Int) : (prvL o pr).length ≤ 511 := by
  have k := m.ok (by decide) (by decide) (by decide)
  have bx := whole_X k
  have hv : volX (wholeB o) ≤ 256 := by
    have h := volX_le3 (wholeB o) fun p hp => by
      obtain ⟨i, hi⟩ := List.getElem?_of_mem hp
      obtain ⟨a, c⟩ := okX_get bx.ok hi
      by_cases h : i < o.bins.length
      · obtain ⟨q, hq, r⟩ := a h
        have := (m.bin q hq).g
        omega
      · rw [c h]; exact ⟨Int.le_refl _, by decide⟩
    rw [bx.len] at h
    exact h
  unfold prvL proveN
  split
  · cases h : plainL o pr 41 (wholeB o) with
    | none => simp
    | some p =>
      have := plain_vol k pr 41 _ bx p h
      simp only [Option.getD_some]
      omega
  · simp
theorem text_short : ∀ (p : List MBd), (∀ b ∈ p, bndErr b = 0) → (p.flatMap lineB).length ≤ 9 * p.length
  | [], _ => by simp
  | b :: p, h => by
    have h1 := text_short p fun c hc => h c (by simp [hc])
    have h2 := (write_read (h b (by simp))).2.2
    simp only [List.flatMap_cons, List.length_append, List.length_cons, lineB, List.length_nil]
    omega
end Go.Ev
end
