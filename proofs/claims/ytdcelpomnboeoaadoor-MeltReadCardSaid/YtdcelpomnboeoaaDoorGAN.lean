/- Lemmas for the claims of this seat: an evaluator over abstract values, its soundness, and the contracts of the functions of melt that it walks; no premise beyond what each theorem states. -/
import Derived.ShutString
import Derived.StillTailTactics
import Derived.Test.YtdcelpomnboeoaaDoorGAM
import Derived.Test.YtdcelpomnboeoaaDoorGAG
import Derived.Test.YtdcelpomnboeoaaDoorGAJ
import Derived.Test.YtdcelpomnboeoaaDoorGAH

section
set_option linter.all false
set_option linter.unusedVariables false
set_option linter.unusedSimpArgs false
namespace Go.Ev
open Go Go.Proofs Go.Shelf Go.RowKit Go.Lib

/-- A bound as a line. -/
def dgB (n : Int) : List UInt8 := Lib.decDigits n.toNat
def bodyB (b : MBd) : List UInt8 :=
  if b.r = 1 then [99, 117, 116, 32] ++ dgB b.a ++ [32] ++ dgB b.c
  else if b.r = 2 then [108, 105, 103, 104, 116]
  else if b.r = 3 then [104, 101, 97, 118, 121]
  else if b.r = 4 then [98, 114, 111, 107, 101, 110, 32] ++ dgB b.a
  else [100, 101, 97, 114]
def lineB (b : MBd) : List UInt8 := bodyB b ++ [10]
/-- What is written, and the error. -/
def reaF : List MBd → List UInt8 → List UInt8 × Int
  | [], acc => (acc, 0)
  | b :: l, acc => if bndErr b = 0 then reaF l (acc ++ lineB b) else ([], bndErr b)
def reaR (l : List MBd) : List UInt8 × Int := if 6000 < l.length then ([], 6) else reaF l []
theorem checkBound_calls (b : MBd) (w : World) : Calls Tryd.prog 38 #[.agg #[.int .i64 b.r, .int .i64 b.a, .int .i64 b.c]] w fun e w' => e = .returned (.int .i64 (bndErr b)) ∧ Below w.heap.size w w' := by
  have h := checkBound_ok b
  unfold ACalls at h
  rw [if_neg (by decide)] at h
  refine (h.2 w ⟨fun _ _ => False, fun _ => False, [], []⟩ [] #[.agg #[.int .i64 b.r, .int .i64 b.a, .int .i64 b.c]] ⟨fun _ _ h => h.elim, fun _ h => h.elim, List.nodup_nil, rfl, (fun _ h => by cases h), (fun i _ _ h => by simp at h), ?_⟩).mono ?_
  · simp [RVs, RV]
  · rintro e w' ⟨v, ob, rfl, hR⟩
    have e := hR.ret
    simp only [RV] at e
    subst e
    exact ⟨rfl, hR.fr.os, hR.fr.tape, hR.fr.output, hR.fr.size, fun k hk => hR.fr.old k hk (by simp)⟩
theorem builder_keep {T e : TypeId} {B b : Nat} {bs : List Value} {w w' : World} (h : Lib.IsBuilderF T e B b bs w) (hb : Below w.heap.size w w') : Lib.IsBuilderF T e B b bs w' := by
  have key : ∀ p, Lib.BuilderAtF T e B b p bs w → Lib.BuilderAtF T e B b p bs w' := by
    rintro p ⟨h1, v, h2, h3, h4⟩
    have hlt : ∀ (k : Nat) (o : Obj), w.heap[k]? = some o → w'.heap[k]? = some o := fun k o hk => by
      rw [hb.block k]
      · exact hk
      · rcases Nat.lt_or_ge k w.heap.size with h | h
        · exact h
        · simp [Array.getElem?_eq_none h] at hk
    refine ⟨h1, v, hlt _ _ h2, ⟨h3.1, h3.2.imp id ?_⟩, h4⟩
    rintro ⟨g, cap, cur, fz, a1, a2, a3, a4⟩
    exact ⟨g, cap, cur, fz, a1, a2, hlt _ _ a3, a4⟩
  exact h.imp (key _) (key _)
theorem dig1 {n : Nat} (h : n < 10) : Lib.decDigits n = [48 + UInt8.ofNat n] := by rw [Lib.decDigits, dif_pos h, UInt8.ofNat_add]; rfl
theorem itoa1 (i : Nat) (hi : i < 10) (w : World) : Calls Tryd.prog 40 #[.int .i64 i] w fun e w' => e = .returned (.string ⟨#[48 + UInt8.ofNat i]⟩) ∧ w' = w := by
  have c := Tryd.strconv_Itoa_small i (by omega) w
  rw [dig1 hi] at c
  exact c
theorem bndErr_0 {b : MBd} (h : bndErr b = 0) : (b.r = 1 ∧ (0 ≤ b.a ∧ b.a ≤ 3) ∧ 0 ≤ b.c ∧ b.c ≤ 6) ∨ b.r = 2 ∨ b.r = 3 ∨ (b.r = 4 ∧ 0 ≤ b.a ∧ b.a ≤ 2) ∨ b.r = 5 := by
  unfold bndErr at h
  split at h
  · rename_i h1
    split at h
    · rename_i h2
      simp only [Bool.and_eq_true, inB, decide_eq_true_eq] at h2
      exact .inl ⟨h1, h2.1, h2.2⟩
    · cases h
  · split at h
    · rename_i h1
      split at h
      · rename_i h2
        simp only [Bool.and_eq_true, inB, decide_eq_true_eq] at h2
        exact .inr (.inr (.inr (.inl ⟨h1, h2.1⟩)))
      · cases h
    · split at h
      · rename_i h1
        rcases h1 with h1 | h1 | h1
        · exact .inr (.inl h1)
        · exact .inr (.inr (.inl h1))
        · exact .inr (.inr (.inr (.inr h1)))
      · cases h
set_option maxHeartbeats 4000000 in
set_option maxRecDepth 1000000 in
theorem reasons_calls (l : List MBd) (w : World) (pb po cap : Nat) (hn : l.length ≤ 6000) (hpb : pb < w.heap.size)
    (hc : ∀ (k : Nat) (h : k < l.length), w.cell? ⟨pb, po + k * 3, none⟩ = some (.int .i64 l[k].r) ∧ w.cell? ⟨pb, po + k * 3 + 1, none⟩ = some (.int .i64 l[k].a) ∧ w.cell? ⟨pb, po + k * 3 + 2, none⟩ = some (.int .i64 l[k].c)) :
    Calls Tryd.prog 18 #[.slice (some ⟨pb, po, none⟩) l.length cap] w fun e w' => e = .returned (.tuple #[.string ⟨(reaF l []).1.toArray⟩, .int .i64 (reaF l []).2]) ∧ Below w.heap.size w w' := by
  go_enter Tryd.func18, Tryd.ntmps18
  go_wp2
  go_loopw [13] (fun v wr => ∃ (k : Nat) (acc : List UInt8), k ≤ l.length ∧ v = .int .i64 k ∧ Lib.IsBuilderF 93 5 w.heap.size w.heap.size (Lib.byteCells acc) wr ∧ Below w.heap.size w wr ∧ reaF (l.drop k) acc = reaF l [] ∧ acc.length ≤ 12 * k) (fun v _ => l.length - (RowKit.intOf v).toNat)
  case atStart =>
    refine ⟨0, [], Nat.zero_le _, rfl, Lib.IsBuilderF.of (Lib.fresh_isBuilder 93 5 w), (Below.refl _ w).alloc (Nat.le_refl _) _, by simp, by simp⟩
  case round =>
    obtain ⟨k, acc, hk, rfl, hI, hbw, hacc, hal⟩ := hrel
    by_cases hp : k < l.length
    · obtain ⟨c0, c1, c2⟩ := hc k hp
      rw [← hbw.cell (p := ⟨pb, po + k * 3, none⟩) hpb] at c0
      rw [← hbw.cell (p := ⟨pb, po + k * 3 + 1, none⟩) hpb] at c1
      rw [← hbw.cell (p := ⟨pb, po + k * 3 + 2, none⟩) hpb] at c2
      go_wp2_with (go_at_call 38; refine (checkBound_calls l[k] _).mono ?_)
      rintro e W1 ⟨rfl, b1⟩
      have hsz : w.heap.size ≤ wr.heap.size := hbw.size
      have hbw1 : Below w.heap.size w W1 := (hbw.alloc hsz _).trans (b1.mono (by simp; omega))
      have hI1 : Lib.IsBuilderF 93 5 w.heap.size w.heap.size (Lib.byteCells acc) W1 := builder_keep (hI.alloc _) b1
      have hbx : W1.heap[wr.heap.size]? = some (.cells #[.int .i64 l[k].r, .int .i64 l[k].a, .int .i64 l[k].c] 46 (0, 0)) := by
        rw [b1.block _ (by simp)]; exact heap_alloc_new wr _
      have d0 : W1.cell? ⟨wr.heap.size, 0, none⟩ = some (.int .i64 l[k].r) := by rw [Lib.cell_of_heap hbx]; rfl
      have d1 : W1.cell? ⟨wr.heap.size, 1, none⟩ = some (.int .i64 l[k].a) := by rw [Lib.cell_of_heap hbx]; rfl
      have d2 : W1.cell? ⟨wr.heap.size, 2, none⟩ = some (.int .i64 l[k].c) := by rw [Lib.cell_of_heap hbx]; rfl
      have hdr : l.drop k = l[k] :: l.drop (k + 1) := List.drop_eq_getElem_cons hp
      by_cases he : bndErr l[k] = 0
      · rw [he]
        rcases bndErr_0 he with ⟨h1, ha, hcc⟩ | h1 | h1 | ⟨h1, ha⟩ | h1
        · obtain ⟨ai, hai⟩ : ∃ ai : Nat, l[k].a = ai := ⟨l[k].a.toNat, by omega⟩
          obtain ⟨ci, hci⟩ : ∃ ci : Nat, l[k].c = ci := ⟨l[k].c.toNat, by omega⟩
          rw [h1] at d0
          rw [hai] at d1
          rw [hci] at d2
          go_wp2
          refine wp_region_still_tail 9 (by kernel_rfl) (by kernel_rfl) ?_
          simp only [List.take_succ_cons, List.take_zero, List.drop_succ_cons, List.drop_zero]
          repeat still_step
          still_call (itoa1 ai (by omega) _)
          repeat still_step
          still_call (itoa1 ci (by omega) _)
          repeat still_step
          refine wpStill_nil ?_
          change wpList _ _ _ _ _ W1.drew
          have ebody : bodyB l[k] = [99, 117, 116, 32, 48 + UInt8.ofNat ai, 32, 48 + UInt8.ofNat ci] := by
            rw [bodyB, if_pos h1, dgB, dgB, hai, hci, Int.toNat_natCast, Int.toNat_natCast, dig1 (by omega), dig1 (by omega)]
            rfl
          have hbl : (bodyB l[k]).length ≤ 11 := by rw [ebody]; simp
          have hI1d : Lib.IsBuilderF 93 5 w.heap.size w.heap.size (Lib.byteCells acc) W1.drew := hI1
          go_wp2_with (go_at_call 39; refine (Tryd.bWrite_k w.heap.size w.heap.size (Lib.byteCells acc) _ W1.drew hI1d (by simp [Lib.byteCells_length, ByteArray.size]; omega) hbw1.drew.size).mono ?_)
          rintro e W2 ⟨rfl, h2, b2, k2⟩
          have eS : Lib.strCells ({ data := #[99, 117, 116, 32] } ++ { data := #[48 + UInt8.ofNat ai] } ++ { data := #[32] } ++ { data := #[48 + UInt8.ofNat ci] }) = Lib.byteCells (bodyB l[k]) := by
            rw [ebody]; simp [Lib.strCells, Lib.byteCells]
          rw [eS] at h2
          go_wp2_with (go_at_call 39; refine (Tryd.bWrite_k w.heap.size w.heap.size _ ⟨#[10]⟩ W2 (Or.inr h2) (by rw [List.length_append, Lib.byteCells_length, Lib.byteCells_length]; have := hbl; show _ + 1 ≤ _; omega) (hbw1.drew.trans b2).size).mono ?_)
          rintro e W3 ⟨rfl, h3, b3, k3⟩
          go_wp2
          go_roundw
          case rel =>
            refine ⟨k + 1, acc ++ lineB l[k], by omega, by simp, Or.inr ?_, (hbw1.drew.trans b2).trans b3, ?_, ?_⟩
            · have e : Lib.byteCells acc ++ Lib.byteCells (bodyB l[k]) ++ Lib.strCells ⟨#[10]⟩ = Lib.byteCells (acc ++ lineB l[k]) := by
                rw [Lib.byteCells_append, lineB, Lib.byteCells_append, ← List.append_assoc]
                rfl
              rw [← e]; exact h3
            · rw [← hacc, hdr, reaF, if_pos he]
            · have : (lineB l[k]).length ≤ 12 := by rw [lineB, List.length_append]; simp; omega
              simp; omega
          case measure =>
            show l.length - ((k : Int) + 1).toNat < l.length - (k : Int).toNat
            omega
        · rw [h1] at d0
          go_wp2_with (go_at_call 39; refine (Tryd.bWrite_k w.heap.size w.heap.size (Lib.byteCells acc) ⟨#[108, 105, 103, 104, 116]⟩ W1 hI1 (by rw [Lib.byteCells_length]; show _ + 5 ≤ _; omega) hbw1.size).mono ?_)
          rintro e W2 ⟨rfl, h2, b2, k2⟩
          go_wp2_with (go_at_call 39; refine (Tryd.bWrite_k w.heap.size w.heap.size _ ⟨#[10]⟩ W2 (Or.inr h2) (by rw [List.length_append, Lib.byteCells_length, Lib.strCells_length]; show _ + 5 + _ ≤ _; show _ + 1 ≤ _; omega) (hbw1.trans b2).size).mono ?_)
          rintro e W3 ⟨rfl, h3, b3, k3⟩
          go_wp2
          go_roundw
          case rel =>
            refine ⟨k + 1, acc ++ lineB l[k], by omega, by simp, Or.inr ?_, (hbw1.trans b2).trans b3, ?_, ?_⟩
            · have e : Lib.byteCells acc ++ Lib.strCells ⟨#[108, 105, 103, 104, 116]⟩ ++ Lib.strCells ⟨#[10]⟩ = Lib.byteCells (acc ++ lineB l[k]) := by
                rw [Lib.byteCells_append, lineB, Lib.byteCells_append, ← List.append_assoc]
                congr 2
                simp only [bodyB, h1]; rfl
              rw [← e]; exact h3
            · rw [← hacc, hdr, reaF, if_pos he]
            · have : (lineB l[k]).length ≤ 12 := by simp [lineB, bodyB, h1]
              simp; omega
          case measure =>
            show l.length - ((k : Int) + 1).toNat < l.length - (k : Int).toNat
            omega
        · rw [h1] at d0
          go_wp2_with (go_at_call 39; refine (Tryd.bWrite_k w.heap.size w.heap.size (Lib.byteCells acc) ⟨#[104, 101, 97, 118, 121]⟩ W1 hI1 (by rw [Lib.byteCells_length]; show _ + 5 ≤ _; omega) hbw1.size).mono ?_)
          rintro e W2 ⟨rfl, h2, b2, k2⟩
          go_wp2_with (go_at_call 39; refine (Tryd.bWrite_k w.heap.size w.heap.size _ ⟨#[10]⟩ W2 (Or.inr h2) (by rw [List.length_append, Lib.byteCells_length, Lib.strCells_length]; show _ + 5 + _ ≤ _; show _ + 1 ≤ _; omega) (hbw1.trans b2).size).mono ?_)
          rintro e W3 ⟨rfl, h3, b3, k3⟩
          go_wp2
          go_roundw
          case rel =>
            refine ⟨k + 1, acc ++ lineB l[k], by omega, by simp, Or.inr ?_, (hbw1.trans b2).trans b3, ?_, ?_⟩
            · have e : Lib.byteCells acc ++ Lib.strCells ⟨#[104, 101, 97, 118, 121]⟩ ++ Lib.strCells ⟨#[10]⟩ = Lib.byteCells (acc ++ lineB l[k]) := by
                rw [Lib.byteCells_append, lineB, Lib.byteCells_append, ← List.append_assoc]
                congr 2
                simp only [bodyB, h1]; rfl
              rw [← e]; exact h3
            · rw [← hacc, hdr, reaF, if_pos he]
            · have : (lineB l[k]).length ≤ 12 := by simp [lineB, bodyB, h1]
              simp; omega
          case measure =>
            show l.length - ((k : Int) + 1).toNat < l.length - (k : Int).toNat
            omega
        · obtain ⟨ai, hai⟩ : ∃ ai : Nat, l[k].a = ai := ⟨l[k].a.toNat, by omega⟩
          rw [h1] at d0
          rw [hai] at d1
          have ebody : bodyB l[k] = [98, 114, 111, 107, 101, 110, 32, 48 + UInt8.ofNat ai] := by
            rw [bodyB, if_neg (by omega), if_neg (by omega), if_neg (by omega), if_pos h1, dgB, hai, Int.toNat_natCast, dig1 (by omega)]
            rfl
          have hbl : (bodyB l[k]).length ≤ 11 := by rw [ebody]; simp
          go_wp2_with (go_at_call 40; refine (itoa1 ai (by omega) _).mono ?_; rintro e w' ⟨rfl, hw⟩; rw [hw]; clear hw)
          refine (Tryd.bWrite_k w.heap.size w.heap.size (Lib.byteCells acc) _ W1 hI1 (by simp [Lib.byteCells_length, ByteArray.size]; omega) hbw1.size).mono ?_
          rintro e W2 ⟨rfl, h2, b2, k2⟩
          have eS : Lib.strCells ({ data := #[98, 114, 111, 107, 101, 110, 32] } ++ { data := #[48 + UInt8.ofNat ai] }) = Lib.byteCells (bodyB l[k]) := by
            rw [ebody]; simp [Lib.strCells, Lib.byteCells]
          rw [eS] at h2
          go_wp2_with (go_at_call 39; refine (Tryd.bWrite_k w.heap.size w.heap.size _ ⟨#[10]⟩ W2 (Or.inr h2) (by rw [List.length_append, Lib.byteCells_length, Lib.byteCells_length]; have := hbl; show _ + 1 ≤ _; omega) (hbw1.trans b2).size).mono ?_)
          rintro e W3 ⟨rfl, h3, b3, k3⟩
          go_wp2
          go_roundw
          case rel =>
            refine ⟨k + 1, acc ++ lineB l[k], by omega, by simp, Or.inr ?_, (hbw1.trans b2).trans b3, ?_, ?_⟩
            · have e : Lib.byteCells acc ++ Lib.byteCells (bodyB l[k]) ++ Lib.strCells ⟨#[10]⟩ = Lib.byteCells (acc ++ lineB l[k]) := by
                rw [Lib.byteCells_append, lineB, Lib.byteCells_append, ← List.append_assoc]
                rfl
              rw [← e]; exact h3
            · rw [← hacc, hdr, reaF, if_pos he]
            · have : (lineB l[k]).length ≤ 12 := by rw [lineB, List.length_append]; simp; omega
              simp; omega
          case measure =>
            show l.length - ((k : Int) + 1).toNat < l.length - (k : Int).toNat
            omega
        · rw [h1] at d0
          go_wp2_with (go_at_call 39; refine (Tryd.bWrite_k w.heap.size w.heap.size (Lib.byteCells acc) ⟨#[100, 101, 97, 114]⟩ W1 hI1 (by rw [Lib.byteCells_length]; show _ + 4 ≤ _; omega) hbw1.size).mono ?_)
          rintro e W2 ⟨rfl, h2, b2, k2⟩
          go_wp2_with (go_at_call 39; refine (Tryd.bWrite_k w.heap.size w.heap.size _ ⟨#[10]⟩ W2 (Or.inr h2) (by rw [List.length_append, Lib.byteCells_length, Lib.strCells_length]; show _ + 4 + _ ≤ _; show _ + 1 ≤ _; omega) (hbw1.trans b2).size).mono ?_)
          rintro e W3 ⟨rfl, h3, b3, k3⟩
          go_wp2
          go_roundw
          case rel =>
            refine ⟨k + 1, acc ++ lineB l[k], by omega, by simp, Or.inr ?_, (hbw1.trans b2).trans b3, ?_, ?_⟩
            · have e : Lib.byteCells acc ++ Lib.strCells ⟨#[100, 101, 97, 114]⟩ ++ Lib.strCells ⟨#[10]⟩ = Lib.byteCells (acc ++ lineB l[k]) := by
                rw [Lib.byteCells_append, lineB, Lib.byteCells_append, ← List.append_assoc]
                congr 2
                simp only [bodyB, h1]; rfl
              rw [← e]; exact h3
            · rw [← hacc, hdr, reaF, if_pos he]
            · have : (lineB l[k]).length ≤ 12 := by simp [lineB, bodyB, h1]
              simp; omega
          case measure =>
            show l.length - ((k : Int) + 1).toNat < l.length - (k : Int).toNat
            omega
      · go_wp2
        go_ret2
        refine ⟨?_, hbw1⟩
        rw [← hacc, hdr, reaF, if_neg he]
        rfl
    · have hkl : k = l.length := by omega
      go_wp2_with (go_at_call 41; refine (Tryd.Builder_String_any_k w.heap.size w.heap.size acc _ hI hbw.size).mono ?_)
      rintro e W1 ⟨rfl, _, b1, _⟩
      go_wp2
      go_ret2
      refine ⟨?_, hbw.trans b1⟩
      rw [← hacc, hkl, List.drop_length, reaF]
      rfl
end Go.Ev
end

section
set_option linter.all false
set_option linter.unusedVariables false
set_option linter.unusedSimpArgs false
namespace Go.Ev
open Go Go.Proofs Go.Shelf Go.RowKit Go.Lib

set_option maxHeartbeats 4000000 in
set_option maxRecDepth 1000000 in
theorem reasons_empty (a : Option Addr) (cap : Nat) (w : World) : Calls Tryd.prog 18 #[.slice a 0 cap] w fun e w' => e = .returned (.tuple #[.string ⟨#[]⟩, .int .i64 0]) ∧ Below w.heap.size w w' := by
  go_enter Tryd.func18, Tryd.ntmps18
  go_wp2
  go_loopw [13] (fun v wr => v = .int .i64 0 ∧ Lib.IsBuilderF 93 5 w.heap.size w.heap.size (Lib.byteCells []) wr ∧ Below w.heap.size w wr) (fun v _ => 0)
  case atStart =>
    exact ⟨rfl, Lib.IsBuilderF.of (Lib.fresh_isBuilder 93 5 w), (Below.refl _ w).alloc (Nat.le_refl _) _⟩
  case round =>
    obtain ⟨rfl, hI, hbw⟩ := hrel
    go_wp2_with (go_at_call 41; refine (Tryd.Builder_String_any_k w.heap.size w.heap.size [] _ hI hbw.size).mono ?_)
    rintro e W1 ⟨rfl, _, b1, _⟩
    go_wp2
    go_ret2
    exact ⟨rfl, hbw.trans b1⟩
/-- A function that turns nothing old and hands back plain values. -/
theorem outR_plain {w : World} {rd : Rd} {be : List Nat} (hbe : be = []) {e : Ending} {w' : World} {v : Value} {r : AV} (hr : ∀ c : Cx, RV w' c r v) (h : e = .returned v ∧ Below w.heap.size w w') : OutR w rd be (.ret r [] []) e w' := by
  subst hbe
  obtain ⟨rfl, hb⟩ := h
  refine ⟨v, fun _ => none, rfl, ⟨hb.os, hb.tape, hb.output, hb.size, fun b hlt _ => hb.block b hlt⟩, rfl, (fun _ _ _ h => by cases h), (fun _ _ h => by cases h), (fun _ _ h => by cases h), List.nodup_nil, (fun p h => by cases h), (fun i b cs h => by simp at h), hr _⟩
theorem reasons_ok (l : List MBd) (hn : l.length ≤ 6000) : ACalls Tryd.prog 18 [.sl false false .U .no l.length (eBds l)] [] (.ret (.tup [.s (.string ⟨(reaF l []).1.toArray⟩), .s (.int .i64 (reaF l []).2)]) [] []) := by
  unfold ACalls
  rw [if_neg (by decide)]
  refine ⟨⟨Tryd.f18, _, Tryd.func18, rfl, rfl⟩, fun w rd be vs hp => ?_⟩
  have hbe : be = [] := List.length_eq_zero_iff.1 hp.len
  have ha := hp.args
  simp only [RVs, RV, RS] at ha
  obtain ⟨v, r, e1, ⟨a, cap, rfl, h2, h3, _⟩, rfl⟩ := ha
  have evs : vs = #[.slice a l.length cap] := by apply Array.ext'; simpa using e1
  subst evs
  have hret : ∀ (w' : World) (c : Cx), RV w' c (.tup [.s (.string ⟨(reaF l []).1.toArray⟩), .s (.int .i64 (reaF l []).2)]) (.tuple #[.string ⟨(reaF l []).1.toArray⟩, .int .i64 (reaF l []).2]) := fun w' c => by
    simp [RV, RVs]
  by_cases h0 : l = []
  · subst h0
    refine (reasons_empty a cap w).mono fun e w' h => outR_plain hbe (v := .tuple #[.string ⟨#[]⟩, .int .i64 0]) (fun c => hret w' c) h
  · have hlen : l.length ≠ 0 := fun e => h0 (List.length_eq_zero_iff.1 e)
    cases a with
    | none => exact absurd h3.1 hlen
    | some ad =>
      obtain ⟨h4, _, h6⟩ := h3
      have hsp : ad.spot = none := by
        rcases h4 with h4 | h4
        · exact h4
        · exact absurd h4.1 hlen
      obtain ⟨pb, po, sp⟩ := ad
      simp only at hsp h6
      subst hsp
      have hcell : ∀ (j : Nat) (x : Int), (eBds l)[j]? = some (.s (.int .i64 x)) → rd.c pb (po + j) ∧ w.cell? ⟨pb, po + j, none⟩ = some (.int .i64 x) := fun j x hj => by
        obtain ⟨q1, v, q2, _, q3⟩ := h6.get j _ hj
        simp only [RD] at q3
        subst q3
        exact ⟨q1, q2⟩
      have hc : ∀ (k : Nat) (h : k < l.length), w.cell? ⟨pb, po + k * 3, none⟩ = some (.int .i64 l[k].r) ∧ w.cell? ⟨pb, po + k * 3 + 1, none⟩ = some (.int .i64 l[k].a) ∧ w.cell? ⟨pb, po + k * 3 + 2, none⟩ = some (.int .i64 l[k].c) := fun k h => by
        have a0 := (hcell (k * 3) l[k].r (by simp [h])).2
        have a1 := (hcell (k * 3 + 1) l[k].a (by simp [h])).2
        have a2 := (hcell (k * 3 + 2) l[k].c (by simp [h])).2
        exact ⟨a0, a1, a2⟩
      have hpb : pb < w.heap.size := by
        have hpos : 0 < l.length := by omega
        have := (hcell (0 * 3) l[0].r (by rw [eBds_0]; rw [List.getElem?_eq_getElem hpos]; rfl)).1
        exact (hp.rdok _ _ this).1
      exact (reasons_calls l w pb po cap hn hpb hc).mono fun e w' h => outR_plain hbe (fun c => hret w' c) h
end Go.Ev
end

section
set_option linter.all false
open Go Go.Ev Go.Proofs
namespace Go.Ev
set_option linter.unusedSimpArgs false
set_option linter.unusedVariables false



/-! ### Bins in cells that are turned -/
def aBin (b : MBin) : List AV := [.sl false false .U .no b.grams.length (eRngs b.grams), .s (.int .i64 b.w), .s (.int .i64 b.c), .s (.int .i64 b.g)]
def aBins (l : List MBin) : List AV := l.flatMap aBin
theorem aBins_cons (b : MBin) (l : List MBin) : aBins (b :: l) = .sl false false .U .no b.grams.length (eRngs b.grams) :: .s (.int .i64 b.w) :: .s (.int .i64 b.c) :: .s (.int .i64 b.g) :: aBins l := rfl
theorem aBins_app (l r : List MBin) : aBins (l ++ r) = aBins l ++ aBins r := by simp [aBins]
theorem aBins_snoc (l : List MBin) (b : MBin) : aBins l ++ [AV.sl false false .U .no b.grams.length (eRngs b.grams), .s (.int .i64 b.w), .s (.int .i64 b.c), .s (.int .i64 b.g)] = aBins (l ++ [b]) := by rw [aBins_app]; rfl
@[simp] theorem aBins_nil0 : aBins [] = [] := rfl
theorem map_eBins (g f : Bool) (l : List MBin) (hg : g = false) (hf : f = false) : (eBins l).map (D.av g f) = aBins l := by
  subst hg; subst hf
  induction l with
  | nil => rfl
  | cons b l ih => rw [eBins_cons, aBins_cons]; simp only [List.map_cons, ih]; rfl
@[simp] theorem aBins_len (l : List MBin) : (aBins l).length = l.length * 4 := by
  induction l with
  | nil => rfl
  | cons b l ih => rw [aBins_cons]; simp only [List.length_cons, ih]; omega
theorem aBins_mem {x : AV} {l : List MBin} (h : x ∈ aBins l) : (∃ i, x = .s (.int .i64 i)) ∨ ∃ n cs, x = .sl false false .U .no n cs := by
  obtain ⟨b, _, hx⟩ := List.mem_flatMap.1 h
  simp only [aBin, List.mem_cons, List.not_mem_nil, or_false] at hx
  rcases hx with rfl | rfl | rfl | rfl
  · exact .inr ⟨_, _, rfl⟩
  all_goals exact .inl ⟨_, rfl⟩
@[simp] theorem aBins_nil (l : List MBin) : (aBins l = []) ↔ (l = []) := by cases l <;> simp [aBins_cons]
@[simp] theorem aBins_empty (l : List MBin) : (aBins l).isEmpty = l.isEmpty := by cases l <;> rfl
@[simp high] theorem aBins_noMen (d : Nat) (l : List MBin) : noMen d (aBins l) = true := by
  unfold noMen
  refine List.all_eq_true.2 fun x hx => ?_
  rcases aBins_mem hx with ⟨i, rfl⟩ | ⟨n, cs, rfl⟩ <;> rfl
@[simp] theorem aBins_noMen' (d : Nat) (l : List MBin) : (∀ x, x ∈ aBins l → ¬ Ref.own d ∈ x.refs) ↔ True := by
  refine iff_true_intro fun x hx => ?_
  rcases aBins_mem hx with ⟨i, rfl⟩ | ⟨n, cs, rfl⟩ <;> simp [AV.refs]
@[simp] theorem aBins_purge (d : Nat) : ∀ (l : List MBin), (aBins l).map (purgeAV d) = aBins l
  | [] => rfl
  | b :: l => by rw [aBins_cons]; simp only [List.map_cons, aBins_purge d l]; rfl
@[simp] theorem aBins_isCell (l : List MBin) : (aBins l).all AV.isCell = true := by
  refine List.all_eq_true.2 fun x hx => ?_
  rcases aBins_mem hx with ⟨i, rfl⟩ | ⟨n, cs, rfl⟩ <;> rfl
@[simp] theorem aBins_mapRef (ρ : Ref → Option Ref) : ∀ (l : List MBin), mapRefL ρ (aBins l) = aBins l
  | [] => rfl
  | b :: l => by rw [aBins_cons]; simp only [mapRefL, aBins_mapRef ρ l]; rfl
@[simp] theorem aBins_asObj : ∀ (l : List MBin), asObjL (aBins l) = aBins l
  | [] => rfl
  | b :: l => by rw [aBins_cons]; simp only [asObjL, aBins_asObj l]; rfl
@[simp] theorem aBins_refs : ∀ (l : List MBin), refsL (aBins l) = []
  | [] => rfl
  | b :: l => by rw [aBins_cons]; simp only [refsL, aBins_refs l]; rfl
theorem aBins_toDs : ∀ (l : List MBin), toDs? (aBins l) = some (eBins l, l.isEmpty)
  | [] => rfl
  | b :: l => by rw [aBins_cons]; simp only [toDs?, aBins_toDs l]; rfl
@[simp] theorem aBins_okIn (R : Ref → Bool) (T : Nat → Bool) : ∀ (l : List MBin), okInL R T (aBins l) = true
  | [] => rfl
  | b :: l => by rw [aBins_cons]; simp only [okInL, aBins_okIn R T l]; rfl


theorem pe_str {P : Program} (d : Nat) (t : TypeId) (a b : ByteArray) (hu : P.underlying t = some .string) : pureP P (Op.equalIn (d + 1) t (.string a) (.string b)) = some (a == b) := by
  unfold Op.equalIn
  rw [pureP_bind P _ _ _ (underlying_pure t _ hu)]
  simp
@[simp] theorem q_eqs (x y : Operand) (a b : ByteArray) : qBinP Tryd.prog .eql 9 x y (some (.string a)) (some (.string b)) = some (.s (.bool (a.toList == b.toList))) := by
  have h2 : pureP Tryd.prog (binOp .eql 9 (.string a) (.string b)) = some (.bool (a.toList == b.toList)) := by
    unfold binOp
    simp [Op.stringOp]
  simp only [qBinP, h2]
  simp [eqGuard, AV.ofVal, AV.ofCell, AV.ofFn]
set_option maxRecDepth 100000
def ordN : MOrd := { ordC with bins := [] }
def ordL : MOrd := { ordC with least := 12001 }
def ordS1 : MOrd := { ordC with bins := [⟨[(300, 350), (50, 60)], 2000, 50, 4⟩, ⟨[(500, 600)], 2000, 30, 4⟩, ⟨[(100, 100), (200, 300)], 1000, 20, 3⟩] }
theorem szN : szO ordN := ⟨by simp [ordN, ordC], by simp [ordN, ordC], by intro b hb; simp [ordN] at hb⟩
theorem szL : szO ordL := ⟨by simp [ordL, ordC], by simp [ordL, ordC], by intro b hb; simp [ordL, ordC] at hb; rcases hb with rfl | rfl | rfl <;> simp⟩
theorem szS1 : szO ordS1 := ⟨by simp [ordS1, ordC], by simp [ordS1, ordC], by intro b hb; simp [ordS1, ordC] at hb; rcases hb with rfl | rfl | rfl <;> simp⟩
theorem kn0 : ordErr ordC = 0 ∧ ordErr ordN = 7 ∧ ordErr ordL = 5 ∧ ordErr ordS1 = 2 := ⟨by kernel_rfl, by kernel_rfl, by kernel_rfl, by kernel_rfl⟩
theorem kn1 : blendErr ordC [2, 2, 2] = 0 ∧ keepV ordC [2, 2, 2] = 1 := ⟨by kernel_rfl, by kernel_rfl⟩
theorem kn2 : blendErr ordC [0, 4, 2] = 0 ∧ keepV ordC [0, 4, 2] = 2 := ⟨by kernel_rfl, by kernel_rfl⟩
theorem kn3 : blendErr ordC [0, 0, 0] = 0 ∧ keepV ordC [0, 0, 0] = 1 := ⟨by kernel_rfl, by kernel_rfl⟩
theorem kn4 : blendErr ordC [5, 0, 0] = 1 ∧ blendErr ordC [2, 2] = 2 := ⟨by kernel_rfl, by kernel_rfl⟩
theorem kn5 : weighL ordC.bins [2, 2, 2] 0 0 0 = (10000, 200) := by kernel_rfl
theorem kn6 : cheapB (plC 3) = [3] ∧ cheapC (plC 3) = 15 ∧ cheapE (plC 3) = 0 ∧ cheapB (plC 5) = [] ∧ cheapC (plC 5) = 0 ∧ cheapE (plC 5) = 13 := ⟨by kernel_rfl, by kernel_rfl, by kernel_rfl, by kernel_rfl, by kernel_rfl, by kernel_rfl⟩
theorem kn7 : prvL (plC 3) 16 = [] ∧ prvE (plC 3) 16 = 13 ∧ prvL (plC 5) 300000000 = [⟨2, 0, 0⟩] ∧ prvE (plC 5) 300000000 = 0 := ⟨by kernel_rfl, by kernel_rfl, by kernel_rfl, by kernel_rfl⟩
theorem kn8 : verE (plC 3) 15 [⟨1, 0, 2⟩, ⟨2, 0, 0⟩, ⟨5, 0, 0⟩] = 0 ∧ verE (plC 3) 15 [⟨1, 0, 4⟩] = 1 ∧ verE (plC 3) 15 [⟨1, 0, 2⟩, ⟨2, 0, 0⟩] = 2 ∧ verE (plC 3) 15 [⟨5, 0, 0⟩] = 9 := ⟨by kernel_rfl, by kernel_rfl, by kernel_rfl, by kernel_rfl⟩
theorem kn9 : reaF [⟨1, 0, 2⟩, ⟨2, 0, 0⟩, ⟨5, 0, 0⟩] [] = ([99, 117, 116, 32, 48, 32, 50, 10, 108, 105, 103, 104, 116, 10, 100, 101, 97, 114, 10], 0) := by
  simp [reaF, bndErr, inB, lineB, bodyB, dgB, dig1]

theorem orderM_ok : ACalls Tryd.prog 5 [] [] (.ret (.agg [.sl false false .U .no ordC.limits.length (eInts ordC.limits), .s (.int .i64 ordC.least), .s (.int .i64 ordC.most), .sm (.own 14) ordC.bins.length .no]) [] [(14, aBins ordC.bins)]) := by
  refine acalls_of_ew Tryd.func5 rfl rfl (by simp [Tryd.f5]) (rs := [.cell 0 25]) rfl ?_
  refine EW.seq fun Ψ0 n0 x0 => ?_
  refine EW.region gs_nil ?_
  simp
  refine n0 _ ?_; clear n0 x0
  refine EW.seq fun Ψ1 n1 x1 => ?_
  refine EW.region (gs_mut (d := 14) (o := .pan undef) (gs_cons (to_ok 300 350) (gs_cons (to_ok 50 60) (gs_cons (to_ok 500 600) (gs_cons (to_ok 0 20) (gs_cons (to_ok 100 100) (gs_cons (to_ok 200 300) gs_nil))))))) ?_
  simp
  refine n1 _ ?_; clear n1 x1
  refine EW.ret ?_
  refine ⟨_, _, _, rfl, ?_, ?_, ?_, ?_, ?_⟩ <;> simp [ordC, aBins_cons, eRngs_cons]


set_option maxHeartbeats 4000000
theorem x (a b : Int) : ACalls Tryd.prog 14 [.s (.int .i64 a), .s (.int .i64 b)] [] (.ret (.agg [.s (.int .i64 1), .s (.int .i64 a), .s (.int .i64 b)]) [] []) := by
  refine acalls_of_ew Tryd.func14 rfl rfl (by simp [Tryd.f14]) (rs := [.cell 4 46]) rfl ?_
  refine EW.seq fun Ψ0 n0 x0 => ?_
  refine EW.region gs_nil ?_
  simp
  refine n0 _ ?_; clear n0 x0
  refine EW.seq fun Ψ1 n1 x1 => ?_
  refine EW.region gs_nil ?_
  simp
  refine n1 _ ?_; clear n1 x1
  refine EW.ret ?_
  refine ⟨_, _, _, rfl, ?_, ?_, ?_, ?_, ?_⟩ <;> simp

end Go.Ev
end

section
set_option linter.all false
open Go Go.Ev Go.Proofs
namespace Go.Ev
set_option linter.unusedSimpArgs false
set_option linter.unusedVariables false

set_option maxRecDepth 100000

def knE (l : List (Nat × AV)) : List (Nat × AV) := (4, .sl true true .U .no 3 [.sl 3 [.s (.int .i64 2), .s (.int .i64 2), .s (.int .i64 2)], .sl 3 [.s (.int .i64 0), .s (.int .i64 4), .s (.int .i64 2)], .sl 3 [.s (.int .i64 0), .s (.int .i64 0), .s (.int .i64 0)]]) :: (5, .sl true true .U .no 3 [.s (.int .i64 1), .s (.int .i64 2), .s (.int .i64 1)]) :: l
def knS0 (i : Nat) : St := St.lit 234 (knE [(6, .s (.int .i64 i))]) [] [] []
def knP : List D := [.sl 3 (eBds [⟨1, 0, 2⟩, ⟨2, 0, 0⟩, ⟨5, 0, 0⟩]), .sl 1 (eBds [⟨1, 0, 4⟩]), .sl 2 (eBds [⟨1, 0, 2⟩, ⟨2, 0, 0⟩]), .sl 1 (eBds [⟨5, 0, 0⟩])]
def knS1 (i : Nat) : St := St.lit 234 [(11, .s (.int .i64 13)), (14, .s (.int .i64 0)), (24, .sl false false .U .no 1 (eBds [⟨2, 0, 0⟩])), (25, .sl true true .U .no 4 knP), (26, .sl true true .U .no 4 [.s (.int .i64 0), .s (.int .i64 1), .s (.int .i64 2), .s (.int .i64 9)]), (27, .s (.int .i64 i))] [] [] []
attribute [simp] knE knS0 knS1

set_option maxHeartbeats 4000000 in
theorem known_ok : ACalls Tryd.prog 3 [] [] (.ret (.s (.bool true)) [] []) := by
  have k8 := kn8
  obtain ⟨v0, v1, v2, v3⟩ := kn8
  obtain ⟨c0, c1, c2, c3, c4, c5⟩ := kn6
  obtain ⟨p0, p1, p2, p3⟩ := kn7
  refine acalls_of_ew Tryd.func3 rfl rfl (by simp [Tryd.f3]) (rs := [.tmp 0]) rfl ?_
  refine EW.seq fun Ψ0 n0 x0 => ?_
  refine EW.region gs_nil ?_
  simp
  refine n0 _ ?_; clear n0 x0
  refine EW.seq fun Ψ1 n1 x1 => ?_
  refine EW.region (gs_cons orderM_ok gs_nil) ?_
  simp [ordC, ordN, ordL, ordS1, aBins_cons, eRngs_cons, eBins_cons]
  refine n1 _ ?_; clear n1 x1
  refine EW.seq fun Ψ2 n2 x2 => ?_
  refine EW.drawn [(1, 9), (3, 9), (6, 9), (1, 11), (3, 11), (6, 11)] mixed gs_nil (by kernel_rfl) ?_
  simp [ordC, ordN, ordL, ordS1, aBins_cons, eRngs_cons, eBins_cons]
  refine n2 _ ?_; clear n2 x2
  refine EW.seq fun Ψ3 n3 x3 => ?_
  refine EW.seq fun Ψ4 n4 x4 => ?_
  refine EW.freezeC (k := 31014) (j := 2) (i := 3) (n := 3) (o := .no) (cs := aBins ordL.bins) (cj := [.sl false false .U .no 2 [.s (.int .i64 400), .s (.int .i64 100)], .s (.int .i64 12001), .s (.int .i64 12000), .sm (.own 31014) 3 .no]) (c0 := [.sl false false .U .no 2 [.s (.int .i64 400), .s (.int .i64 100)], .s (.int .i64 12001), .s (.int .i64 12000), .junk]) (ds := eBins ordL.bins) (g := false) (nt := 234) (E := [(1, .ptr (.own 1) 0), (2, .ptr (.own 2) 0), (3, .ptr (.own 3) 0)]) (O := [(1, [.sl false false .U .no 2 [.s (.int .i64 400), .s (.int .i64 100)], .s (.int .i64 10000), .s (.int .i64 12000), AV.nilsl]), (2, [.sl false false .U .no 2 [.s (.int .i64 400), .s (.int .i64 100)], .s (.int .i64 12001), .s (.int .i64 12000), .junk]), (3, [.sl false false .U .no 2 [.s (.int .i64 400), .s (.int .i64 100)], .s (.int .i64 10000), .s (.int .i64 12000), .sm (.own 32014) 3 .no]), (32014, aBins ordS1.bins)]) (X := []) (T := []) (by simp [ordC, ordN, ordL, ordS1, aBins_cons, eRngs_cons, eBins_cons]) (by rw [aBins_toDs]; rfl) (by simp) (by simp) (St.le_lit rfl (by simp) (by simp [ordC, ordN, ordL, ordS1, aBins_cons, eRngs_cons, eBins_cons]) (by simp) (by simp) (by simp)) (by simp) (by simp) (by simp) ?_
  simp
  refine EW.freezeC (k := 32014) (j := 3) (i := 3) (n := 3) (o := .no) (cs := aBins ordS1.bins) (cj := [.sl false false .U .no 2 [.s (.int .i64 400), .s (.int .i64 100)], .s (.int .i64 10000), .s (.int .i64 12000), .sm (.own 32014) 3 .no]) (c0 := [.sl false false .U .no 2 [.s (.int .i64 400), .s (.int .i64 100)], .s (.int .i64 10000), .s (.int .i64 12000), .junk]) (ds := eBins ordS1.bins) (g := false) (nt := 234) (E := [(1, .ptr (.own 1) 0), (2, .ptr (.own 2) 0), (3, .ptr (.own 3) 0)]) (O := [(1, [.sl false false .U .no 2 [.s (.int .i64 400), .s (.int .i64 100)], .s (.int .i64 10000), .s (.int .i64 12000), AV.nilsl]), (2, [.sl false false .U .no 2 [.s (.int .i64 400), .s (.int .i64 100)], .s (.int .i64 12001), .s (.int .i64 12000), .sl true false .U .no 3 (eBins ordL.bins)]), (3, [.sl false false .U .no 2 [.s (.int .i64 400), .s (.int .i64 100)], .s (.int .i64 10000), .s (.int .i64 12000), .junk])]) (X := []) (T := []) (by simp [ordC, ordN, ordL, ordS1, aBins_cons, eRngs_cons, eBins_cons]) (by rw [aBins_toDs]; rfl) (by simp) (by simp) (St.le_lit rfl (by simp) (by simp [ordC, ordN, ordL, ordS1, aBins_cons, eRngs_cons, eBins_cons]) (by simp) (by simp) (by simp)) (by simp) (by simp) (by simp) ?_
  simp
  have e0 := kn0
  simp only [ordC, ordN, ordL, ordS1] at e0
  refine EW.region (gs_cons alive_ok (gs_cons order_ok (gs_cons (check_ok' ordC szOrd) (gs_cons (check_ok' ordN szN) (gs_cons (check_ok' ordL szL) (gs_cons (check_ok' ordS1 szS1) gs_nil)))))) ?_
  simp [ordC, ordN, ordL, ordS1, aBins_cons, eRngs_cons, eBins_cons, e0.1, e0.2.1, e0.2.2.1, e0.2.2.2]
  refine n4 _ ?_; clear n4 x4
  refine EW.cond (t := _) (by rfl) (fun hc65 => ?_) (fun hc65 => ?_)
  · simp at hc65
  · clear hc65
    refine EW.skip ?_
    refine n3 _ ?_; clear n3 x3
    refine EW.seq fun Ψ5 n5 x5 => ?_
    refine EW.region gs_nil ?_
    simp
    refine n5 _ ?_; clear n5 x5
    refine EW.seq fun Ψ6 n6 x6 => ?_
    refine EW.seq fun Ψ7 n7 x7 => ?_
    refine EW.region gs_nil ?_
    simp
    refine n7 _ ?_; clear n7 x7
    refine EW.block ?_
    refine EW.loopA knS0 (fun i => i ≤ 3) (fun i => 3 - i) 0 (St.le_lit rfl (by simp) (by simp) (by simp) (by simp) (by simp)) ?_ fun p hk => ?_
    · simp
    rename Nat => i
    refine EW.seq fun Ψ8 n8 x8 => ?_
    refine EW.seq fun Ψ9 n9 x9 => ?_
    refine EW.region gs_nil ?_
    simp
    refine n9 _ ?_; clear n9 x9
    refine EW.cond (t := _) (by rfl) (fun hc74 => ?_) (fun hc74 => ?_)
    · simp at hc74
      have hi : i = 0 ∨ i = 1 ∨ i = 2 := by omega
      obtain ⟨j, hj⟩ : ∃ j, j = i + 1 := ⟨_, rfl⟩
      refine EW.skip ?_
      refine n8 _ ?_; clear n8 x8
      refine EW.seq fun Ψ10 n10 x10 => ?_
      refine EW.block ?_
      refine EW.seq fun Ψ11 n11 x11 => ?_
      rcases hi with rfl | rfl | rfl
      · skip
        refine EW.drawn [(0, 4)] mixed (gs_cons order_ok (gs_cons (Keeps_ok ordC [2, 2, 2] szOrd (by simp)) gs_nil)) (by kernel_rfl) ?_
        simp [kn1.1, kn1.2]
        refine n11 _ ?_; clear n11 x11
        refine EW.seq fun Ψ12 n12 x12 => ?_
        refine EW.region gs_nil ?_
        simp
        refine n12 _ ?_; clear n12 x12
        refine EW.cond (t := _) (by rfl) (fun hc95 => ?_) (fun hc95 => ?_)
        · simp at hc95
        · clear hc95
          refine EW.skip ?_
          refine n10 _ ?_; clear n10 x10
          refine EW.hide fun Ψ13 n13 => ?_
          refine EW.region gs_nil ?_
          simp
          refine n13 _ _ ?_; clear n13
          refine ⟨j, (St.le_lit rfl (by simp [hj, knP, eBds_cons, show IntKind.i64.wrap 1 = 1 from by decide, show IntKind.i64.wrap 2 = 2 from by decide, show IntKind.i64.wrap 3 = 3 from by decide, show IntKind.i64.wrap 4 = 4 from by decide]) (by simp) (by simp) (by simp) (by simp)), ?_, ?_⟩
          · show j ≤ _; omega
          · omega
      · skip
        refine EW.drawn [(0, 4)] mixed (gs_cons order_ok (gs_cons (Keeps_ok ordC [0, 4, 2] szOrd (by simp)) gs_nil)) (by kernel_rfl) ?_
        simp [kn2.1, kn2.2]
        refine n11 _ ?_; clear n11 x11
        refine EW.seq fun Ψ14 n14 x14 => ?_
        refine EW.region gs_nil ?_
        simp
        refine n14 _ ?_; clear n14 x14
        refine EW.cond (t := _) (by rfl) (fun hc95 => ?_) (fun hc95 => ?_)
        · simp at hc95
        · clear hc95
          refine EW.skip ?_
          refine n10 _ ?_; clear n10 x10
          refine EW.hide fun Ψ15 n15 => ?_
          refine EW.region gs_nil ?_
          simp
          refine n15 _ _ ?_; clear n15
          refine ⟨j, (St.le_lit rfl (by simp [hj, knP, eBds_cons, show IntKind.i64.wrap 1 = 1 from by decide, show IntKind.i64.wrap 2 = 2 from by decide, show IntKind.i64.wrap 3 = 3 from by decide, show IntKind.i64.wrap 4 = 4 from by decide]) (by simp) (by simp) (by simp) (by simp)), ?_, ?_⟩
          · show j ≤ _; omega
          · omega
      · skip
        refine EW.drawn [(0, 4)] mixed (gs_cons order_ok (gs_cons (Keeps_ok ordC [0, 0, 0] szOrd (by simp)) gs_nil)) (by kernel_rfl) ?_
        simp [kn3.1, kn3.2]
        refine n11 _ ?_; clear n11 x11
        refine EW.seq fun Ψ16 n16 x16 => ?_
        refine EW.region gs_nil ?_
        simp
        refine n16 _ ?_; clear n16 x16
        refine EW.cond (t := _) (by rfl) (fun hc95 => ?_) (fun hc95 => ?_)
        · simp at hc95
        · clear hc95
          refine EW.skip ?_
          refine n10 _ ?_; clear n10 x10
          refine EW.hide fun Ψ17 n17 => ?_
          refine EW.region gs_nil ?_
          simp
          refine n17 _ _ ?_; clear n17
          refine ⟨j, (St.le_lit rfl (by simp [hj, knP, eBds_cons, show IntKind.i64.wrap 1 = 1 from by decide, show IntKind.i64.wrap 2 = 2 from by decide, show IntKind.i64.wrap 3 = 3 from by decide, show IntKind.i64.wrap 4 = 4 from by decide]) (by simp) (by simp) (by simp) (by simp)), ?_, ?_⟩
          · show j ≤ _; omega
          · omega
    · simp at hc74
      refine EW.exit ?_
      refine x8 _ _ rfl ?_; clear n8 x8
      refine n6 _ ?_; clear n6 x6
      refine EW.seq fun Ψ18 n18 x18 => ?_
      refine EW.drawn [(0, 3)] mixed (gs_cons order_ok (gs_cons (Weigh_ok ordC [2, 2, 2] szOrd (by simp)) gs_nil)) (by kernel_rfl) ?_
      simp [kn1.1, kn5]
      refine n18 _ ?_; clear n18 x18
      refine EW.seq fun Ψ19 n19 x19 => ?_
      refine EW.region (gs_cons order_ok (gs_cons (Weigh_ok ordC [5, 0, 0] szOrd (by simp)) gs_nil)) ?_
      simp [kn4.1]
      refine n19 _ ?_; clear n19 x19
      refine EW.seq fun Ψ20 n20 x20 => ?_
      refine EW.region (gs_cons order_ok (gs_cons (Weigh_ok ordC [2, 2] szOrd (by simp)) gs_nil)) ?_
      simp [kn4.2]
      refine n20 _ ?_; clear n20 x20
      refine EW.seq fun Ψ21 n21 x21 => ?_
      refine EW.region (gs_cons (plainO_ok 3) (gs_cons (Cheapest_ok' (plC 3) (szPl 3)) gs_nil)) ?_
      simp [c0, c1, c2]
      refine n21 _ ?_; clear n21 x21
      refine EW.seq fun Ψ22 n22 x22 => ?_
      refine EW.region (gs_cons (plainO_ok 5) (gs_cons (Cheapest_ok' (plC 5) (szPl 5)) gs_nil)) ?_
      simp [c3, c4, c5]
      refine n22 _ ?_; clear n22 x22
      refine EW.seq fun Ψ23 n23 x23 => ?_
      refine EW.seq fun Ψ24 n24 x24 => ?_
      refine EW.region (gs_cons (eqInts_ok [3] [3] (by simp)) gs_nil) ?_
      simp
      refine n24 _ ?_; clear n24 x24
      refine EW.cond (t := _) (by rfl) (fun hc166 => ?_) (fun hc166 => ?_)
      · simp at hc166
      · clear hc166
        refine EW.skip ?_
        refine n23 _ ?_; clear n23 x23
        refine EW.seq fun Ψ25 n25 x25 => ?_
        refine EW.region (gs_cons (plainO_ok 3) (gs_cons (Prove_ok (plC 3) 16 (szPl 3)) gs_nil)) ?_
        simp [p0, p1]
        refine n25 _ ?_; clear n25 x25
        refine EW.seq fun Ψ26 n26 x26 => ?_
        refine EW.region (gs_cons (plainO_ok 5) (gs_cons (Prove_ok (plC 5) 300000000 (szPl 5)) gs_nil)) ?_
        simp [p2, p3]
        refine n26 _ ?_; clear n26 x26
        refine EW.seq fun Ψ27 n27 x27 => ?_
        refine EW.region (gs_cons (cutB_ok 0 2) (gs_cons lightO_ok (gs_cons dearO_ok (gs_cons (cutB_ok 0 4) gs_nil)))) ?_
        simp
        refine n27 _ ?_; clear n27 x27
        refine EW.seq fun Ψ28 n28 x28 => ?_
        refine EW.seq fun Ψ29 n29 x29 => ?_
        refine EW.region gs_nil ?_
        simp
        refine n29 _ ?_; clear n29 x29
        refine EW.block ?_
        refine EW.loopA knS1 (fun i => i ≤ 4) (fun i => 4 - i) 0 (St.le_lit rfl (by simp [knP, eBds_cons]) (by simp) (by simp) (by simp) (by simp)) ?_ fun p hk => ?_
        · simp
        rename Nat => i
        refine EW.seq fun Ψ30 n30 x30 => ?_
        refine EW.seq fun Ψ31 n31 x31 => ?_
        refine EW.region gs_nil ?_
        simp
        refine n31 _ ?_; clear n31 x31
        refine EW.cond (t := _) (by rfl) (fun hc193 => ?_) (fun hc193 => ?_)
        · simp at hc193
          have hi : i = 0 ∨ i = 1 ∨ i = 2 ∨ i = 3 := by omega
          obtain ⟨j, hj⟩ : ∃ j, j = i + 1 := ⟨_, rfl⟩
          refine EW.skip ?_
          refine n30 _ ?_; clear n30 x30
          refine EW.seq fun Ψ32 n32 x32 => ?_
          refine EW.block ?_
          refine EW.seq fun Ψ33 n33 x33 => ?_
          rcases hi with rfl | rfl | rfl | rfl
          · skip
            refine EW.drawn [(0, 4), (0, 9), (5, 9)] mixed (gs_cons (plainO_ok 3) (gs_cons (Verify_ok (plC 3) 15 [⟨1, 0, 2⟩, ⟨2, 0, 0⟩, ⟨5, 0, 0⟩] (szPl 3)) gs_nil)) (by kernel_rfl) ?_
            simp [knP, eBds_cons, v0]
            refine n33 _ ?_; clear n33 x33
            refine EW.cond (t := _) (by rfl) (fun hc206 => ?_) (fun hc206 => ?_)
            · simp at hc206
            · clear hc206
              refine EW.skip ?_
              refine n32 _ ?_; clear n32 x32
              refine EW.hide fun Ψ34 n34 => ?_
              refine EW.region gs_nil ?_
              simp
              refine n34 _ _ ?_; clear n34
              refine ⟨j, (St.le_lit rfl (by simp [hj, knP, eBds_cons, show IntKind.i64.wrap 1 = 1 from by decide, show IntKind.i64.wrap 2 = 2 from by decide, show IntKind.i64.wrap 3 = 3 from by decide, show IntKind.i64.wrap 4 = 4 from by decide]) (by simp) (by simp) (by simp) (by simp)), ?_, ?_⟩
              · show j ≤ _; omega
              · omega
          · skip
            refine EW.drawn [(0, 4), (0, 9), (5, 9)] mixed (gs_cons (plainO_ok 3) (gs_cons (Verify_ok (plC 3) 15 [⟨1, 0, 4⟩] (szPl 3)) gs_nil)) (by kernel_rfl) ?_
            simp [knP, eBds_cons, v1]
            refine n33 _ ?_; clear n33 x33
            refine EW.cond (t := _) (by rfl) (fun hc206 => ?_) (fun hc206 => ?_)
            · simp at hc206
            · clear hc206
              refine EW.skip ?_
              refine n32 _ ?_; clear n32 x32
              refine EW.hide fun Ψ35 n35 => ?_
              refine EW.region gs_nil ?_
              simp
              refine n35 _ _ ?_; clear n35
              refine ⟨j, (St.le_lit rfl (by simp [hj, knP, eBds_cons, show IntKind.i64.wrap 1 = 1 from by decide, show IntKind.i64.wrap 2 = 2 from by decide, show IntKind.i64.wrap 3 = 3 from by decide, show IntKind.i64.wrap 4 = 4 from by decide]) (by simp) (by simp) (by simp) (by simp)), ?_, ?_⟩
              · show j ≤ _; omega
              · omega
          · skip
            refine EW.drawn [(0, 4), (0, 9), (5, 9)] mixed (gs_cons (plainO_ok 3) (gs_cons (Verify_ok (plC 3) 15 [⟨1, 0, 2⟩, ⟨2, 0, 0⟩] (szPl 3)) gs_nil)) (by kernel_rfl) ?_
            simp [knP, eBds_cons, v2]
            refine n33 _ ?_; clear n33 x33
            refine EW.cond (t := _) (by rfl) (fun hc206 => ?_) (fun hc206 => ?_)
            · simp at hc206
            · clear hc206
              refine EW.skip ?_
              refine n32 _ ?_; clear n32 x32
              refine EW.hide fun Ψ36 n36 => ?_
              refine EW.region gs_nil ?_
              simp
              refine n36 _ _ ?_; clear n36
              refine ⟨j, (St.le_lit rfl (by simp [hj, knP, eBds_cons, show IntKind.i64.wrap 1 = 1 from by decide, show IntKind.i64.wrap 2 = 2 from by decide, show IntKind.i64.wrap 3 = 3 from by decide, show IntKind.i64.wrap 4 = 4 from by decide]) (by simp) (by simp) (by simp) (by simp)), ?_, ?_⟩
              · show j ≤ _; omega
              · omega
          · skip
            refine EW.drawn [(0, 4), (0, 9), (5, 9)] mixed (gs_cons (plainO_ok 3) (gs_cons (Verify_ok (plC 3) 15 [⟨5, 0, 0⟩] (szPl 3)) gs_nil)) (by kernel_rfl) ?_
            simp [knP, eBds_cons, v3]
            refine n33 _ ?_; clear n33 x33
            refine EW.cond (t := _) (by rfl) (fun hc206 => ?_) (fun hc206 => ?_)
            · simp at hc206
            · clear hc206
              refine EW.skip ?_
              refine n32 _ ?_; clear n32 x32
              refine EW.hide fun Ψ37 n37 => ?_
              refine EW.region gs_nil ?_
              simp
              refine n37 _ _ ?_; clear n37
              refine ⟨j, (St.le_lit rfl (by simp [hj, knP, eBds_cons, show IntKind.i64.wrap 1 = 1 from by decide, show IntKind.i64.wrap 2 = 2 from by decide, show IntKind.i64.wrap 3 = 3 from by decide, show IntKind.i64.wrap 4 = 4 from by decide]) (by simp) (by simp) (by simp) (by simp)), ?_, ?_⟩
              · show j ≤ _; omega
              · omega
        · simp at hc193
          refine EW.exit ?_
          refine x30 _ _ rfl ?_; clear n30 x30
          refine n28 _ ?_; clear n28 x28
          refine EW.seq fun Ψ38 n38 x38 => ?_
          refine EW.region (gs_cons (reasons_ok [⟨1, 0, 2⟩, ⟨2, 0, 0⟩, ⟨5, 0, 0⟩] (by simp)) gs_nil) ?_
          simp [knP, eBds_cons, kn9]
          refine n38 _ ?_; clear n38 x38
          refine EW.seq fun Ψ39 n39 x39 => ?_
          refine EW.region (gs_cons lightO_ok (gs_cons (eqBds_ok [⟨2, 0, 0⟩] [⟨2, 0, 0⟩] (by simp)) gs_nil)) ?_
          simp [eBds_cons]
          refine n39 _ ?_; clear n39 x39
          refine EW.ret ?_
          refine ⟨_, _, _, rfl, ?_, ?_, ?_, ?_, ?_⟩ <;> simp

end Go.Ev
end
