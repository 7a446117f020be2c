/- Lemmas for the claims of this seat: an evaluator over abstract values, its soundness, and the contracts of the functions of melt that it walks; no premise beyond what each theorem states. -/
import Derived.Test.YtdcelpomnboeoaaLV
import Derived.Test.YtdcelpomnboeoaaLP
import Derived.Test.YtdcelpomnboeoaaLA
import Derived.Test.YtdcelpomnboeoaaLG
import Derived.Test.YtdcelpomnboeoaaLH
import Derived.Test.YtdcelpomnboeoaaLI
import Derived.Test.YtdcelpomnboeoaaLK
import Derived.Test.YtdcelpomnboeoaaLO
import Derived.Test.YtdcelpomnboeoaaLB
import Derived.Test.YtdcelpomnboeoaaLC

section
set_option linter.all false
set_option linter.unusedVariables false
set_option linter.unusedSimpArgs false
namespace Go.Ev
variable {P : Program}

/-! ### Names of the objects that a function hands back -/
/-- The names are turned by s. -/
def shR (s : Nat) : Ref → Option Ref
  | .own k => some (.own (k + s))
  | .ext i => some (.ext i)
theorem ACalls.shift {f : FuncId} {args : List AV} {ext : List (List AV)} {r : AV} {e : List (List AV)} {own : List (Nat × List AV)} (s : Nat) (hf : f ≠ YID) (h : ACalls P f args ext (.ret r e own)) : ACalls P f args ext (.ret (r.mapRef (shR s)) (e.map (mapRefL (shR s))) (own.map fun p => (p.1 + s, mapRefL (shR s) p.2))) := by
  unfold ACalls at h ⊢
  rw [if_neg hf] at h ⊢
  refine ⟨h.1, fun w rd be vs hp => (h.2 w rd be vs hp).mono ?_⟩
  rintro en w' ⟨v, ob, rfl, hR⟩
  let ob' : Nat → Option Nat := fun k => if s ≤ k then ob (k - s) else none
  have hob : ∀ k b, ob' k = some b → s ≤ k ∧ ob (k - s) = some b := fun k b h => by
    simp only [ob'] at h
    split at h
    · exact ⟨‹_›, h⟩
    · cases h
  have hob' : ∀ k, ob' (k + s) = ob k := fun k => by simp [ob']
  have him : ∀ f b o, (c1 w w' rd be ob).im f b o → (c1 w w' rd be ob').im f b o := fun f b o h => by
    rcases h with ⟨h1, h2, h3⟩ | h
    · exact .inl ⟨h1, h2, fun k hk => h3 _ (hob k b hk).2⟩
    · exact .inr h
  have hρ : ∀ r r' b, shR s r = some r' → (c1 w w' rd be ob).rb r = some b → (c1 w w' rd be ob').rb r' = some b := fun r r' b h1 h2 => by
    cases r with
    | own k => cases h1; exact (hob' k).trans h2
    | ext i => cases h1; exact h2
  have hV : ∀ x v, RV w' (c1 w w' rd be ob) x v → RV w' (c1 w w' rd be ob') (x.mapRef (shR s)) v := fun x v hv => RV.mapRef him (fun _ _ _ _ h => h) hρ (fun _ h => h) x v hv
  have hO : ∀ b cs, objR w' (c1 w w' rd be ob) b cs → objR w' (c1 w w' rd be ob') b (mapRefL (shR s) cs) := fun b cs h => by
    rw [mapRefL_eq]; exact h.map _ hV
  refine ⟨v, ob', rfl, hR.fr, by rw [List.length_map]; exact hR.len, fun k k' b h1 h2 => ?_, fun k b h1 => hR.lt _ b (hob k b h1).2, fun k b h1 => ?_, ?_, fun p hp => ?_, fun i b cs hb hc => ?_, hV _ _ hR.ret⟩
  · have a := hob k b h1
    have a' := hob k' b h2
    have := hR.inj _ _ b a.2 a'.2
    omega
  · have a := hob k b h1
    obtain ⟨cs, hcs⟩ := hR.dom _ b a.2
    refine ⟨mapRefL (shR s) cs, List.mem_map.2 ⟨_, hcs, ?_⟩⟩
    simp only [Prod.mk.injEq, and_true]
    omega
  · rw [List.map_map]
    have e : ((fun x : Nat × List AV => x.1) ∘ fun (p : Nat × List AV) => (p.1 + s, mapRefL (shR s) p.2)) = (fun k => k + s) ∘ (fun p : Nat × List AV => p.1) := rfl
    rw [e, ← List.map_map]
    exact List.Pairwise.map _ (fun a b hab h => hab (by omega)) hR.nodup
  · obtain ⟨q, hq, rfl⟩ := List.mem_map.1 hp
    rcases hR.objs q hq with ⟨e1, e2⟩ | ⟨b, e1, e2⟩
    · exact .inl ⟨by simp only [e1]; rfl, (hob' q.1).trans e2⟩
    · exact .inr ⟨b, (hob' q.1).trans e1, hO _ _ e2⟩
  · rw [List.getElem?_map, Option.map_eq_some_iff] at hc
    obtain ⟨cs', h1, rfl⟩ := hc
    exact hO _ _ (hR.exts i b cs' hb h1)
end Go.Ev
end

section
set_option linter.all false
open Go Go.Ev Go.Proofs
namespace Go.Ev
set_option linter.unusedSimpArgs false
set_option linter.unusedVariables false

/-! ### Ranges in cells that are turned -/
def aRngs (l : List (Int × Int)) : List AV := l.flatMap fun r => [.s (.int .i64 r.1), .s (.int .i64 r.2)]
theorem aRngs_cons (r : Int × Int) (l : List (Int × Int)) : aRngs (r :: l) = .s (.int .i64 r.1) :: .s (.int .i64 r.2) :: aRngs l := rfl
theorem aRngs_app (l r : List (Int × Int)) : aRngs (l ++ r) = aRngs l ++ aRngs r := by simp [aRngs]
@[simp] theorem aRngs_nil0 : aRngs [] = [] := rfl
theorem map_eRngs (g f : Bool) (l : List (Int × Int)) : (eRngs l).map (D.av g f) = aRngs l := by
  induction l with
  | nil => rfl
  | cons b l ih =>
    rw [aRngs_cons, ← ih]
    rfl
@[simp] theorem aRngs_len (l : List (Int × Int)) : (aRngs l).length = l.length * 2 := by
  induction l with
  | nil => rfl
  | cons b l ih => rw [aRngs_cons]; simp only [List.length_cons, ih]; omega
theorem aRngs_mem {x : AV} {l : List (Int × Int)} (h : x ∈ aRngs l) : ∃ i, x = .s (.int .i64 i) := by
  obtain ⟨b, _, hx⟩ := List.mem_flatMap.1 h
  simp only [List.mem_cons, List.not_mem_nil, or_false] at hx
  rcases hx with rfl | rfl <;> exact ⟨_, rfl⟩
@[simp] theorem aRngs_nil (l : List (Int × Int)) : (aRngs l = []) ↔ (l = []) := by cases l <;> simp [aRngs_cons]
@[simp high] theorem aRngs_noMen (d : Nat) (l : List (Int × Int)) : noMen d (aRngs l) = true := by
  unfold noMen
  refine List.all_eq_true.2 fun x hx => ?_
  obtain ⟨i, rfl⟩ := aRngs_mem hx
  rfl
@[simp] theorem aRngs_noMen' (d : Nat) (l : List (Int × Int)) : (∀ x, x ∈ aRngs l → ¬ Ref.own d ∈ x.refs) ↔ True := by
  refine iff_true_intro fun x hx => ?_
  obtain ⟨i, rfl⟩ := aRngs_mem hx
  simp [AV.refs]
@[simp] theorem aRngs_purge (d : Nat) : ∀ (l : List (Int × Int)), (aRngs l).map (purgeAV d) = aRngs l
  | [] => rfl
  | b :: l => by rw [aRngs_cons]; simp only [List.map_cons, aRngs_purge d l]; rfl
@[simp] theorem aRngs_isCell (l : List (Int × Int)) : (aRngs l).all AV.isCell = true := by
  refine List.all_eq_true.2 fun x hx => ?_
  obtain ⟨i, rfl⟩ := aRngs_mem hx
  rfl
@[simp] theorem aRngs_mapRef (ρ : Ref → Option Ref) : ∀ (l : List (Int × Int)), mapRefL ρ (aRngs l) = aRngs l
  | [] => rfl
  | b :: l => by rw [aRngs_cons]; simp only [mapRefL, aRngs_mapRef ρ l]; rfl
@[simp] theorem aRngs_refs : ∀ (l : List (Int × Int)), refsL (aRngs l) = []
  | [] => rfl
  | b :: l => by rw [aRngs_cons]; simp only [refsL, aRngs_refs l]; rfl
@[simp] theorem aRngs_toDs : ∀ (l : List (Int × Int)), toDs? (aRngs l) = some (eRngs l, true)
  | [] => rfl
  | b :: l => by rw [aRngs_cons]; simp only [toDs?, aRngs_toDs l]; rfl
@[simp] theorem aRngs_okIn (R : Ref → Bool) (T : Nat → Bool) : ∀ (l : List (Int × Int)), okInL R T (aRngs l) = true
  | [] => rfl
  | b :: l => by rw [aRngs_cons]; simp only [okInL, aRngs_okIn R T l]; rfl
theorem rangesM_ok (l : List (Int × Int)) (hl : (l.length : Int) < 1000000000) : ACalls Try.prog 53 [.sl false false .U .no l.length (eRngs l)] [] (.ret (.sm (.own 5) l.length .no) [] [(5, aRngs l)]) := by
  refine acalls_of_ew Try.func53 rfl rfl (by simp [Try.f53]) (rs := [.tmp 2]) rfl ?_
  refine EW.seq fun Ψ0 n0 x0 => ?_
  refine EW.region gs_nil ?_
  simp
  refine n0 _ ?_; clear n0 x0
  refine EW.seq fun Ψ1 n1 x1 => ?_
  refine EW.region (gs_mut (d := 5) (o := .pan undef) gs_nil) ?_
  simp [show l.length * 16 ≤ 140737488355328 by omega, map_eRngs]
  refine n1 _ ?_; clear n1 x1
  refine EW.ret ?_
  refine ⟨_, _, _, rfl, ?_, ?_, ?_, ?_, ?_⟩ <;> simp
theorem rangesS_ok (s : Nat) (l : List (Int × Int)) (hl : (l.length : Int) < 1000000000) : ACalls Try.prog 53 [.sl false false .U .no l.length (eRngs l)] [] (.ret (.sm (.own (5 + s)) l.length .no) [] [(5 + s, aRngs l)]) := by
  have := (rangesM_ok l hl).shift s (by decide)
  simpa [AV.mapRef, shR] using this

/-! ### The ranges of each bin as an object; G: the names of the objects -/
section
variable (G : Nat → Nat)
def gObj : Nat → List MBin → List (Nat × List AV)
  | _, [] => []
  | K, b :: r => (G K, aRngs b.grams) :: gObj (K + 1) r
def aBinsM : Nat → List MBin → List AV
  | _, [] => []
  | K, b :: r => .sm (.own (G K)) b.grams.length .no :: .s (.int .i64 b.w) :: .s (.int .i64 b.c) :: .s (.int .i64 b.g) :: aBinsM (K + 1) r
@[simp] theorem gObj_nil (K : Nat) : gObj G K [] = [] := rfl
@[simp] theorem aBinsM_nil (K : Nat) : aBinsM G K [] = [] := rfl
theorem gObj_snoc : ∀ (K : Nat) (l : List MBin) (b : MBin), gObj G K (l ++ [b]) = gObj G K l ++ [(G (l.length + K), aRngs b.grams)]
  | K, [], b => by simp [gObj]
  | K, c :: l, b => by
    rw [List.cons_append, gObj, gObj_snoc (K + 1) l b, gObj, List.cons_append, List.length_cons, show l.length + (K + 1) = l.length + 1 + K by omega]
theorem aBinsM_snoc : ∀ (K : Nat) (l : List MBin) (b : MBin), aBinsM G K (l ++ [b]) = aBinsM G K l ++ [AV.sm (.own (G (l.length + K))) b.grams.length .no, .s (.int .i64 b.w), .s (.int .i64 b.c), .s (.int .i64 b.g)]
  | K, [], b => by simp [aBinsM]
  | K, c :: l, b => by
    rw [List.cons_append, aBinsM, aBinsM_snoc (K + 1) l b, aBinsM, List.length_cons, show l.length + (K + 1) = l.length + 1 + K by omega]
    rfl
@[simp] theorem aBinsM_snoc0 (l : List MBin) (b : MBin) : aBinsM G 0 l ++ [AV.sm (.own (G l.length)) b.grams.length .no, .s (.int .i64 b.w), .s (.int .i64 b.c), .s (.int .i64 b.g)] = aBinsM G 0 (l ++ [b]) := (aBinsM_snoc G 0 l b).symm
@[simp] theorem aBinsM_len : ∀ (K : Nat) (l : List MBin), (aBinsM G K l).length = l.length * 4
  | _, [] => rfl
  | K, b :: l => by rw [aBinsM]; simp only [List.length_cons, aBinsM_len (K + 1) l]; omega
variable {G}
theorem aBinsM_mem {x : AV} : ∀ {K : Nat} {l : List MBin}, x ∈ aBinsM G K l → (∃ i, x = .s (.int .i64 i)) ∨ ∃ k n, x = .sm (.own (G k)) n .no
  | _, [], h => by cases h
  | K, b :: l, h => by
    simp only [aBinsM, List.mem_cons] at h
    rcases h with rfl | rfl | rfl | rfl | h
    · exact .inr ⟨K, _, rfl⟩
    · exact .inl ⟨_, rfl⟩
    · exact .inl ⟨_, rfl⟩
    · exact .inl ⟨_, rfl⟩
    · exact aBinsM_mem h
theorem aBinsM_noMen {d K : Nat} {l : List MBin} (h : ∀ i, ¬ d = G i) : noMen d (aBinsM G K l) = true := by
  unfold noMen
  refine List.all_eq_true.2 fun x hx => ?_
  rcases aBinsM_mem hx with ⟨i, rfl⟩ | ⟨k, n, rfl⟩
  · rfl
  · simp [AV.mentions, AV.refs, h]
theorem aBinsM_noMen' {d K : Nat} {l : List MBin} (h : ∀ i, ¬ d = G i) : (∀ x, x ∈ aBinsM G K l → ¬ Ref.own d ∈ x.refs) ↔ True := by
  refine iff_true_intro fun x hx => ?_
  rcases aBinsM_mem hx with ⟨i, rfl⟩ | ⟨k, n, rfl⟩
  · simp [AV.refs]
  · simp [AV.refs, h]
theorem purge_noMen {d : Nat} : ∀ {l : List AV}, noMen d l = true → l.map (purgeAV d) = l
  | [], _ => rfl
  | x :: l, h => by
    simp only [noMen, List.all_cons, Bool.and_eq_true, Bool.not_eq_true'] at h
    rw [List.map_cons, purge_noMen h.2]
    congr 1
    rw [purgeAV, h.1]
    rfl
theorem aBinsM_purge {d K : Nat} {l : List MBin} (h : ∀ i, ¬ d = G i) : (aBinsM G K l).map (purgeAV d) = aBinsM G K l := purge_noMen (aBinsM_noMen h)
@[simp] theorem aBinsM_isCell (K : Nat) (l : List MBin) : (aBinsM G K l).all AV.isCell = true := by
  refine List.all_eq_true.2 fun x hx => ?_
  rcases aBinsM_mem hx with ⟨i, rfl⟩ | ⟨k, n, rfl⟩ <;> rfl
theorem aBinsM_back (rs : List Ref) (key : Nat) {H : Nat → Nat} (hH : ∀ i, 1000 * key + G i = H i) : ∀ (K : Nat) (l : List MBin), mapRefL (refBack rs key) (aBinsM G K l) = aBinsM H K l
  | _, [] => rfl
  | K, b :: l => by
    simp only [aBinsM, mapRefL, AV.mapRef, refBack, aBinsM_back rs key hH (K + 1) l, hH]
theorem okInL_iff {R : Ref → Bool} {T : Nat → Bool} : ∀ {l : List AV}, okInL R T l = true ↔ ∀ x ∈ l, x.okIn R T = true
  | [] => by simp [okInL]
  | x :: l => by simp [okInL, okInL_iff (l := l)]
@[simp] theorem aBinsM_okIn (R : Ref → Bool) (T : Nat → Bool) : ∀ (K : Nat) (l : List MBin), okInL R T (aBinsM G K l) = true ↔ ∀ i, i < l.length → R (.own (G (i + K))) = true
  | _, [] => by simp [okInL]
  | K, b :: l => by
    simp only [aBinsM, okInL, Bool.and_eq_true, aBinsM_okIn R T (K + 1) l, List.length_cons]
    constructor
    · intro ⟨h, _, _, _, h2⟩ i hi
      cases i with
      | zero => simpa [AV.okIn] using h
      | succ i => have := h2 i (by omega); rwa [show i + (K + 1) = i + 1 + K by omega] at this
    · intro h
      refine ⟨by have := h 0 (by omega); simpa [AV.okIn] using this, by simp [AV.okIn], by simp [AV.okIn], by simp [AV.okIn], fun i hi => by have := h (i + 1) (by omega); rwa [show i + 1 + K = i + (K + 1) by omega] at this⟩
theorem gObj_mem : ∀ {K : Nat} {l : List MBin} {p : Nat × List AV}, p ∈ gObj G K l → ∃ i, ∃ h : i < l.length, p = (G (i + K), aRngs l[i].grams)
  | _, [], _, h => by cases h
  | K, b :: l, p, h => by
    rcases List.mem_cons.1 h with rfl | h
    · exact ⟨0, by simp, by simp⟩
    · obtain ⟨i, hi, e⟩ := gObj_mem h
      exact ⟨i + 1, by simp; exact hi, by rw [e, show i + (K + 1) = i + 1 + K by omega]; simp⟩
theorem ofL_gObj_ne {k : Nat} (h : ∀ i, ¬ k = G i) : ∀ {K : Nat} {l : List MBin}, ofL (gObj G K l) k = none
  | K, [] => rfl
  | K, b :: l => by rw [gObj, ofL, if_neg (h K), ofL_gObj_ne h]
@[simp] theorem all_gObj_ok (R : Ref → Bool) (T : Nat → Bool) (K : Nat) (l : List MBin) : ((gObj G K l).all fun p => okInL R T p.2) = true := by
  refine List.all_eq_true.2 fun p hp => ?_
  obtain ⟨i, hi, rfl⟩ := gObj_mem hp
  simp
theorem leO_gObj {V : Nat → Option Nat} {e : Nat → Option (List AV)} : ∀ {K : Nat} {l : List MBin}, (∀ (i : Nat) (b : MBin), l[i]? = some b → e (G (i + K)) = some (aRngs b.grams)) → leO V (gObj G K l) e
  | K, [], _ => trivial
  | K, b :: l, h => by
    refine ⟨⟨_, by have := h 0 b (by simp); rwa [Nat.zero_add] at this, .rfl' _⟩, leO_gObj fun i c hi => ?_⟩
    have := h (i + 1) c (by simpa using hi)
    rwa [show i + 1 + K = i + (K + 1) by omega] at this
theorem leO_gSnoc {V : Nat → Option Nat} {e : Nat → Option (List AV)} {l : List MBin} {b : MBin} (h1 : ∀ (i : Nat) (c : MBin), i < l.length → l[i]? = some c → e (G i) = some (aRngs c.grams)) (h2 : e (G l.length) = some (aRngs b.grams)) : leO V (gObj G 0 (l ++ [b])) e := by
  refine leO_gObj fun i c hi => ?_
  rcases Nat.lt_or_ge i l.length with h | h
  · exact h1 i c h (by rwa [List.getElem?_append_left h] at hi)
  · rw [List.getElem?_append_right h] at hi
    have : i - l.length = 0 := by
      cases hh : i - l.length with
      | zero => rfl
      | succ n => rw [hh] at hi; simp at hi
    have e : i = l.length := by omega
    subst e
    simp at hi
    subst hi
    exact h2
theorem gObj_ne_mem {k K : Nat} {l : List MBin} {x : List AV} (h : ∀ i, ¬ k = G i) : ((k, x) ∈ gObj G K l) ↔ False := by
  refine iff_false_intro fun hm => ?_
  obtain ⟨i, hi, e⟩ := gObj_mem hm
  exact h _ (Prod.mk.inj e).1
theorem map_gObj (rs : List Ref) (key : Nat) {H : Nat → Nat} (hH : ∀ i, 1000 * key + G i = H i) : ∀ (K : Nat) (l : List MBin), ((gObj G K l).map fun p : Nat × List AV => (1000 * key + p.1, mapRefL (refBack rs key) p.2)) = gObj H K l
  | _, [] => rfl
  | K, b :: l => by
    rw [gObj, List.map_cons, map_gObj rs key hH (K + 1) l, gObj]
    simp only [hH, aRngs_mapRef]
theorem fold_gObj_ne {f : Nat → Option (List AV)} {k : Nat} (h : ∀ i, ¬ k = G i) {K : Nat} {l : List MBin} : ((gObj G K l).foldl (fun (own : Nat → Option (List AV)) p => upd own p.1 p.2) f) k = f k := by
  induction l generalizing K f with
  | nil => rfl
  | cons b l ih =>
    rw [gObj, List.foldl_cons, ih]
    simp only [upd]
    rw [if_neg (h K)]
section
variable (hI : ∀ i j, G i = G j → i = j)
include hI
theorem ofL_gObj : ∀ (K : Nat) (l : List MBin) (i : Nat), ofL (gObj G K l) (G (i + K)) = (l[i]?).map fun b => aRngs b.grams
  | K, [], i => by simp [ofL]
  | K, b :: l, 0 => by simp [gObj, ofL]
  | K, b :: l, i + 1 => by
    have := ofL_gObj (K + 1) l i
    rw [gObj, ofL, if_neg (fun h => by have := hI _ _ h; omega), show i + 1 + K = i + (K + 1) by omega, this]
    simp
theorem ofL_gObj0 (l : List MBin) (i : Nat) : ofL (gObj G 0 l) (G i) = (l[i]?).map fun b => aRngs b.grams := ofL_gObj hI 0 l i
theorem any_gObj : ∀ (K : Nat) (l : List MBin) (i : Nat), ((gObj G K l).any fun p => p.1 == G (i + K)) = decide (i < l.length)
  | K, [], i => by simp
  | K, b :: l, 0 => by simp [gObj]
  | K, b :: l, i + 1 => by
    have := any_gObj (K + 1) l i
    rw [gObj, List.any_cons, show i + 1 + K = i + (K + 1) by omega, this]
    have : ¬ G K = G (i + (K + 1)) := fun h => by have := hI _ _ h; omega
    simp [this]
theorem any_gObj0 (l : List MBin) (i : Nat) : ((gObj G 0 l).any fun p => p.1 == G i) = decide (i < l.length) := any_gObj hI 0 l i
theorem gObj_nodup (K : Nat) : ∀ (l : List MBin) , (∀ k ∈ (gObj G K l).map (·.1), ∃ i, K ≤ i ∧ k = G i) ∧ ((gObj G K l).map (·.1)).Nodup := by
  intro l
  induction l generalizing K with
  | nil => simp
  | cons b l ih =>
    obtain ⟨h1, h2⟩ := ih (K + 1)
    rw [gObj, List.map_cons]
    refine ⟨fun k hk => ?_, List.nodup_cons.2 ⟨fun h => ?_, h2⟩⟩
    · rcases List.mem_cons.1 hk with rfl | hk
      · exact ⟨K, Nat.le_refl _, rfl⟩
      · obtain ⟨i, h3, h4⟩ := h1 k hk
        exact ⟨i, by omega, h4⟩
    · obtain ⟨i, h3, h4⟩ := h1 _ h
      have := hI _ _ h4
      omega
theorem fold_gObj {f : Nat → Option (List AV)} : ∀ {K : Nat} {l : List MBin} {i : Nat} {b : MBin}, l[i]? = some b → ((gObj G K l).foldl (fun (own : Nat → Option (List AV)) p => upd own p.1 p.2) f) (G (i + K)) = some (aRngs b.grams) := by
  intro K l
  induction l generalizing K f with
  | nil => intro i b h; simp at h
  | cons c l ih =>
    intro i b h
    rw [gObj, List.foldl_cons]
    cases i with
    | zero =>
      simp at h
      subst h
      have key : ∀ (l : List MBin) (a : Nat) (f : Nat → Option (List AV)), K < a → ((gObj G a l).foldl (fun (own : Nat → Option (List AV)) p => upd own p.1 p.2) f) (G K) = f (G K) := by
        intro l
        induction l with
        | nil => intro a f _; rfl
        | cons b l ih =>
          intro a f ha
          rw [gObj, List.foldl_cons, ih (a + 1) _ (by omega)]
          simp only [upd]
          rw [if_neg (fun h => by have := hI _ _ h; omega)]
      rw [Nat.zero_add, key _ _ _ (by omega)]
      simp [upd]
    | succ i =>
      rw [show i + 1 + K = i + (K + 1) by omega]
      exact ih (by simpa using h)
end
end
end Go.Ev
end

section
set_option linter.all false
open Go Go.Ev Go.Proofs
namespace Go.Ev
set_option linter.unusedSimpArgs false
set_option linter.unusedVariables false


def copyXS (G : Nat → Nat) (o : MOrd) (p : List MBin) : St :=
  St.lit 35 [(1, .ptr (.own 1) 0), (2, .ptr (.own 2) 0), (3, .ptr (.own 3) 0), (4, .s (.int .i64 p.length))] ((1, aOrdC o) :: (2, [AV.nilsl, .s (.int .i64 0), .s (.int .i64 0), AV.nilsl]) ::
    (3, [.sm (.own 10005) o.limits.length .no, .s (.int .i64 o.least), .s (.int .i64 o.most), .sm (.own 32) p.length (.grw 32 4)]) :: (32, aBinsM G 0 p) :: (10005, aInts o.limits) :: gObj G 0 p) [] [(XK 32, (0, 4))]
attribute [simp] copyXS

set_option maxHeartbeats 4000000 in
theorem copyOrderX_ok (G : Nat → Nat) (hG : ∀ s, 27000 + (5 + s) = G s) (o : MOrd) (h1 : (o.limits.length : Int) < 1000000000) (h2 : o.bins.length < 1000000000) (h3 : ∀ b ∈ o.bins, (b.grams.length : Int) < 1000000000) : ACalls Try.prog 18 [.agg [.sl false false .U .no o.limits.length (eInts o.limits), .s (.int .i64 o.least), .s (.int .i64 o.most), .sl false false .U .no o.bins.length (eBins o.bins)]] [] (.ret (.agg [.sm (.own 10005) o.limits.length .no, .s (.int .i64 o.least), .s (.int .i64 o.most), .sm (.own 32) o.bins.length .no]) [] ((32, aBinsM G 0 o.bins) :: (10005, aInts o.limits) :: gObj G 0 o.bins)) := by
  have hI : ∀ i j, G i = G j → i = j := fun i j h => by have a := hG i; have b := hG j; omega
  have hn1 : ∀ k i, k ≤ 20000 → ¬ k = G i := fun k i h e => by have a := hG i; omega
  have hn2 : ∀ k i, k ≤ 20000 → ¬ G i = k := fun k i h e => by have a := hG i; omega
  refine acalls_of_ew Try.func18 rfl rfl (by simp [Try.f18]) (rs := [.cell 2 25]) rfl ?_
  refine EW.seq fun Ψ0 n0 x0 => ?_
  refine EW.region gs_nil ?_
  simp
  refine n0 _ ?_; clear n0 x0
  refine EW.seq fun Ψ1 n1 x1 => ?_
  refine EW.region gs_nil ?_
  simp
  refine n1 _ ?_; clear n1 x1
  refine EW.seq fun Ψ2 n2 x2 => ?_
  refine EW.region (gs_cons (intsM_ok o.limits h1) gs_nil) ?_
  simp
  refine n2 _ ?_; clear n2 x2
  refine EW.seq fun Ψ3 n3 x3 => ?_
  refine EW.seq fun Ψ4 n4 x4 => ?_
  refine EW.nilOwn 32 3 3 4 (cj := [.sm (.own 10005) o.limits.length .no, .s (.int .i64 o.least), .s (.int .i64 o.most), AV.nilsl]) (by simp) (by simp) (by simp) (by simp [AV.nilsl]; exact ⟨rfl, rfl⟩) ?_
  simp
  refine EW.region gs_nil ?_
  simp
  refine n4 _ ?_; clear n4 x4
  refine EW.block ?_
  refine EW.loopA (copyXS G o) (fun p => p.length ≤ o.bins.length ∧ p ++ o.bins.drop p.length = o.bins) (fun p => o.bins.length - p.length) [] (St.le_lit rfl (by simp) (by simp) (by simp) (by simp) (by simp)) ?_ fun p hk => ?_
  · simp
  rename List MBin => acc
  obtain ⟨hk, hw⟩ := hk
  have gn : ofL (gObj G 0 acc) (G acc.length) = none := by rw [ofL_gObj0 hI]; simp
  refine EW.seq fun Ψ5 n5 x5 => ?_
  refine EW.seq fun Ψ6 n6 x6 => ?_
  refine EW.region gs_nil ?_
  simp [hn1, ofL_gObj_ne]
  refine n6 _ ?_; clear n6 x6
  refine EW.cond (t := _) (by rfl) (fun hc16 => ?_) (fun hc16 => ?_)
  · simp at hc16
    have e1 : o.bins[acc.length]? = some o.bins[acc.length] := List.getElem?_eq_getElem hc16
    have h4 := h3 o.bins[acc.length] (List.getElem_mem hc16)
    refine EW.skip ?_
    refine n5 _ ?_; clear n5 x5
    refine EW.seq fun Ψ7 n7 x7 => ?_
    refine EW.block ?_
    refine EW.seq fun Ψ8 n8 x8 => ?_
    refine EW.region gs_nil ?_
    simp [hc16, e1, eBins_atm _ _ _ _ _ e1, show 4 ≤ o.bins.length * 4 - acc.length * 4 by omega, hn1, ofL_gObj_ne]
    refine n8 _ ?_; clear n8 x8
    refine EW.seq fun Ψ9 n9 x9 => ?_
    refine EW.region (gs_cons (rangesS_ok acc.length o.bins[acc.length].grams h4) gs_nil) ?_
    simp [hG, hn1, hn2, ofL_gObj_ne, aBinsM_noMen, aBinsM_noMen', aBinsM_purge, gn]
    refine n9 _ ?_; clear n9 x9
    refine EW.hide fun Ψ10 n10 => ?_
    refine EW.region (gs_mut (d := 31) (o := .pan undef) (gs_mut (d := 32) (o := .pan undef) gs_nil)) ?_
    simp [show (acc.length + 1) * 48 ≤ 140737488355328 by omega, hG, hn1, hn2, ofL_gObj_ne, aBinsM_noMen, aBinsM_noMen', aBinsM_purge]
    refine n10 _ _ ?_; clear n10
    refine n7 _ ?_; clear n7 x7
    refine EW.hide fun Ψ11 n11 => ?_
    refine EW.region gs_nil ?_
    simp
    refine n11 _ _ ?_; clear n11
    have e3 : IntKind.i64.wrap ((acc.length : Int) + 1) = acc.length + 1 := wr_small (by omega) (by omega)
    have hne : ∀ i, i < acc.length → ¬ G i = G acc.length := fun i hi e => by have := hI _ _ e; omega
    refine ⟨(acc ++ [o.bins[acc.length]]), (St.le_lit rfl (by simp [e3]) (by simp [hG, hn1, hn2, ofL_gObj_ne, aBinsM_noMen, aBinsM_noMen', aBinsM_purge]; exact leO_gSnoc (fun i c hi hc => by simp [hG, hn1, hn2, ofL_gObj_ne, aBinsM_noMen, aBinsM_noMen', aBinsM_purge, hc, ofL_gObj0 hI, hne i hi]) (by simp [hG, hn1, hn2, ofL_gObj_ne, aBinsM_noMen, aBinsM_noMen', aBinsM_purge])) (by simp) (by simp) (by simp [any_gObj0 hI, hn1, hn2])), ?_, ?_⟩
    · refine ⟨by simp; omega, ?_⟩
      rw [List.length_append, List.length_singleton, List.append_assoc, List.singleton_append, ← List.drop_eq_getElem_cons]; exact hw
    · simp; omega
  · simp at hc16
    have hkl : acc.length = o.bins.length := by omega
    rw [hkl] at hw
    simp at hw
    refine EW.exit ?_
    refine x5 _ _ rfl ?_; clear n5 x5
    refine n3 _ ?_; clear n3 x3
    refine EW.seq fun Ψ12 n12 x12 => ?_
    refine EW.region gs_nil ?_
    simp
    refine n12 _ ?_; clear n12 x12
    refine EW.ret ?_
    refine ⟨_, _, _, rfl, ?_, ?_, ?_, ?_, ?_⟩
    · simp [hw, hn1, ofL_gObj_ne]
    · simp
    · simp [hw, hn1, ofL_gObj_ne]; exact leO_gObj fun i b hb => by simp [hn2, ofL_gObj0 hI, hb]
    · simp [gObj_ne_mem, hn1]; exact (gObj_nodup hI _ _).2
    · simp [any_gObj0 hI, hn1, hn2]


/-- The same, where the name of the limits' object is told apart from its number. -/
theorem copyOrderY_ok (G : Nat → Nat) (KL : Nat) (hK : KL = 10005) (hG : ∀ s, 27000 + (5 + s) = G s) (o : MOrd) (h1 : (o.limits.length : Int) < 1000000000) (h2 : o.bins.length < 1000000000) (h3 : ∀ b ∈ o.bins, (b.grams.length : Int) < 1000000000) : ACalls Try.prog 18 [.agg [.sl false false .U .no o.limits.length (eInts o.limits), .s (.int .i64 o.least), .s (.int .i64 o.most), .sl false false .U .no o.bins.length (eBins o.bins)]] [] (.ret (.agg [.sm (.own KL) o.limits.length .no, .s (.int .i64 o.least), .s (.int .i64 o.most), .sm (.own 32) o.bins.length .no]) [] ((32, aBinsM G 0 o.bins) :: (KL, aInts o.limits) :: gObj G 0 o.bins)) := by
  subst hK
  exact copyOrderX_ok G hG o h1 h2 h3
end Go.Ev
end

section
set_option linter.all false
open Go Go.Ev Go.Proofs
namespace Go.Ev
set_option linter.unusedSimpArgs false
set_option linter.unusedVariables false

/-! ### An order that is easier -/
def easN (n y : Int) : Int := wr (n + eitV [0, belV 50 y] (belS 50 y))
def easNs (y : Int) : Int := eitS [0, belV 50 y] (belS 50 y)
def easL : List Int → Int → List Int
  | [], _ => []
  | n :: l, y => easN n y :: easL l (easNs y)
def easLs : List Int → Int → Int
  | [], y => y
  | _ :: l, y => easLs l (easNs y)
def easR (r : Int × Int) (y : Int) : Int × Int := (betV 0 r.1 (betS r.1 r.2 y), betV r.1 r.2 y)
def easRs (r : Int × Int) (y : Int) : Int := betS 0 r.1 (betS r.1 r.2 y)
def easG : List (Int × Int) → Int → List (Int × Int)
  | [], _ => []
  | r :: l, y => easR r y :: easG l (easRs r y)
def easGs : List (Int × Int) → Int → Int
  | [], y => y
  | r :: l, y => easGs l (easRs r y)
def easC (b : MBin) (y : Int) : Int := betV 0 b.c y
def easQ (b : MBin) (y : Int) : Int := wr (b.g + belV 2 (betS 0 b.c y))
def easY (b : MBin) (y : Int) : Int := belS 2 (betS 0 b.c y)
def easB1 (b : MBin) (y : Int) : MBin := ⟨easG b.grams (easY b y), b.w, easC b y, easQ b y⟩
def easB : List MBin → Int → List MBin
  | [], _ => []
  | b :: l, y => easB1 b y :: easB l (easGs b.grams (easY b y))
def easBs : List MBin → Int → Int
  | [], y => y
  | b :: l, y => easBs l (easGs b.grams (easY b y))
section
variable (o : MOrd) (y : Int)
def eaY1 : Int := easLs o.limits y
def eaY2 : Int := betS 0 o.least (eaY1 o y)
def eaLe : Int := betV 0 o.least (eaY1 o y)
def eaMo : Int := wr (o.most + belV 4 (eaY2 o y))
def eaY3 : Int := belS 4 (eaY2 o y)
def easO : MOrd := ⟨easL o.limits y, eaLe o y, eaMo o y, easB o.bins (eaY3 o y)⟩
end
/-! What of it is easier. -/
def EN : List Int → List Int → Prop
  | n :: l, m :: r => (n ≤ m ∧ m ≤ n + 49) ∧ EN l r
  | [], [] => True
  | _, _ => False
def EG : List (Int × Int) → List (Int × Int) → Prop
  | p :: l, q :: r => (0 ≤ q.1 ∧ q.1 ≤ q.2 ∧ q.2 ≤ p.2) ∧ EG l r
  | [], [] => True
  | _, _ => False
def EB1 (b c : MBin) : Prop := c.w = b.w ∧ (0 ≤ c.c ∧ c.c ≤ b.c) ∧ (b.g ≤ c.g ∧ c.g ≤ b.g + 1) ∧ EG b.grams c.grams
def EB : List MBin → List MBin → Prop
  | b :: l, c :: r => EB1 b c ∧ EB l r
  | [], [] => True
  | _, _ => False
theorem EN.len : ∀ {l r : List Int}, EN l r → r.length = l.length
  | [], [], _ => rfl
  | _ :: _, _ :: _, h => by simp [h.2.len]
  | [], _ :: _, h => h.elim
  | _ :: _, [], h => h.elim
theorem EG.len : ∀ {l r : List (Int × Int)}, EG l r → r.length = l.length
  | [], [], _ => rfl
  | _ :: _, _ :: _, h => by simp [h.2.len]
  | [], _ :: _, h => h.elim
  | _ :: _, [], h => h.elim
theorem EB.len : ∀ {l r : List MBin}, EB l r → r.length = l.length
  | [], [], _ => rfl
  | _ :: _, _ :: _, h => by simp [h.2.len]
  | [], _ :: _, h => h.elim
  | _ :: _, [], h => h.elim
theorem EN.get : ∀ {l r : List Int}, EN l r → ∀ (j : Nat) (h : j < l.length) (h' : j < r.length), l[j] ≤ r[j] ∧ r[j] ≤ l[j] + 49
  | [], [], _, j, h, _ => by simp at h
  | _ :: _, _ :: _, h, 0, _, _ => h.1
  | _ :: _, _ :: _, h, j + 1, h1, h2 => EN.get h.2 j (by simpa using h1) (by simpa using h2)
  | [], _ :: _, h, _, _, _ => h.elim
  | _ :: _, [], h, _, _, _ => h.elim
theorem EN.mem : ∀ {l r : List Int}, EN l r → ∀ n ∈ r, ∃ m ∈ l, m ≤ n ∧ n ≤ m + 49
  | [], [], _, n, h => by cases h
  | a :: l, b :: r, h, n, hn => by
    rcases List.mem_cons.1 hn with rfl | hn
    · exact ⟨a, by simp, h.1⟩
    · obtain ⟨m, h1, h2⟩ := EN.mem h.2 n hn
      exact ⟨m, by simp [h1], h2⟩
  | [], _ :: _, h, _, _ => h.elim
  | _ :: _, [], h, _, _ => h.elim
theorem EG.mem : ∀ {l r : List (Int × Int)}, EG l r → ∀ q ∈ r, ∃ p ∈ l, 0 ≤ q.1 ∧ q.1 ≤ q.2 ∧ q.2 ≤ p.2
  | [], [], _, n, h => by cases h
  | a :: l, b :: r, h, n, hn => by
    rcases List.mem_cons.1 hn with rfl | hn
    · exact ⟨a, by simp, h.1⟩
    · obtain ⟨m, h1, h2⟩ := EG.mem h.2 n hn
      exact ⟨m, by simp [h1], h2⟩
  | [], _ :: _, h, _, _ => h.elim
  | _ :: _, [], h, _, _ => h.elim
theorem EG.getD : ∀ {l r : List (Int × Int)}, EG l r → ∀ (j : Nat), (r.getD j (0, 0)).2 ≤ (l.getD j (0, 0)).2
  | [], [], _, j => by simp
  | _ :: _, _ :: _, h, 0 => by simpa using h.1.2.2
  | _ :: _, _ :: _, h, j + 1 => by simpa using EG.getD h.2 j
  | [], _ :: _, h, _ => h.elim
  | _ :: _, [], h, _ => h.elim
theorem EB.mem : ∀ {l r : List MBin}, EB l r → ∀ c ∈ r, ∃ b ∈ l, EB1 b c
  | [], [], _, n, h => by cases h
  | a :: l, b :: r, h, n, hn => by
    rcases List.mem_cons.1 hn with rfl | hn
    · exact ⟨a, by simp, h.1⟩
    · obtain ⟨m, h1, h2⟩ := EB.mem h.2 n hn
      exact ⟨m, by simp [h1], h2⟩
  | [], _ :: _, h, _, _ => h.elim
  | _ :: _, [], h, _, _ => h.elim
theorem EB.okR : ∀ {bs cs : List MBin} {r : List Int}, EB bs cs → okR bs r → okR cs r
  | [], [], [], _, _ => trivial
  | b :: bs, c :: cs, n :: r, h, k => by
    have := h.1.2.2.1
    exact ⟨⟨k.1.1, by have := k.1.2; omega⟩, EB.okR h.2 k.2⟩
  | [], [], _ :: _, _, k => k.elim
  | _ :: _, _ :: _, [], _, k => k.elim
  | [], _ :: _, _, h, _ => h.elim
  | _ :: _, [], _, h, _ => h.elim
theorem EB.sXw : ∀ {bs cs : List MBin} (r : List Int), EB bs cs → sX (·.w) cs r = sX (·.w) bs r
  | [], [], _, _ => rfl
  | b :: bs, c :: cs, n :: r, h => by rw [sX, sX, EB.sXw r h.2, h.1.1]
  | b :: bs, c :: cs, [], _ => by rw [sX_nil, sX_nil]
  | [], _ :: _, _, h => h.elim
  | _ :: _, [], _, h => h.elim
theorem EB.sXc : ∀ {bs cs : List MBin} {r : List Int}, EB bs cs → (∀ n ∈ r, 0 ≤ n) → sX (·.c) cs r ≤ sX (·.c) bs r
  | [], [], _, _, _ => Int.le_refl _
  | b :: bs, c :: cs, n :: r, h, hn => by
    have h1 := EB.sXc (r := r) h.2 fun m hm => hn m (by simp [hm])
    have h2 := Int.mul_le_mul_of_nonneg_left h.1.2.1.2 (hn n (by simp))
    rw [sX, sX]
    omega
  | b :: bs, c :: cs, [], _, _ => by rw [sX_nil, sX_nil]; exact Int.le_refl _
  | [], _ :: _, _, h, _ => h.elim
  | _ :: _, [], _, h, _ => h.elim
theorem EB.bey {j : Nat} {m m' : Int} (hm : m ≤ m') : ∀ {bs cs : List MBin} {r : List Int}, EB bs cs → (∀ b ∈ bs, 1 ≤ b.w) → (∀ n ∈ r, 0 ≤ n) → beyZ true j m' cs r ≤ beyZ true j m bs r
  | [], [], _, _, _, _ => by simp [beyZ]
  | b :: bs, c :: cs, n :: r, h, hw, hn => by
    have h1 := EB.bey (j := j) (r := r) hm h.2 (fun b hb => hw b (by simp [hb])) fun m hm => hn m (by simp [hm])
    have h0 : 0 ≤ n * b.w := Int.mul_nonneg (hn n (by simp)) (by have := hw b (by simp); omega)
    have hg := EG.getD h.1.2.2.2 j
    have h2 := Int.mul_le_mul_of_nonneg_left (show (c.grams.getD j (0, 0)).2 - m' ≤ (b.grams.getD j (0, 0)).2 - m by omega) h0
    simp only [beyZ, h.1.1, endR, if_true]
    omega
  | b :: bs, c :: cs, [], _, _, _ => by simp [beyZ]
  | [], _ :: _, _, h, _, _ => h.elim
  | _ :: _, [], _, h, _, _ => h.elim
/-! An order that is easier than one that is made. -/
structure Eas (o x : MOrd) : Prop where
  lim : EN o.limits x.limits
  lo : 0 ≤ x.least ∧ x.least ≤ o.least ∧ o.most ≤ x.most ∧ x.most ≤ o.most + 3
  bin : EB o.bins x.bins
theorem Eas.ok {o x : MOrd} (m : MkO 3 2 4 o) (e : Eas o x) : OkO x where
  nl := by rw [e.lim.len]; have := m.nl; omega
  lim := fun n hn => by
    obtain ⟨q, h1, h2⟩ := e.lim.mem n hn
    have := m.lim q h1
    omega
  lo := by have := m.lo; have := e.lo; omega
  ne := fun h => by
    have := e.bin.len
    rw [h] at this
    have := m.nb.1
    simp at *
    omega
  nb := by rw [e.bin.len]; have := m.nb.2; omega
  bin := fun c hc => by
    obtain ⟨b, hb, h1, h2, h3, h4⟩ := e.bin.mem c hc
    have k := m.bin b hb
    refine ⟨by rw [h4.len, k.len, e.lim.len], fun r hr => ?_, by rw [h1]; have := k.w; omega, by have := k.c; omega, by have := k.g; omega⟩
    obtain ⟨p, hp, h5⟩ := h4.mem r hr
    have := k.rng p hp
    omega
section
variable {o x : MOrd} (m : MkO 3 2 4 o) (e : Eas o x) {l : List Int} (hl : okBl o l)
include e hl
theorem Eas.bl : okBl x l := by
  have h := EB.okR e.bin (okR_of hl.1 hl.2)
  exact ⟨h.len, h.get⟩
include m
theorem Eas.good (hg : goodB o l = true) : goodB x l = true ∧ cW x l ≤ cW o l := by
  have q := m.ok (by decide) (by decide) (by decide)
  have q' := e.ok m
  have hl' := e.bl hl
  have hp := hl.pos q
  have hp0 : ∀ n ∈ l, 0 ≤ n := fun n hn => (hp n hn).1
  have hlen : l.length ≤ 4 := by rw [hl.1]; exact q.nb
  unfold goodB nW at hg ⊢
  unfold cW
  rw [weighL_ok q hl] at hg ⊢
  rw [weighL_ok q' hl']
  simp only [decide_eq_true_eq] at hg ⊢
  rw [EB.sXw l e.bin]
  obtain ⟨h1, h2, h3⟩ := hg
  have lo := e.lo
  refine ⟨⟨by omega, by omega, ?_⟩, EB.sXc e.bin hp0⟩
  unfold keepV at h3 ⊢
  rw [keepL_1 _ _ _ _ _ (.inl rfl)] at h3 ⊢
  refine ⟨rfl, fun j hj => ?_⟩
  have hj0 : j < o.limits.length := by rw [← e.lim.len]; exact hj
  have h4 := (h3.2 j hj0).2
  rw [Nat.zero_add] at h4 ⊢
  have b1 := beyL_eq true x.limits x.bins _ j (fun b hb => q'.bin b hb) rfl hj q'.lim l 0 0 (hl'.pos q') (by rw [hl'.1]; omega) (by omega) (by omega)
  have b2 := beyL_eq true o.limits o.bins _ j (fun b hb => q.bin b hb) rfl hj0 q.lim l 0 0 hp (by rw [hl.1]; omega) (by omega) (by omega)
  have b3 := beyL_eq false x.limits x.bins _ j (fun b hb => q'.bin b hb) rfl hj q'.lim l 0 0 (hl'.pos q') (by rw [hl'.1]; omega) (by omega) (by omega)
  have b4 := EB.bey (j := j) (e.lim.get j hj0 hj).1 e.bin (fun b hb => (q.bin b hb).w.1) hp0
  have b5 := beyZ_mono j x.limits[j] _ x.bins l (fun b hb => q'.bin b hb) (hl'.pos q')
  simp only [List.drop_zero, Int.zero_add] at b1 b2 b3
  rw [b1, b3]
  rw [b2] at h4
  omega
end
theorem Eas.cheap {o x : MOrd} (m : MkO 3 2 4 o) (e : Eas o x) : (cheapE o = 0 ∧ cheapE x = 0 ∧ cheapC x ≤ cheapC o) ∨ cheapE o = 13 := by
  have q := m.ok (by decide) (by decide) (by decide)
  rcases cheap_facts q with ⟨h, _⟩ | ⟨h1, _, ⟨l, h2, h3, h4⟩, _⟩
  · exact .inr h
  · obtain ⟨g1, g2⟩ := e.good m h2 h3
    rcases cheap_facts (e.ok m) with ⟨_, _, _, h⟩ | ⟨h5, _, _, h6⟩
    · rw [h l (e.bl h2)] at g1; cases g1
    · have := h6 l (e.bl h2) g1
      exact .inl ⟨h1, h5, by omega⟩
/-! The order that is made easier. -/
theorem easL_EN : ∀ (l : List Int) (y : Int), (∀ n ∈ l, 20 ≤ n ∧ n ≤ 300) → EN l (easL l y)
  | [], _, _ => trivial
  | n :: l, y, h => by
    refine ⟨?_, easL_EN l _ fun m hm => h m (by simp [hm])⟩
    have h1 := bel_ge 50 y (by decide)
    have h2 := bel_lt 50 y (by decide) (by decide)
    have h3 := eit_mem [0, belV 50 y] (belS 50 y) (by simp) (by simp)
    have h4 := h n (by simp)
    simp only [List.mem_cons, List.not_mem_nil, or_false] at h3
    unfold easN
    generalize eitV [0, belV 50 y] (belS 50 y) = t at *
    generalize belV 50 y = u at *
    rw [wr_small (by omega) (by omega)]
    omega
theorem easG_EG : ∀ (l : List (Int × Int)) (y : Int), (∀ r ∈ l, 0 ≤ r.1 ∧ r.1 ≤ r.2 ∧ r.2 ≤ 600) → EG l (easG l y)
  | [], _, _ => trivial
  | r :: l, y, h => by
    refine ⟨?_, easG_EG l _ fun m hm => h m (by simp [hm])⟩
    have h1 := h r (by simp)
    have h2 := bet_in r.1 r.2 y h1.2.1 (by omega) (by omega)
    have h3 := bet_in 0 r.1 (betS r.1 r.2 y) h1.1 (by omega) (by omega)
    simp only [easR]
    omega
theorem easB_EB (nl : Nat) : ∀ (l : List MBin) (y : Int), (∀ b ∈ l, MkB nl 4 b) → EB l (easB l y)
  | [], _, _ => trivial
  | b :: l, y, h => by
    have k := h b (by simp)
    have h1 := bet_in 0 b.c y k.c.1 (by omega) (by have := k.c; omega)
    have h2 := bel_ge 2 (betS 0 b.c y) (by decide)
    have h3 := bel_lt 2 (betS 0 b.c y) (by decide) (by decide)
    have hw := k.g
    refine ⟨⟨rfl, h1, ?_, easG_EG _ _ k.rng⟩, easB_EB nl l _ fun m hm => h m (by simp [hm])⟩
    show b.g ≤ easQ b y ∧ easQ b y ≤ b.g + 1
    unfold easQ
    generalize belV 2 (betS 0 b.c y) = u at *
    rw [wr_small (by omega) (by omega)]
    omega
theorem easO_Eas {o : MOrd} (m : MkO 3 2 4 o) (y : Int) : Eas o (easO o y) where
  lim := easL_EN _ _ m.lim
  lo := by
    have lo := m.lo
    have h1 := bet_in 0 o.least (eaY1 o y) lo.1 (by omega) (by omega)
    have h2 := bel_ge 4 (eaY2 o y) (by decide)
    have h3 := bel_lt 4 (eaY2 o y) (by decide) (by decide)
    show 0 ≤ eaLe o y ∧ eaLe o y ≤ o.least ∧ o.most ≤ eaMo o y ∧ eaMo o y ≤ o.most + 3
    unfold eaLe eaMo
    generalize belV 4 (eaY2 o y) = u at *
    rw [wr_small (by omega) (by omega)]
    omega
  bin := easB_EB _ _ _ m.bin
end Go.Ev
end

section
set_option linter.all false
open Go Go.Ev Go.Proofs
namespace Go.Ev
set_option linter.unusedSimpArgs false
set_option linter.unusedVariables false


theorem ite_no {α : Sort _} {p : Prop} [Decidable p] {a b : α} (h : ¬ p) : (if p then a else b) = b := if_neg h
theorem aInts_get (l : List Int) (i : Nat) : (aInts l)[i]? = (l[i]?).map fun n => AV.s (.int .i64 n) := by simp [aInts]
/-- A bin in the middle: what is done, the bin's cells, and the rest. -/
def xB (dn : List MBin) (x : AV) (w c g : Int) (t : List AV) : List AV := aBins dn ++ x :: .s (.int .i64 w) :: .s (.int .i64 c) :: .s (.int .i64 g) :: t
def yB (dg : List (Int × Int)) (a c : Int) (t : List (Int × Int)) : List AV := aRngs dg ++ .s (.int .i64 a) :: .s (.int .i64 c) :: aRngs t
def oB (H : Nat → Nat) (dn : List MBin) : List MBin → List AV
  | [] => aBins dn
  | b :: t => xB dn (.sm (.own (H dn.length)) b.grams.length .no) b.w b.c b.g (aBinsM H (dn.length + 1) t)
theorem mid_get {A : List AV} {n : Nat} (h : A.length = n) (B : List AV) (j : Nat) : (A ++ B)[n + j]? = B[j]? := by rw [List.getElem?_append_right (by omega), h]; congr 1; omega
theorem mid_put {A : List AV} {n : Nat} (h : A.length = n) (B : List AV) (v : AV) (j : Nat) (hj : j < B.length) : List.take (n + j) (A ++ B) ++ v :: List.drop (n + j + 1) (A ++ B) = A ++ B.set j v := by
  rw [List.take_append, List.drop_append, h, List.take_of_length_le (by omega), List.drop_eq_nil_of_le (by omega), show n + j - n = j by omega, show n + j + 1 - n = j + 1 by omega, List.nil_append, List.append_assoc, List.set_eq_take_append_cons_drop, if_pos hj]
section
variable (dn : List MBin) (x : AV) (w c g : Int) (t : List AV)
@[simp] theorem xB_len : (xB dn x w c g t).length = dn.length * 4 + (t.length + 4) := by simp [xB]
@[simp] theorem xB_0 : (xB dn x w c g t)[dn.length * 4]? = some x := mid_get (aBins_len dn) _ 0
@[simp] theorem xB_2 : (xB dn x w c g t)[dn.length * 4 + 2]? = some (.s (.int .i64 c)) := mid_get (aBins_len dn) _ 2
@[simp] theorem xB_3 : (xB dn x w c g t)[dn.length * 4 + 3]? = some (.s (.int .i64 g)) := mid_get (aBins_len dn) _ 3
@[simp] theorem xB_0' (h : dn.length * 4 < (xB dn x w c g t).length) : (xB dn x w c g t)[dn.length * 4] = x := by have := xB_0 dn x w c g t; rw [List.getElem?_eq_getElem h] at this; exact Option.some.inj this
@[simp] theorem xB_2' (h : dn.length * 4 + 2 < (xB dn x w c g t).length) : (xB dn x w c g t)[dn.length * 4 + 2] = .s (.int .i64 c) := by have := xB_2 dn x w c g t; rw [List.getElem?_eq_getElem h] at this; exact Option.some.inj this
@[simp] theorem xB_3' (h : dn.length * 4 + 3 < (xB dn x w c g t).length) : (xB dn x w c g t)[dn.length * 4 + 3] = .s (.int .i64 g) := by have := xB_3 dn x w c g t; rw [List.getElem?_eq_getElem h] at this; exact Option.some.inj this
@[simp] theorem xB_p2 (v : Int) : List.take (dn.length * 4 + 2) (xB dn x w c g t) ++ AV.s (.int .i64 v) :: List.drop (dn.length * 4 + 3) (xB dn x w c g t) = xB dn x w v g t := mid_put (aBins_len dn) (x :: .s (.int .i64 w) :: .s (.int .i64 c) :: .s (.int .i64 g) :: t) _ 2 (by simp)
@[simp] theorem xB_p3 (v : Int) : List.take (dn.length * 4 + 3) (xB dn x w c g t) ++ AV.s (.int .i64 v) :: List.drop (dn.length * 4 + 4) (xB dn x w c g t) = xB dn x w c v t := mid_put (aBins_len dn) (x :: .s (.int .i64 w) :: .s (.int .i64 c) :: .s (.int .i64 g) :: t) _ 3 (by simp)
theorem xB_set (v : AV) : (xB dn x w c g t).set (dn.length * 4) v = xB dn v w c g t := by
  unfold xB
  rw [List.set_append_right _ _ (by simp)]
  simp
end
section
variable (dg : List (Int × Int)) (a c : Int) (t : List (Int × Int))
theorem yB_eq : aRngs (dg ++ (a, c) :: t) = yB dg a c t := by rw [aRngs_app, aRngs_cons]; rfl
theorem yB_eq' (r : Int × Int) : aRngs (dg ++ r :: t) = yB dg r.1 r.2 t := by rw [aRngs_app, aRngs_cons]; rfl
@[simp] theorem yB_len : (yB dg a c t).length = dg.length * 2 + (t.length * 2 + 2) := by simp [yB]
@[simp] theorem yB_0 : (yB dg a c t)[dg.length * 2]? = some (.s (.int .i64 a)) := mid_get (aRngs_len dg) _ 0
@[simp] theorem yB_1 : (yB dg a c t)[dg.length * 2 + 1]? = some (.s (.int .i64 c)) := mid_get (aRngs_len dg) _ 1
@[simp] theorem yB_0' (h : dg.length * 2 < (yB dg a c t).length) : (yB dg a c t)[dg.length * 2] = .s (.int .i64 a) := by have := yB_0 dg a c t; rw [List.getElem?_eq_getElem h] at this; exact Option.some.inj this
@[simp] theorem yB_1' (h : dg.length * 2 + 1 < (yB dg a c t).length) : (yB dg a c t)[dg.length * 2 + 1] = .s (.int .i64 c) := by have := yB_1 dg a c t; rw [List.getElem?_eq_getElem h] at this; exact Option.some.inj this
@[simp] theorem yB_p0 (v : Int) : List.take (dg.length * 2) (yB dg a c t) ++ AV.s (.int .i64 v) :: List.drop (dg.length * 2 + 1) (yB dg a c t) = yB dg v c t := mid_put (aRngs_len dg) (.s (.int .i64 a) :: .s (.int .i64 c) :: aRngs t) _ 0 (by simp)
@[simp] theorem yB_p1 (v : Int) : List.take (dg.length * 2 + 1) (yB dg a c t) ++ AV.s (.int .i64 v) :: List.drop (dg.length * 2 + 2) (yB dg a c t) = yB dg a v t := mid_put (aRngs_len dg) (.s (.int .i64 a) :: .s (.int .i64 c) :: aRngs t) _ 1 (by simp)
end
section
variable {H : Nat → Nat} (hI : ∀ i j, H i = H j → i = j)
include hI
theorem ofL_gObj_at {a K : Nat} (h : a < K) : ∀ {l : List MBin}, ofL (gObj H K l) (H a) = none
  | [] => rfl
  | b :: l => by rw [gObj, ofL, if_neg (fun e => by have := hI _ _ e; omega), ofL_gObj_at (by omega)]
end
theorem oB_done {V : Nat → Option Nat} {H : Nat → Nat} (dn t : List MBin) (b : MBin) (n : Nat) (h : n = b.grams.length) : AVles V (oB H (dn ++ [b]) t) (xB dn (.sl true true .U .no n (eRngs b.grams)) b.w b.c b.g (aBinsM H (dn.length + 1) t)) := by
  subst h
  have key : ∀ (A : List AV) {B C : List AV}, AVles V B C → AVles V (A ++ B) (A ++ C) := fun A => by
    induction A with
    | nil => intro B C h; exact h
    | cons a A ih => intro B C h; exact .cons (.same a) (ih h)
  have e : oB H (dn ++ [b]) t = aBins dn ++ AV.sl false false .U .no b.grams.length (eRngs b.grams) :: .s (.int .i64 b.w) :: .s (.int .i64 b.c) :: .s (.int .i64 b.g) :: aBinsM H (dn.length + 1) t := by
    cases t with
    | nil => rw [oB, aBins_app, aBins_cons]; rfl
    | cons q t => rw [oB, xB, aBins_app, aBins_cons, List.length_append, List.append_assoc]; rfl
  rw [e]
  refine key _ (.cons (.sl (by simp) (by simp) (.inl rfl) (.inl rfl)) (.rfl' _))
@[simp] theorem oB_okIn (R : Ref → Bool) (T : Nat → Bool) {H : Nat → Nat} (dn t : List MBin) : okInL R T (oB H dn t) = true ↔ ∀ i, i < t.length → R (.own (H (i + dn.length))) = true := by
  have app : ∀ (A B : List AV), okInL R T (A ++ B) = (okInL R T A && okInL R T B) := fun A B => by
    induction A with
    | nil => simp [okInL]
    | cons a A ih => simp [okInL, ih, Bool.and_assoc]
  cases t with
  | nil => simp [oB]
  | cons b t =>
    rw [← aBinsM_okIn (G := H) R T dn.length (b :: t)]
    rw [oB, xB, app, aBins_okIn, Bool.true_and, aBinsM]
@[simp] theorem xB_okIn (R : Ref → Bool) (T : Nat → Bool) (dn : List MBin) (x : AV) (w c g : Int) (t : List AV) : okInL R T (xB dn x w c g t) = (x.okIn R T && okInL R T t) := by
  have app : ∀ (A B : List AV), okInL R T (A ++ B) = (okInL R T A && okInL R T B) := fun A B => by
    induction A with
    | nil => simp [okInL]
    | cons a A ih => simp [okInL, ih, Bool.and_assoc]
  rw [xB, app, aBins_okIn]
  simp [okInL, AV.okIn]
@[simp] theorem xB_junk {V : Nat → Option Nat} (dn : List MBin) (x : AV) (w c g : Int) (t : List AV) : AVles V (xB dn .junk w c g t) (xB dn x w c g t) ↔ True := by
  have key : ∀ (A : List AV) {B C : List AV}, AVles V B C → AVles V (A ++ B) (A ++ C) := fun A => by
    induction A with
    | nil => intro B C h; exact h
    | cons a A ih => intro B C h; exact .cons (.same a) (ih h)
  exact iff_true_intro (key _ (.cons (.junk x) (.rfl' _)))
theorem oB_0 (H : Nat → Nat) : ∀ l, oB H [] l = aBinsM H 0 l
  | [] => rfl
  | b :: l => rfl
theorem fold_gObj0 {H : Nat → Nat} (hI : ∀ i j, H i = H j → i = j) {f : Nat → Option (List AV)} {l : List MBin} {i : Nat} {b : MBin} (h : l[i]? = some b) : ((gObj H 0 l).foldl (fun (own : Nat → Option (List AV)) p => upd own p.1 p.2) f) (H i) = some (aRngs b.grams) := fold_gObj hI h


def eaE (l : List (Nat × AV)) : List (Nat × AV) := (3, .ptr (.own 19006) 0) :: (4, .ptr (.own 4) 0) :: (5, .ptr (.own 5) 0) :: l
def eaO (KM : Nat) (o x : MOrd) (y : Int) (L : List Int) (le mo : Int) (l : List (Nat × List AV)) : List (Nat × List AV) := (19006, [.s (.int .u64 y)]) :: (4, aOrdC o) :: (5, [.sm (.own KM) x.limits.length .no, .s (.int .i64 le), .s (.int .i64 mo), .sm (.own 23032) x.bins.length .no]) :: (KM, aInts L) :: l
def eaS0 (KM : Nat) (H : Nat → Nat) (o x : MOrd) (p : List Int × List Int × Int) : St :=
  St.lit 157 (eaE [(6, .s (.int .i64 p.1.length))]) (eaO KM o x p.2.2 (p.1 ++ p.2.1) o.least o.most ((23032, aBinsM H 0 o.bins) :: gObj H 0 o.bins)) [] []
def eaS1 (KM : Nat) (H : Nat → Nat) (o x : MOrd) (p : List MBin × List MBin × Int) : St :=
  St.lit 157 (eaE [(7, .s (.int .i64 p.1.length))]) (eaO KM o x p.2.2 x.limits x.least x.most ((23032, oB H p.1 p.2.1) :: gObj H p.1.length p.2.1)) [] []
def eaS2 (KM : Nat) (H : Nat → Nat) (o x : MOrd) (dn t : List MBin) (b : MBin) (c g : Int) (p : List (Int × Int) × List (Int × Int) × Int) : St :=
  St.lit 157 (eaE [(7, .s (.int .i64 dn.length)), (8, .ptr (.own 23032) (dn.length * 4)), (9, .s (.int .i64 p.1.length))]) (eaO KM o x p.2.2 x.limits x.least x.most ((23032, xB dn (.sm (.own (H dn.length)) b.grams.length .no) b.w c g (aBinsM H (dn.length + 1) t)) :: (H dn.length, aRngs (p.1 ++ p.2.1)) :: gObj H (dn.length + 1) t)) [] []
attribute [simp] eaE eaO eaS0 eaS1 eaS2

set_option maxHeartbeats 4000000 in
theorem easier_ok (G H : Nat → Nat) (hG : ∀ s, 27000 + (5 + s) = G s) (hH : ∀ i, 23000 + G i = H i) (KL KM : Nat) (hKL : KL = 10005) (hKM : 23000 + KL = KM) (nums : List Int) (hl : (nums.length : Int) < 9223372036854775807) (o x : MOrd) (y y1 y2 : Int) (ho : o = ordOf 3 2 4 (feedS nums)) (hy : y = ordS 3 2 4 (feedS nums))
  (hy1 : y1 = easLs o.limits y) (hx2 : betV 0 o.least y1 = x.least) (hx3 : wr (o.most + belV 4 (betS 0 o.least y1)) = x.most) (hy2 : belS 4 (betS 0 o.least y1) = y2) (hx1 : easL o.limits y = x.limits) (hx4 : easB o.bins y2 = x.bins)
  (hxl : x.limits.length = o.limits.length) (hxb : x.bins.length = o.bins.length) (k : OkO o) (kx : OkO x) (hE : (cheapE o = 0 ∧ cheapE x = 0 ∧ cheapC x ≤ cheapC o) ∨ cheapE o = 13) : ACalls Try.prog 6 [.sl false false .U .no nums.length (eInts nums)] [] (.ret (.s (.bool true)) [] []) := by
  have c1 := orderOf_ok 3 2 4 (feedS nums) (by decide) (by decide)
  rw [← ho, ← hy] at c1
  have hnb := k.nb
  have hnl := k.nl
  have c4 := copyOrderY_ok G KL hKL hG o (by omega) (by omega) (fun b hb => by have := (k.bin b hb).len; omega)
  have hg3 : ∀ q ∈ o.bins, q.grams.length ≤ 3 := fun q hq => by have := (k.bin q hq).len; omega
  have hH2 : ∀ i, 1000 * 23 + G i = H i := fun i => by have := hH i; omega
  have hb1 := aBinsM_back [] 23 hH2
  have hb2 := map_gObj [] 23 hH2
  have hall : ∀ (l : List MBin) (P : Nat × List AV → Bool), (∀ i cs, P (G i, cs) = true) → (gObj G 0 l).all P = true := fun l P h => by
    refine List.all_eq_true.2 fun p hp => ?_
    obtain ⟨i, hi, rfl⟩ := gObj_mem hp
    exact h _ _
  have hK : ∀ i, 50005 ≤ H i := fun i => by have a := hG i; have b := hH i; omega
  have hI : ∀ i j, H i = H j → i = j := fun i j h => by have a := hG i; have b := hG j; have c := hH i; have d := hH j; omega
  have hm1 : ∀ k, k ≤ 30000 → ¬ k = KM := fun k h e => by omega
  have hm2 : ∀ k, k ≤ 30000 → ¬ KM = k := fun k h e => by omega
  have hm3 : ∀ i, ¬ KM = H i := fun i e => by have a := hK i; omega
  have hm4 : ∀ i, ¬ H i = KM := fun i e => by have a := hK i; omega
  have hn1 : ∀ k i, k ≤ 30000 → ¬ k = H i := fun k i h e => by have a := hK i; omega
  have hn2 : ∀ k i, k ≤ 30000 → ¬ H i = k := fun k i h e => by have a := hK i; omega
  refine acalls_of_ew Try.func6 rfl rfl (by simp [Try.f6]) (rs := [.tmp 2]) rfl ?_
  refine EW.seq fun Ψ0 n0 x0 => ?_
  refine EW.region gs_nil ?_
  simp
  refine n0 _ ?_; clear n0 x0
  refine EW.seq fun Ψ1 n1 x1 => ?_
  refine EW.region (gs_cons (feedOf_ok nums hl) gs_nil) ?_
  simp
  refine n1 _ ?_; clear n1 x1
  refine EW.seq fun Ψ2 n2 x2 => ?_
  refine EW.region (gs_cons c1 gs_nil) ?_
  simp
  refine n2 _ ?_; clear n2 x2
  refine EW.seq fun Ψ3 n3 x3 => ?_
  refine EW.region (gs_cons c4 gs_nil) ?_
  simp [hH, hKM, hn1, hn2, hm1, hm2, hm3, hm4, ofL_gObj_ne, fold_gObj_ne, hb1, hb2, hall]
  refine n3 _ ?_; clear n3 x3
  refine EW.seq fun Ψ4 n4 x4 => ?_
  refine EW.seq fun Ψ5 n5 x5 => ?_
  refine EW.region gs_nil ?_
  simp
  refine n5 _ ?_; clear n5 x5
  refine EW.block ?_
  refine EW.loopA (eaS0 KM H o x) (fun p => p.1.length + p.2.1.length = o.limits.length ∧ p.1 ++ easL p.2.1 p.2.2 = x.limits ∧ easLs p.2.1 p.2.2 = y1) (fun p => p.2.1.length) ([], o.limits, y) (St.le_lit rfl (by simp [hH, hKM, hn1, hn2, hm1, hm2, hm3, hm4, ofL_gObj_ne, fold_gObj_ne, hb1, hb2, hall]) (by simp [hH, hKM, hn1, hn2, hm1, hm2, hm3, hm4, ofL_gObj_ne, fold_gObj_ne, hb1, hb2, hall, hxl, hxb]; exact leO_gObj fun i q hq => by simp [hH, hKM, hn1, hn2, hm1, hm2, hm3, hm4, ofL_gObj_ne, fold_gObj_ne, hb1, hb2, hall, fold_gObj0 hI hq]) (by simp) (by simp) (by simp [any_gObj hI, any_gObj0 hI, hn1, hn2, hm1, hm2, hm3, hm4])) ?_ fun p hk => ?_
  · simp [hx1, hy1]
  obtain ⟨dn, rs, z⟩ := p
  obtain ⟨hk, hw, hz⟩ := hk
  simp only at hk hw hz
  refine EW.seq fun Ψ6 n6 x6 => ?_
  refine EW.seq fun Ψ7 n7 x7 => ?_
  refine EW.region gs_nil ?_
  simp [hn1, hn2, hm1, hm2, hm3, hm4, ofL_gObj_ne]
  refine n7 _ ?_; clear n7 x7
  refine EW.cond (t := _) (by rfl) (fun hc27 => ?_) (fun hc27 => ?_)
  · simp at hc27
    obtain ⟨n, t, rfl⟩ : ∃ n t, rs = n :: t := by
      cases rs with
      | nil => simp at hk; omega
      | cons a t => exact ⟨a, t, rfl⟩
    simp only [List.length_cons] at hk
    have g1 : ∀ h, (aInts (dn ++ n :: t))[dn.length]'h = .s (.int .i64 n) := fun h => by have g := aInts_get (dn ++ n :: t) dn.length; rw [List.getElem?_eq_getElem h] at g; simpa using g
    have p1 : ∀ v : Int, List.take dn.length (aInts (dn ++ n :: t)) ++ AV.s (.int .i64 v) :: List.drop (dn.length + 1) (aInts (dn ++ n :: t)) = aInts (dn ++ v :: t) := fun v => by rw [aInts_put' (by simp)]; simp
    refine EW.skip ?_
    refine n6 _ ?_; clear n6 x6
    refine EW.seq fun Ψ8 n8 x8 => ?_
    refine EW.block ?_
    refine EW.hide fun Ψ9 n9 => ?_
    refine EW.drawn [(1, 10), (4, 10), (7, 10), (1, 12), (4, 12), (7, 12)] mixed (gG_ok (gs_cons (either_ok [0, belV 50 z] (belS 50 z) (by simp)) gs_nil)) (by kernel_rfl) ?_
    simp [hn1, hn2, hm1, hm2, hm3, hm4, ofL_gObj_ne, g1, p1, hc27, show dn.length < o.limits.length by omega, easN]
    refine n9 _ _ ?_; clear n9
    refine n8 _ ?_; clear n8 x8
    refine EW.hide fun Ψ10 n10 => ?_
    refine EW.region gs_nil ?_
    simp
    refine n10 _ _ ?_; clear n10
    have e3 : IntKind.i64.wrap ((dn.length : Int) + 1) = dn.length + 1 := wr_small (by omega) (by omega)
    refine ⟨(dn ++ [easN n z], t, easNs z), (St.le_lit rfl (by simp [e3]) (by simp [hn1, hn2, hm1, hm2, hm3, hm4, ofL_gObj_ne, p1, easN, easNs]; exact leO_gObj fun i q hq => by simp [hn1, hn2, hm1, hm2, hm3, hm4, ofL_gObj_ne, ofL_gObj0 hI, hq]) (by simp) (by simp) (by simp [any_gObj hI, any_gObj0 hI, hn1, hn2, hm1, hm2, hm3, hm4])), ?_, ?_⟩
    · refine ⟨by simp; omega, ?_, hz⟩
      rw [← hw]; simp [easL]
    · simp
  · simp at hc27
    obtain rfl : rs = [] := by
      cases rs with
      | nil => rfl
      | cons a t => simp at hk; omega
    simp [easL, easLs] at hw hz
    subst hw
    subst hz
    refine EW.exit ?_
    refine x6 _ _ rfl ?_; clear n6 x6
    refine n4 _ ?_; clear n4 x4
    refine EW.seq fun Ψ11 n11 x11 => ?_
    refine EW.drawn [(3, 5), (5, 7)] mixed (gG_ok gs_nil) (by kernel_rfl) ?_
    simp [hn1, hn2, hm1, hm2, hm3, hm4, ofL_gObj_ne, hx2, hx3, hy2]
    refine n11 _ ?_; clear n11 x11
    refine EW.seq fun Ψ12 n12 x12 => ?_
    refine EW.seq fun Ψ13 n13 x13 => ?_
    refine EW.region gs_nil ?_
    simp
    refine n13 _ ?_; clear n13 x13
    refine EW.block ?_
    refine EW.loopA (eaS1 KM H o x) (fun p => p.1.length + p.2.1.length = o.bins.length ∧ p.1 ++ easB p.2.1 p.2.2 = x.bins ∧ ∀ q ∈ p.2.1, q.grams.length ≤ 3) (fun p => p.2.1.length) ([], o.bins, y2) (St.le_lit rfl (by simp) (by simp [hn1, hn2, hm1, hm2, hm3, hm4, ofL_gObj_ne, oB_0]; exact leO_gObj fun i q hq => by simp [hn1, hn2, hm1, hm2, hm3, hm4, ofL_gObj_ne, ofL_gObj0 hI, hq]) (by simp) (by simp) (by simp [any_gObj hI, any_gObj0 hI, hn1, hn2, hm1, hm2, hm3, hm4])) ?_ fun p hk => ?_
    · exact ⟨by simp, by simp [hx4], hg3⟩
    obtain ⟨db, rb, z⟩ := p
    obtain ⟨hk, hw, h3⟩ := hk
    simp only at hk hw h3
    refine EW.seq fun Ψ14 n14 x14 => ?_
    refine EW.seq fun Ψ15 n15 x15 => ?_
    refine EW.region gs_nil ?_
    simp [hn1, hn2, hm1, hm2, hm3, hm4, ofL_gObj_ne]
    refine n15 _ ?_; clear n15 x15
    refine EW.cond (t := _) (by rfl) (fun hc60 => ?_) (fun hc60 => ?_)
    · simp at hc60
      obtain ⟨b, t, rfl⟩ : ∃ b t, rb = b :: t := by
        cases rb with
        | nil => simp at hk; omega
        | cons a t => exact ⟨a, t, rfl⟩
      simp only [List.length_cons] at hk
      have hb3 := h3 b (by simp)
      have hne2 : ∀ i, ¬ H (i + (db.length + 1)) = H db.length := fun i e => by have := hI _ _ e; omega
      refine EW.skip ?_
      refine n14 _ ?_; clear n14 x14
      refine EW.seq fun Ψ16 n16 x16 => ?_
      refine EW.block ?_
      refine EW.seq fun Ψ17 n17 x17 => ?_
      refine EW.region gs_nil ?_
      simp [hn1, hn2, hm1, hm2, hm3, hm4, ofL_gObj_ne, hc60, oB]
      refine n17 _ ?_; clear n17 x17
      refine EW.seq fun Ψ18 n18 x18 => ?_
      refine EW.drawn [(7, 11), (11, 13)] mixed (gG_ok gs_nil) (by kernel_rfl) ?_
      simp [hn1, hn2, hm1, hm2, hm3, hm4, ofL_gObj_ne, oB, easC, easQ, easY, show db.length * 4 + 2 + 1 ≤ db.length * 4 + (t.length * 4 + 4) by omega, show db.length * 4 + 3 + 1 ≤ db.length * 4 + (t.length * 4 + 4) by omega]
      refine n18 _ ?_; clear n18 x18
      refine EW.seq fun Ψ19 n19 x19 => ?_
      refine EW.region gs_nil ?_
      simp
      refine n19 _ ?_; clear n19 x19
      refine EW.block ?_
      refine EW.loopA (eaS2 KM H o x db t b (easC b z) (easQ b z)) (fun p => p.1.length + p.2.1.length = b.grams.length ∧ p.1 ++ easG p.2.1 p.2.2 = easG b.grams (easY b z) ∧ easGs p.2.1 p.2.2 = easGs b.grams (easY b z)) (fun p => p.2.1.length) ([], b.grams, easY b z) (St.le_lit rfl (by simp) (by simp [hn1, hn2, hm1, hm2, hm3, hm4, ofL_gObj_ne, gObj, easC, easQ, easY]; exact leO_gObj fun i q hq => by simp [hn1, hn2, hm1, hm2, hm3, hm4, ofL_gObj_ne, hne2, gObj, ofL_gObj hI, hq]) (by simp) (by simp) (by simp [any_gObj hI, any_gObj0 hI, hn1, hn2, hm1, hm2, hm3, hm4]; exact fun i hi => .inr hi)) ?_ fun p hk => ?_
      · simp
      obtain ⟨dg, rg, u⟩ := p
      obtain ⟨hj, hv, hu⟩ := hk
      simp only at hj hv hu
      refine EW.seq fun Ψ20 n20 x20 => ?_
      refine EW.seq fun Ψ21 n21 x21 => ?_
      refine EW.region gs_nil ?_
      simp [hn1, hn2, hm1, hm2, hm3, hm4, ofL_gObj_ne]
      refine n21 _ ?_; clear n21 x21
      refine EW.cond (t := _) (by rfl) (fun hc92 => ?_) (fun hc92 => ?_)
      · simp at hc92
        obtain ⟨r, rt, rfl⟩ : ∃ r rt, rg = r :: rt := by
          cases rg with
          | nil => simp at hj; omega
          | cons a t => exact ⟨a, t, rfl⟩
        simp only [List.length_cons] at hj
        refine EW.skip ?_
        refine n20 _ ?_; clear n20 x20
        refine EW.seq fun Ψ22 n22 x22 => ?_
        refine EW.block ?_
        refine EW.seq fun Ψ23 n23 x23 => ?_
        refine EW.region gs_nil ?_
        simp [hn1, hn2, hm1, hm2, hm3, hm4, ofL_gObj_ne, hc92, yB_eq', show dg.length * 2 + 1 ≤ dg.length * 2 + (rt.length * 2 + 2) by omega, show dg.length * 2 + 1 + 1 ≤ dg.length * 2 + (rt.length * 2 + 2) by omega]
        refine n23 _ ?_; clear n23 x23
        refine EW.seq fun Ψ24 n24 x24 => ?_
        refine EW.drawn [] mixed (gG_ok gs_nil) (by kernel_rfl) ?_
        simp [hn1, hn2, hm1, hm2, hm3, hm4, ofL_gObj_ne, yB_eq', show dg.length * 2 + 1 ≤ dg.length * 2 + (rt.length * 2 + 2) by omega, show dg.length * 2 + 1 + 1 ≤ dg.length * 2 + (rt.length * 2 + 2) by omega]
        refine n24 _ ?_; clear n24 x24
        refine EW.hide fun Ψ25 n25 => ?_
        refine EW.region (gG_ok gs_nil) ?_
        simp [hn1, hn2, hm1, hm2, hm3, hm4, ofL_gObj_ne, yB_eq', show dg.length * 2 + 1 ≤ dg.length * 2 + (rt.length * 2 + 2) by omega, show dg.length * 2 + 1 + 1 ≤ dg.length * 2 + (rt.length * 2 + 2) by omega]
        refine n25 _ _ ?_; clear n25
        refine n22 _ ?_; clear n22 x22
        refine EW.hide fun Ψ26 n26 => ?_
        refine EW.region gs_nil ?_
        simp
        refine n26 _ _ ?_; clear n26
        have e3 : IntKind.i64.wrap ((dg.length : Int) + 1) = dg.length + 1 := wr_small (by omega) (by omega)
        refine ⟨(dg ++ [easR r u], rt, easRs r u), (St.le_lit rfl (by simp [e3]) (by simp [hn1, hn2, hm1, hm2, hm3, hm4, ofL_gObj_ne, easRs, easR, yB_eq]; exact leO_gObj fun i q hq => by simp [hn1, hn2, hm1, hm2, hm3, hm4, ofL_gObj_ne, hne2, ofL_gObj hI, hq]) (by simp) (by simp) (by simp [any_gObj hI, any_gObj0 hI, hn1, hn2, hm1, hm2, hm3, hm4]; exact fun i hi => .inr hi)), ?_, ?_⟩
        · refine ⟨by simp; omega, ?_, hu⟩
          rw [← hv]; simp [easG]
        · simp
      · simp at hc92
        obtain rfl : rg = [] := by
          cases rg with
          | nil => rfl
          | cons a t => simp at hj; omega
        simp [easG, easGs] at hv hu
        have hgl : dg.length = b.grams.length := by simpa using hj
        refine EW.exit ?_
        refine x20 _ _ rfl ?_; clear n20 x20
        refine n16 _ ?_; clear n16 x16
        refine EW.hide fun Ψ27 n27 => ?_
        refine EW.freezeC (k := H db.length) (j := 23032) (i := db.length * 4) (n := b.grams.length) (o := .no) (cs := aRngs dg) (cj := xB db (.sm (.own (H db.length)) b.grams.length .no) b.w (easC b z) (easQ b z) (aBinsM H (db.length + 1) t)) (c0 := xB db (.junk) b.w (easC b z) (easQ b z) (aBinsM H (db.length + 1) t)) (ds := eRngs dg) (g := true) (nt := 157) (E := eaE [(7, .s (.int .i64 db.length))]) (O := eaO KM o x u x.limits x.least x.most ((23032, xB db (.junk) b.w (easC b z) (easQ b z) (aBinsM H (db.length + 1) t)) :: gObj H (db.length + 1) t)) (X := []) (T := []) (by simp [hn1, hn2, hm1, hm2, hm3, hm4, ofL_gObj_ne]) (by simp) (by simp [hn1, hn2, hm1, hm2, hm3, hm4, ofL_gObj_ne]) (by simp) (St.le_lit rfl (by simp [hn1, hn2, hm1, hm2, hm3, hm4, ofL_gObj_ne]) (by simp [hn1, hn2, hm1, hm2, hm3, hm4, ofL_gObj_ne]; exact leO_gObj fun i q hq => by simp [hn1, hn2, hm1, hm2, hm3, hm4, ofL_gObj_ne, hne2, ofL_gObj hI, hq]) (by simp) (by simp) (by simp [any_gObj hI, any_gObj0 hI, hn1, hn2, hm1, hm2, hm3, hm4])) (by simp [hn1, hn2, hm1, hm2, hm3, hm4, ofL_gObj_ne, ofL_gObj_at hI]) (by simp [hn1, hn2, hm1, hm2, hm3, hm4, ofL_gObj_ne]) (by intro h; rw [← hgl] at h; rw [List.length_eq_zero_iff.1 h]; rfl) ?_
        simp [xB_set]
        refine EW.region gs_nil ?_
        simp [hn1, hn2, hm1, hm2, hm3, hm4, ofL_gObj_ne]
        refine n27 _ _ ?_; clear n27
        have e3 : IntKind.i64.wrap ((db.length : Int) + 1) = db.length + 1 := wr_small (by omega) (by omega)
        refine ⟨(db ++ [⟨dg, b.w, easC b z, easQ b z⟩], t, u), (St.le_lit rfl (by simp [e3]) (by simp [hn1, hn2, hm1, hm2, hm3, hm4, ofL_gObj_ne]; refine ⟨oB_done db t ⟨dg, b.w, easC b z, easQ b z⟩ _ hgl.symm, leO_gObj fun i q hq => by simp [hn1, hn2, hm1, hm2, hm3, hm4, ofL_gObj_ne, ofL_gObj hI, hq]⟩) (by simp) (by simp) (by simp [any_gObj hI, any_gObj0 hI, hn1, hn2, hm1, hm2, hm3, hm4])), ?_, ?_⟩
        · refine ⟨by simp; omega, ?_, fun q hq => h3 q (by simp [hq])⟩
          rw [← hw, hv, hu]; simp [easB, easB1]
        · simp
    · simp at hc60
      obtain rfl : rb = [] := by
        cases rb with
        | nil => rfl
        | cons a t => simp at hk; omega
      simp [easB] at hw
      subst hw
      refine EW.exit ?_
      refine x14 _ _ rfl ?_; clear n14 x14
      refine n12 _ ?_; clear n12 x12
      refine EW.seq fun Ψ28 n28 x28 => ?_
      refine EW.freezeC (k := KM) (j := 5) (i := 0) (n := x.limits.length) (o := .no) (cs := aInts x.limits) (cj := [.sm (.own KM) x.limits.length .no, .s (.int .i64 x.least), .s (.int .i64 x.most), .sm (.own 23032) x.bins.length .no]) (c0 := [.junk, .s (.int .i64 x.least), .s (.int .i64 x.most), .sm (.own 23032) x.bins.length .no]) (ds := eInts x.limits) (g := true) (nt := 157) (E := eaE []) (O := [(19006, [.s (.int .u64 z)]), (4, aOrdC o), (5, [.junk, .s (.int .i64 x.least), .s (.int .i64 x.most), .sm (.own 23032) x.bins.length .no]), (23032, aBins x.bins)]) (X := []) (T := []) (by simp [hm1, hm2]) (by simp) (by simp [hm1, hm2]) (by simp) (St.le_lit rfl (by simp) (by simp [oB, hm1, hm2]) (by simp) (by simp) (by simp [hm1, hm2])) (by simp [hm1, hm2]) (by simp [hm1, hm2]) (by intro h; rw [List.length_eq_zero_iff.1 h]; rfl) ?_
      simp
      refine EW.freezeC (k := 23032) (j := 5) (i := 3) (n := x.bins.length) (o := .no) (cs := aBins x.bins) (cj := [.sl true true .U .no x.limits.length (eInts x.limits), .s (.int .i64 x.least), .s (.int .i64 x.most), .sm (.own 23032) x.bins.length .no]) (c0 := [.sl true true .U .no x.limits.length (eInts x.limits), .s (.int .i64 x.least), .s (.int .i64 x.most), .junk]) (ds := eBins x.bins) (g := x.bins.isEmpty) (nt := 157) (E := eaE []) (O := [(19006, [.s (.int .u64 z)]), (4, aOrdC o), (5, [.sl true true .U .no x.limits.length (eInts x.limits), .s (.int .i64 x.least), .s (.int .i64 x.most), .junk])]) (X := []) (T := []) (by simp) (aBins_toDs x.bins) (by simp) (by simp) (St.le_lit rfl (by simp) (by simp) (by simp) (by simp) (by simp)) (by simp) (by simp) (by intro h; rw [List.length_eq_zero_iff.1 h]; rfl) ?_
      simp
      refine EW.region (gs_cons (Cheapest_ok' o k.sz) gs_nil) ?_
      simp
      refine n28 _ ?_; clear n28 x28
      refine EW.seq fun Ψ29 n29 x29 => ?_
      refine EW.region (gs_cons (Cheapest_ok' x kx.sz) gs_nil) ?_
      simp
      refine n29 _ ?_; clear n29 x29
      refine EW.seq fun Ψ30 n30 x30 => ?_
      rcases hE with ⟨q1, q2, q3⟩ | q1
      · skip
        refine EW.region (gs_cons alive_ok gs_nil) ?_
        simp [q1, q2, q3]
        refine n30 _ ?_; clear n30 x30
        refine EW.ret ?_
        refine ⟨_, _, _, rfl, ?_, ?_, ?_, ?_, ?_⟩ <;> simp
      · skip
        refine EW.region (gs_cons alive_ok gs_nil) ?_
        simp [q1]
        refine n30 _ ?_; clear n30 x30
        refine EW.ret ?_
        refine ⟨_, _, _, rfl, ?_, ?_, ?_, ?_, ?_⟩ <;> simp


theorem MeltEasier_ok (nums : List Int) (hl : (nums.length : Int) < 9223372036854775807) : ACalls Try.prog 6 [.sl false false .U .no nums.length (eInts nums)] [] (.ret (.s (.bool true)) [] []) := by
  have m := made 3 2 4 (feedS nums) (by decide) (by decide) (by decide)
  generalize ho : ordOf 3 2 4 (feedS nums) = o at m
  generalize hy : ordS 3 2 4 (feedS nums) = y
  have e := easO_Eas m y
  exact easier_ok (fun s => 27000 + (5 + s)) (fun i => 23000 + (27000 + (5 + i))) (fun _ => rfl) (fun _ => rfl) 10005 33005 rfl rfl nums hl o (easO o y) y (eaY1 o y) (eaY3 o y) ho.symm hy.symm rfl rfl rfl rfl rfl rfl e.lim.len e.bin.len (m.ok (by decide) (by decide) (by decide)) (e.ok m) (e.cheap m)
end Go.Ev
end
