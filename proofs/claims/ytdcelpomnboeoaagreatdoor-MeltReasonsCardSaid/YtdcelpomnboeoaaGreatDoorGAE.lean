/- Lemmas for the claims of this seat: an evaluator over abstract values, its soundness, and the contracts of the functions of melt that it walks; no premise beyond what each theorem states. -/
import Derived.Test.YtdcelpomnboeoaaGreatDoorGAD

section
set_option linter.all false
set_option linter.unusedVariables false
set_option linter.unusedSimpArgs false
namespace Go.Ev
variable {P : Program} {Γ : Gam} {ops : List Oper}

/-! ### What an operation looks at and turns -/
inductive Loc where | e (d : Nat) | m (r : Ref) | t (k : Nat)
inductive LV where | a (x : AV) | c (cs : List AV) | n (p : Nat × Nat)
def St.get (s : St) : Loc → Option LV
  | .e d => (s.env d).map .a
  | .m r => (s.mem r).map .c
  | .t k => (s.tok k).map .n
def Same (s s' : St) : Prop := s.nt = s'.nt ∧ s.ext.length = s'.ext.length
def Agree (s s' : St) (L : Loc → Prop) : Prop := ∀ x, L x → s.get x = s'.get x

theorem map_inj {α β : Type} {f : α → β} (hf : ∀ x y, f x = f y → x = y) {a b : Option α} (h : a.map f = b.map f) : a = b := by
  cases a <;> cases b <;> simp at h ⊢
  exact hf _ _ h
theorem get_e {s s' : St} {d : Nat} (h : s.get (.e d) = s'.get (.e d)) : s.env d = s'.env d := map_inj (fun _ _ h => by cases h; rfl) h
theorem get_m {s s' : St} {r : Ref} (h : s.get (.m r) = s'.get (.m r)) : s.mem r = s'.mem r := map_inj (fun _ _ h => by cases h; rfl) h
theorem get_t {s s' : St} {k : Nat} (h : s.get (.t k) = s'.get (.t k)) : s.tok k = s'.tok k := map_inj (fun _ _ h => by cases h; rfl) h

theorem St.ext_get {s s' : St} (h : Same s s') (hg : ∀ x, s.get x = s'.get x) : s = s' := by
  obtain ⟨nt, env, own, ext, tok⟩ := s
  obtain ⟨nt', env', own', ext', tok'⟩ := s'
  obtain ⟨h1, h2⟩ := h
  have e1 : env = env' := funext fun d => get_e (hg (.e d))
  have e2 : own = own' := funext fun k => get_m (hg (.m (.own k)))
  have e3 : ext = ext' := List.ext_getElem? fun i => get_m (hg (.m (.ext i)))
  have e4 : tok = tok' := funext fun k => get_t (hg (.t k))
  simp only at h1
  subst h1 e1 e2 e3 e4
  rfl

structure Frm (f : St → Option Res) (s s1 : St) (R W : Loc → Prop) : Prop where
  run : f s = some (.go s1)
  same : Same s1 s
  off : Agree s1 s (fun x => ¬ W x)
  mv : ∀ t, Same t s → Agree t s (fun x => R x ∨ W x) → ∃ t1, f t = some (.go t1) ∧ Same t1 t ∧ Agree t1 s1 W ∧ Agree t1 t (fun x => ¬ W x)

theorem Same.symm {s t : St} (h : Same s t) : Same t s := ⟨h.1.symm, h.2.symm⟩
theorem Same.trans {s t u : St} (h : Same s t) (h' : Same t u) : Same s u := ⟨h.1.trans h'.1, h.2.trans h'.2⟩

theorem Frm.swap {f g : St → Option Res} {s s1 s2 : St} {Rx Wx Ry Wy : Loc → Prop} (hx : Frm f s s1 Rx Wx) (hy : Frm g s1 s2 Ry Wy) (h1 : ∀ x, Wx x → ¬ Ry x ∧ ¬ Wy x) (h2 : ∀ x, Wy x → ¬ Rx x) :
    ∃ s1', Frm g s s1' Ry Wy ∧ Frm f s1' s2 Rx Wx := by
  have a1 : Agree s s1 (fun x => Ry x ∨ Wy x) := fun x hx' => (hx.off x (fun hw => by
    rcases hx' with h | h
    · exact (h1 x hw).1 h
    · exact (h1 x hw).2 h)).symm
  obtain ⟨t1, b1, b2, b3, b4⟩ := hy.mv s hx.same.symm a1
  have a2 : Agree t1 s (fun x => Rx x ∨ Wx x) := fun x hx' => b4 x (fun hw => by
    rcases hx' with h | h
    · exact h2 x hw h
    · exact (h1 x h).2 hw)
  obtain ⟨t2, c1, c2, c3, c4⟩ := hx.mv t1 b2 a2
  have e : t2 = s2 := by
    refine St.ext_get (c2.trans (b2.trans (hx.same.symm.trans hy.same.symm))) fun x => ?_
    by_cases hwx : Wx x
    · rw [c3 x hwx, hy.off x (h1 x hwx).2]
    · rw [c4 x hwx]
      by_cases hwy : Wy x
      · exact b3 x hwy
      · rw [b4 x hwy, hy.off x hwy, hx.off x hwx]
  subst e
  refine ⟨t1, ⟨b1, b2, b4, fun t ht hag => ?_⟩, ⟨c1, c2, c4, fun t ht hag => ?_⟩⟩
  · obtain ⟨u, d1, d2, d3, d4⟩ := hy.mv t (ht.trans hx.same.symm) (fun x hx' => (hag x hx').trans (a1 x hx'))
    exact ⟨u, d1, d2, fun x hw => (d3 x hw).trans (b3 x hw).symm, d4⟩
  · obtain ⟨u, d1, d2, d3, d4⟩ := hx.mv t (ht.trans b2) (fun x hx' => (hag x hx').trans (a2 x hx'))
    exact ⟨u, d1, d2, fun x hw => (d3 x hw).trans (c3 x hw).symm, d4⟩

def Chain (f : Nat → St → Option Res) (R W : Nat → Loc → Prop) : List Nat → St → St → Prop
  | [], s, s' => s = s'
  | i :: L, s, s' => ∃ s1, Frm (f i) s s1 (R i) (W i) ∧ Chain f R W L s1 s'

def Indep (R W : Nat → Loc → Prop) (j i : Nat) : Prop := (∀ x, W j x → ¬ R i x ∧ ¬ W i x) ∧ (∀ x, W i x → ¬ R j x)

theorem Chain.bubble {f : Nat → St → Option Res} {R W : Nat → Loc → Prop} {i : Nat} {L2 : List Nat} {s' : St} : ∀ (L1 : List Nat) (s : St), (∀ j ∈ L1, Indep R W j i) → Chain f R W (L1 ++ i :: L2) s s' → Chain f R W (i :: (L1 ++ L2)) s s'
  | [], s, _, h => h
  | j :: L1, s, hi, h => by
    obtain ⟨s1, h1, h2⟩ := h
    obtain ⟨s2, h3, h4⟩ := Chain.bubble L1 s1 (fun j hj => hi j (List.mem_cons_of_mem _ hj)) h2
    obtain ⟨i1, i2⟩ := hi j (by simp)
    obtain ⟨s1', k1, k2⟩ := h1.swap h3 i1 i2
    exact ⟨s1', k1, s2, k2, h4⟩

/-! ### Records -/
structure Rec where
  F : List Ref
  N : List Nat
  T : List Nat
def Rec.nil : Rec := ⟨[], [], []⟩
def newsOf : X → List Nat
  | .mem _ _ news => news.map (·.1)
  | _ => []
def toksOf : X → List Nat
  | .tok _ new => [new.1]
  | _ => []
def noGrow : Option X → Option X
  | some (.grow ..) => none
  | x => x
@[congr] theorem noGrow_congr {x y : Option X} (h : x = y) : noGrow x = noGrow y := by rw [h]
@[simp] theorem noGrow_val (x : AV) : noGrow (some (.val x)) = some (.val x) := rfl
@[simp] theorem noGrow_skip : noGrow (some .skip) = some .skip := rfl
@[simp] theorem noGrow_mem (x : Option AV) (os : List (List AV)) (news : List (Nat × List AV)) : noGrow (some (.mem x os news)) = some (.mem x os news) := rfl
@[simp] theorem noGrow_tok (x : AV) (p : Nat × Nat × Nat) : noGrow (some (.tok x p)) = some (.tok x p) := rfl
@[simp] theorem noGrow_pan (v : Value) : noGrow (some (.pan v)) = some (.pan v) := rfl
@[simp] theorem noGrow_none : noGrow none = none := rfl
theorem noGrow_some {o : Option X} {x : X} (h : noGrow o = some x) : o = some x ∧ ∀ y d cs p, x ≠ .grow y d cs p := by
  unfold noGrow at h
  split at h
  · cases h
  · rename_i hn
    subst h
    exact ⟨rfl, fun y d cs p e => hn _ _ _ _ (by rw [e])⟩
def recRun (P : Program) (Γ : Gam) (st : St) (o : Oper) : Option (Rec × Res) :=
  bnd (st.opds o.op.operands.toList) fun xs =>
  bnd (st.mems (foot st o.op xs)) fun os =>
  if hinted Γ o.dst o.op = true then none
  else if quiet o.op then bnd (execQ P o.op xs os) fun x => some (⟨foot st o.op xs, [], []⟩, .go (st.put o.dst x))
  else bnd (noGrow (execF P Γ o.op o.dst xs (foot st o.op xs) os st.own st.tok)) fun x => some (⟨foot st o.op xs, newsOf x, toksOf x⟩, x.run st o (foot st o.op xs))
def guardedR (b : Option Bool) (w : Bool) (x y : Option (Rec × Res)) : Option (Rec × Res) := if b = some w then x else y
@[congr] theorem guardedR_congr {b b' : Option Bool} {w : Bool} {x y : Option (Rec × Res)} (h : b = b') : guardedR b w x y = guardedR b' w x y := by rw [h]
@[simp] theorem guardedR_tt (x y : Option (Rec × Res)) : guardedR (some true) true x y = x := rfl
@[simp] theorem guardedR_ff (x y : Option (Rec × Res)) : guardedR (some false) false x y = x := rfl
@[simp] theorem guardedR_tf (x y : Option (Rec × Res)) : guardedR (some true) false x y = y := rfl
@[simp] theorem guardedR_ft (x y : Option (Rec × Res)) : guardedR (some false) true x y = y := rfl
@[simp] theorem guardedR_n (w : Bool) (x y : Option (Rec × Res)) : guardedR none w x y = y := rfl
def recOp (P : Program) (Γ : Gam) (ops : List Oper) (st : St) (o : Oper) : Option (Rec × Res) :=
  if dstOk st.nt o.dst = true then match o.guard with
  | none => recRun P Γ st o
  | some (j, w) => bnd (guardOf st ops j) fun x => bnd (bit x) fun b => guardedR b w (recRun P Γ st o) (some (Rec.nil, .go (st.put o.dst (.s (.tuple #[])))))
  else none

def rdOf (ops : List Oper) (o : Oper) (rc : Rec) : Loc → Prop
  | .e d => d ∈ o.looksAt ops.toArray
  | .m r => r ∈ rc.F
  | .t k => ∃ j, Ref.own j ∈ rc.F ∧ k = XK j
def wrOf (o : Oper) (rc : Rec) : Loc → Prop
  | .e d => o.dst = some d
  | .m r => (quiet o.op = false ∧ r ∈ rc.F) ∨ ∃ k ∈ rc.N, r = .own k
  | .t k => k ∈ rc.T

theorem recRun_step {st : St} {o : Oper} {rc : Rec} {r : Res} (h : recRun P Γ st o = some (rc, r)) : stepRun P Γ st o = some r := by
  unfold recRun at h
  obtain ⟨xs, h1, h⟩ := bnd_eq h
  obtain ⟨os, h2, h⟩ := bnd_eq h
  unfold stepRun
  rw [h1, bnd_some, h2, bnd_some]
  split at h
  · cases h
  rename_i hh
  rw [if_neg hh]
  split at h
  · rename_i hq
    obtain ⟨x, h3, h⟩ := bnd_eq h
    cases h
    rw [if_pos hq, h3, bnd_some]
  · rename_i hq
    obtain ⟨x, h3, h⟩ := bnd_eq h
    cases h
    rw [if_neg hq, (noGrow_some h3).1, bnd_some]

theorem recOp_step {st : St} {o : Oper} {rc : Rec} {r : Res} (h : recOp P Γ ops st o = some (rc, r)) : stepOp P Γ ops st o = some r := by
  unfold recOp at h
  unfold stepOp
  split at h
  case isFalse => cases h
  rename_i hd
  rw [if_pos hd]
  split at h
  · rename_i hg; simp only [hg]; exact recRun_step h
  · rename_i j w hg
    obtain ⟨x, h1, h⟩ := bnd_eq h
    obtain ⟨b, h2, h⟩ := bnd_eq h
    simp only [hg, h1, bnd_some, h2]
    unfold guardedR at h
    unfold guarded
    split at h
    · rename_i hb; rw [if_pos hb]; exact recRun_step h
    · rename_i hb; rw [if_neg hb]; cases h; rfl

theorem opds_agree {s t : St} : ∀ {l : List Operand}, (∀ d, Operand.tmp d ∈ l → t.env d = s.env d) → t.opds l = s.opds l
  | [], _ => rfl
  | x :: l, h => by
    have h1 : t.opd x = s.opd x := by
      cases x with
      | tmp d => exact h d (by simp)
      | _ => rfl
    simp only [St.opds, h1, opds_agree (l := l) (fun d hd => h d (List.mem_cons_of_mem _ hd))]
theorem mems_agree {s t : St} : ∀ {l : List Ref}, (∀ r ∈ l, t.mem r = s.mem r) → t.mems l = s.mems l
  | [], _ => rfl
  | x :: l, h => by simp only [St.mems, h x (by simp), mems_agree (l := l) (fun r hr => h r (List.mem_cons_of_mem _ hr))]

theorem fBack_agree {own own' : Nat → Option (List AV)} {tk tk' : Nat → Option (Nat × Nat)} {rs : List Ref} {d m : Nat} {o : Option Out} {X' : X} (h : fBack own tk rs d m o = some X') (hN : ∀ k ∈ newsOf X', own' k = own k) (hT : ∀ k ∈ toksOf X', tk' k = tk k) : fBack own' tk' rs d m o = some X' := by
  unfold fBack at h ⊢
  split at h
  · rename_i r ext ow
    split at h
    · rename_i hc
      cases h
      rw [if_pos]
      refine ⟨hc.1, List.all_eq_true.2 fun p hp => ?_⟩
      have := List.all_eq_true.1 hc.2 p hp
      rw [hN _ (by simp only [newsOf, List.map_map, List.mem_map]; exact ⟨p, hp, rfl⟩)]
      exact this
    · cases h
  · exact h
  · split at h
    · rename_i hc
      cases h
      rw [if_pos ⟨hc.1, by rw [hT _ (by simp [toksOf])]; exact hc.2⟩]
    · cases h
  · cases h

theorem inner_agree {s t : St} : ∀ {F : List Ref}, (∀ r ∈ F, t.mem r = s.mem r) → t.inner F = s.inner F
  | [], _ => rfl
  | r :: F, h => by simp only [St.inner]; rw [h r (by simp), inner_agree (fun r hr => h r (by simp [hr]))]
theorem foot_agree {s t : St} {op : Op} {xs : List AV} (h : ∀ r ∈ foot s op xs, t.mem r = s.mem r) : foot t op xs = foot s op xs := by
  unfold foot at h ⊢
  split <;> try rfl
  rename_i c
  split <;> try rfl
  rename_i hc
  simp only [hc] at h
  unfold St.footC at h ⊢
  split <;> try rfl
  · simp only [St.reach] at h ⊢
    rw [inner_agree (fun r hr => h r (List.mem_append_left _ hr))]
  · simp only [St.reach] at h ⊢
    rw [inner_agree (fun r hr => h r (List.mem_append_left _ hr))]
theorem execF_agree {op : Op} {dst : Option Nat} {xs : List AV} {F : List Ref} {os : List (List AV)} {own own' : Nat → Option (List AV)} {tk tk' : Nat → Option (Nat × Nat)} {X' : X} (h : execF P Γ op dst xs F os own tk = some X')
    (hN : ∀ k ∈ newsOf X', own' k = own k) (hT : ∀ k ∈ toksOf X', tk' k = tk k) (hX : ∀ j, Ref.own j ∈ F → tk' (XK j) = tk (XK j)) (hG : ∀ y d cs p, X' ≠ .grow y d cs p) : execF P Γ op dst xs F os own' tk' = some X' := by
  unfold execF at h ⊢
  split at h
  · exact h
  · unfold fAlloc at h ⊢
    split at h
    · split at h
      · rename_i hc
        cases h
        rw [if_pos ⟨hc.1, by rw [hN _ (by simp [newsOf])]; exact hc.2⟩]
      · cases h
    · cases h
  · unfold fBox at h ⊢
    split at h
    · split at h
      · rename_i hc
        cases h
        rw [if_pos ⟨hc.1, by rw [hN _ (by simp [newsOf])]; exact hc.2⟩]
      · cases h
    · cases h
  · exact h
  · exact h
  · split at h
    · split at h
      · rename_i hh
        rw [if_pos hh]
        unfold fAppendC at h ⊢
        split at h
        · split at h
          · rename_i hc
            cases h
            rw [if_pos ⟨hc.1, hc.2.1, hc.2.2.1, hc.2.2.2.1, hc.2.2.2.2.1, by rw [hN _ (by simp [newsOf])]; exact hc.2.2.2.2.2⟩]
          · cases h
        · cases h
      rename_i hC
      rw [if_neg hC]
      split at h
      · rename_i hh
        exfalso
        have hx : ∀ (d : Nat) (e : TypeId) (n m : Nat) (new old : List AV), fAppendX P own tk d e n m new old = some X' → False := fun d e n m new old h => by
          unfold fAppendX at h
          split at h
          · cases h; exact hG _ _ _ _ rfl
          · cases h
        unfold fAppendM at h
        split at h
        · split at h
          · obtain ⟨q, _, h⟩ := bnd_eq h; exact hx _ _ _ _ _ _ h
          · cases h
        · split at h
          · obtain ⟨q, _, h⟩ := bnd_eq h; obtain ⟨q2, _, h⟩ := bnd_eq h; exact hx _ _ _ _ _ _ h
          · cases h
        · cases h
      rename_i hh
      rw [if_neg hh]
      unfold fAppend at h ⊢
      split at h
      · unfold fAppendAs at h ⊢
        split at h
        · split at h
          · rename_i hc
            cases h
            rw [if_pos ⟨hc.1, hc.2.1, hc.2.2.1, hc.2.2.2.1, hc.2.2.2.2.1, hc.2.2.2.2.2.1, by rw [hT _ (by simp [toksOf])]; exact hc.2.2.2.2.2.2⟩]
          · cases h
        · split at h
          · rename_i hc
            cases h
            rw [if_pos ⟨hc.1, hc.2.1, hc.2.2.1, hc.2.2.2.1, hc.2.2.2.2.1, hc.2.2.2.2.2.1, by rw [hT _ (by simp [toksOf])]; exact hc.2.2.2.2.2.2⟩]
          · cases h
        · cases h
        · cases h
      · cases h
    · have hcc : ∀ (d : Nat) (f : FuncId) (ys : List AV), fCallAs Γ own tk F os d f ys = some X' → fCallAs Γ own' tk' F os d f ys = some X' := fun d f ys h => by
        unfold fCallAs at h ⊢
        split at h
        · rename_i hc
          rw [if_pos ⟨List.all_eq_true.2 fun r hr => (by
            have := List.all_eq_true.1 hc.1 r hr
            cases r with
            | own j => simp only at this ⊢; rw [hX j hr]; exact this
            | ext i => rfl), hc.2⟩]
          exact fBack_agree h hN hT
        · cases h
      unfold fCall at h ⊢
      split at h
      · split at h
        · cases h
        · rename_i hf; exact (if_neg hf).trans (hcc _ _ _ h)
      · exact hcc _ _ _ h
      · cases h
    · cases h
  · cases h

theorem foldl_off : ∀ (news : List (Nat × List AV)) (f : Nat → Option (List AV)) (k : Nat), k ∉ news.map (·.1) → (news.foldl (fun f (p : Nat × List AV) => upd f p.1 p.2) f) k = f k
  | [], _, _, _ => rfl
  | p :: news, f, k, h => by
    simp only [List.map_cons, List.mem_cons, not_or] at h
    simp only [List.foldl_cons]
    rw [foldl_off news _ k h.2]
    simp [upd, h.1]
theorem foldl_on : ∀ (news : List (Nat × List AV)) (f g : Nat → Option (List AV)) (k : Nat), (k ∈ news.map (·.1) ∨ f k = g k) → (news.foldl (fun f (p : Nat × List AV) => upd f p.1 p.2) f) k = (news.foldl (fun f (p : Nat × List AV) => upd f p.1 p.2) g) k
  | [], _, _, _, h => by simpa using h
  | p :: news, f, g, k, h => by
    simp only [List.foldl_cons]
    refine foldl_on news _ _ k ?_
    by_cases hk : k = p.1
    · right; simp [upd, hk]
    · rcases h with h | h
      · simp only [List.map_cons, List.mem_cons] at h
        exact .inl (h.resolve_left hk)
      · right; simp [upd, hk, h]

theorem put_e {s : St} {dst : Option Nat} {x : AV} {d : Nat} : (s.put dst x).env d = if dst = some d then some x else s.env d := by
  cases dst with
  | none => simp [St.put]
  | some e =>
    simp only [St.put, upd, Option.some.injEq]
    by_cases h : d = e
    · simp [h]
    · have : ¬ e = d := fun h' => h h'.symm
      simp [h, this]
theorem put_mem {s : St} {dst : Option Nat} {x : AV} {r : Ref} : (s.put dst x).mem r = s.mem r := by
  cases dst <;> cases r <;> rfl

theorem setMem_shape (s : St) (r : Ref) (cs : List AV) : (s.setMem r cs).env = s.env ∧ (s.setMem r cs).tok = s.tok ∧ (s.setMem r cs).nt = s.nt ∧ (s.setMem r cs).ext.length = s.ext.length := by
  cases r <;> simp [St.setMem]
theorem setAll_shape : ∀ (rs : List Ref) (os : List (List AV)) (s : St), (s.setAll rs os).env = s.env ∧ (s.setAll rs os).tok = s.tok ∧ (s.setAll rs os).nt = s.nt ∧ (s.setAll rs os).ext.length = s.ext.length
  | [], os, s => by cases os <;> simp [St.setAll]
  | r :: rs, [], s => by simp [St.setAll]
  | r :: rs, c :: os, s => by
    obtain ⟨a1, a2, a3, a4⟩ := setMem_shape s r c
    obtain ⟨b1, b2, b3, b4⟩ := setAll_shape rs os (s.setMem r c)
    exact ⟨b1.trans a1, b2.trans a2, b3.trans a3, b4.trans a4⟩
theorem setMem_on {s t : St} {q r : Ref} {cs : List AV} (hl : s.ext.length = t.ext.length) (h : s.mem r = t.mem r) : (s.setMem q cs).mem r = (t.setMem q cs).mem r := by
  cases q with
  | own k => cases r with
    | own j => simp only [St.mem, St.setMem, upd] at h ⊢; split <;> simp [h]
    | ext i => exact h
  | ext k => cases r with
    | own j => exact h
    | ext i =>
      simp only [St.mem, St.setMem, List.getElem?_set] at h ⊢
      rw [hl, h]
theorem setAll_on : ∀ (rs : List Ref) (os : List (List AV)) (s t : St) (r : Ref), s.ext.length = t.ext.length → s.mem r = t.mem r → (s.setAll rs os).mem r = (t.setAll rs os).mem r
  | [], os, s, t, r, _, h => by cases os <;> exact h
  | q :: rs, [], s, t, r, _, h => h
  | q :: rs, c :: os, s, t, r, hl, h => setAll_on rs os _ _ r (by rw [(setMem_shape s q c).2.2.2, (setMem_shape t q c).2.2.2, hl]) (setMem_on hl h)
theorem setMem_off {s : St} {q r : Ref} {cs : List AV} (h : r ≠ q) : (s.setMem q cs).mem r = s.mem r := by
  cases q with
  | own k => cases r with
    | own j => have : j ≠ k := fun e => h (by rw [e]); simp [St.mem, St.setMem, upd, this]
    | ext i => rfl
  | ext k => cases r with
    | own j => rfl
    | ext i => have : k ≠ i := fun e => h (by rw [e]); simp [St.mem, St.setMem, List.getElem?_set, this]
theorem setAll_off : ∀ (rs : List Ref) (os : List (List AV)) (s : St) (r : Ref), r ∉ rs → (s.setAll rs os).mem r = s.mem r
  | [], os, s, r, _ => by cases os <;> rfl
  | q :: rs, [], s, r, _ => rfl
  | q :: rs, c :: os, s, r, h => by
    simp only [List.mem_cons, not_or] at h
    simp only [St.setAll]
    rw [setAll_off rs os _ r h.2, setMem_off h.1]

/-- The state behind an effect. -/
def X.after (s : St) (dst : Option Nat) (F : List Ref) : X → St
  | .val x => s.put dst x
  | .skip => s.put dst (.s (.tuple #[]))
  | .mem x os news => { s.setAll F os with own := news.foldl (fun own (p : Nat × List AV) => upd own p.1 p.2) (s.setAll F os).own }.put dst (x.getD (.s (.tuple #[])))
  | .tok x new => { s with tok := upd s.tok new.1 new.2 }.put dst x
  | .grow .. => s
  | .pan _ => s
def X.isGo : X → Bool
  | .pan _ => false
  | .grow .. => false
  | _ => true
theorem X.run_eq {s : St} {o : Oper} {F : List Ref} {x : X} (h : x.isGo = true) : x.run s o F = .go (x.after s o.dst F) := by
  cases x <;> first | rfl | cases h
theorem X.run_go {s s' : St} {o : Oper} {F : List Ref} {x : X} (hG : ∀ y d cs p, x ≠ .grow y d cs p) (h : x.run s o F = .go s') : x.isGo = true ∧ s' = x.after s o.dst F := by
  cases x <;> first | exact absurd rfl (hG _ _ _ _) | (cases h; exact ⟨rfl, rfl⟩) | cases h

def X.touch (dst : Option Nat) (F : List Ref) (x : X) : Loc → Prop
  | .e d => dst = some d
  | .m r => r ∈ F ∨ ∃ k ∈ newsOf x, r = .own k
  | .t k => k ∈ toksOf x

theorem put_same (s : St) (dst : Option Nat) (x : AV) : Same (s.put dst x) s := by cases dst <;> exact ⟨rfl, rfl⟩
theorem put_get_m {s : St} {dst : Option Nat} {x : AV} {r : Ref} : (s.put dst x).get (.m r) = s.get (.m r) := by simp [St.get, put_mem]
theorem put_get_t {s : St} {dst : Option Nat} {x : AV} {k : Nat} : (s.put dst x).get (.t k) = s.get (.t k) := by cases dst <;> rfl
theorem put_get_e {s : St} {dst : Option Nat} {x : AV} {d : Nat} : (s.put dst x).get (.e d) = if dst = some d then some (.a x) else s.get (.e d) := by
  simp only [St.get, put_e]; split <;> rfl

theorem memState_get (s : St) (F : List Ref) (os : List (List AV)) (news : List (Nat × List AV)) :
    (∀ d, St.get { s.setAll F os with own := news.foldl (fun own (p : Nat × List AV) => upd own p.1 p.2) (s.setAll F os).own } (.e d) = s.get (.e d)) ∧
    (∀ k, St.get { s.setAll F os with own := news.foldl (fun own (p : Nat × List AV) => upd own p.1 p.2) (s.setAll F os).own } (.t k) = s.get (.t k)) := by
  obtain ⟨h1, h2, h3, h4⟩ := setAll_shape F os s
  exact ⟨fun d => by simp only [St.get]; rw [h1], fun k => by simp only [St.get]; rw [h2]⟩

theorem X.after_same (s : St) (dst : Option Nat) (F : List Ref) (x : X) : Same (x.after s dst F) s := by
  cases x with
  | val x => exact put_same ..
  | skip => exact put_same ..
  | mem x os news =>
    refine Same.trans (put_same ..) ?_
    obtain ⟨h1, h2, h3, h4⟩ := setAll_shape F os s
    exact ⟨h3, h4⟩
  | tok x new => exact Same.trans (put_same ..) ⟨rfl, rfl⟩
  | grow _ _ _ _ => exact ⟨rfl, rfl⟩
  | pan v => exact ⟨rfl, rfl⟩

theorem X.after_off (s : St) (dst : Option Nat) (F : List Ref) (x : X) : Agree (x.after s dst F) s (fun l => ¬ x.touch dst F l) := by
  intro l hl
  cases x with
  | val x => cases l with
    | e d => simp only [X.after, put_get_e]; rw [if_neg (show ¬ dst = some d from hl)]
    | m r => exact put_get_m
    | t k => exact put_get_t
  | skip => cases l with
    | e d => simp only [X.after, put_get_e]; rw [if_neg (show ¬ dst = some d from hl)]
    | m r => exact put_get_m
    | t k => exact put_get_t
  | mem x os news =>
    obtain ⟨m1, m2⟩ := memState_get s F os news
    cases l with
    | e d => simp only [X.after, put_get_e]; rw [if_neg (show ¬ dst = some d from hl)]; exact m1 d
    | m r =>
      simp only [X.after, put_get_m]
      simp only [X.touch, not_or, not_exists, not_and] at hl
      simp only [St.get]
      congr 1
      cases r with
      | ext i => exact setAll_off F os s (.ext i) hl.1
      | own k =>
        simp only [St.mem]
        rw [foldl_off _ _ _ (fun h => hl.2 k h rfl)]
        exact setAll_off F os s (.own k) hl.1
    | t k => simp only [X.after, put_get_t]; exact m2 k
  | tok x new => cases l with
    | e d => simp only [X.after, put_get_e]; rw [if_neg (show ¬ dst = some d from hl)]; rfl
    | m r => simp only [X.after, put_get_m]; cases r <;> rfl
    | t k =>
      simp only [X.after]
      rw [put_get_t]
      simp only [St.get]
      simp only [X.touch, toksOf, List.mem_singleton] at hl
      simp [upd, hl]
  | grow _ _ _ _ => rfl
  | pan v => rfl

theorem X.after_on {s t : St} {dst : Option Nat} {F : List Ref} {x : X} (hs : Same t s) (hF : ∀ r ∈ F, t.mem r = s.mem r) (hgo : x.isGo = true) : Agree (x.after t dst F) (x.after s dst F) (x.touch dst F) := by
  intro l hl
  cases x with
  | val x => cases l with
    | e d => simp only [X.after, put_get_e]; rw [if_pos (show dst = some d from hl), if_pos (show dst = some d from hl)]
    | m r =>
      simp only [X.after]
      rw [put_get_m, put_get_m]
      simp only [St.get]
      rcases hl with h | ⟨k, h, _⟩
      · rw [hF r h]
      · simp [newsOf] at h
    | t k => simp [X.touch, toksOf] at hl
  | skip => cases l with
    | e d => simp only [X.after, put_get_e]; rw [if_pos (show dst = some d from hl), if_pos (show dst = some d from hl)]
    | m r =>
      simp only [X.after]
      rw [put_get_m, put_get_m]
      simp only [St.get]
      rcases hl with h | ⟨k, h, _⟩
      · rw [hF r h]
      · simp [newsOf] at h
    | t k => simp [X.touch, toksOf] at hl
  | mem x os news => cases l with
    | e d => simp only [X.after, put_get_e]; rw [if_pos (show dst = some d from hl), if_pos (show dst = some d from hl)]
    | m r =>
      simp only [X.after]
      rw [put_get_m, put_get_m]
      simp only [St.get]
      congr 1
      cases r with
      | ext i =>
        rcases hl with h | ⟨k, h, e⟩
        · exact setAll_on F os t s (.ext i) hs.2 (hF _ h)
        · cases e
      | own k =>
        simp only [St.mem]
        refine foldl_on _ _ _ _ ?_
        rcases hl with h | ⟨k', h, e⟩
        · exact .inr (setAll_on F os t s (.own k) hs.2 (hF _ h))
        · cases e; exact .inl h
    | t k => simp [X.touch, toksOf] at hl
  | tok x new => cases l with
    | e d => simp only [X.after, put_get_e]; rw [if_pos (show dst = some d from hl), if_pos (show dst = some d from hl)]
    | m r =>
      simp only [X.after]
      rw [put_get_m, put_get_m]
      simp only [St.get]
      rcases hl with h | ⟨k, h, _⟩
      · have := hF r h
        cases r <;> simp only [St.mem] at this ⊢ <;> rw [this]
      · simp [newsOf] at h
    | t k =>
      simp only [X.touch, toksOf, List.mem_singleton] at hl
      simp only [X.after]
      rw [put_get_t, put_get_t]
      simp [St.get, upd, hl]
  | grow _ _ _ _ => cases hgo
  | pan v => cases hgo

theorem looks_op {o : Oper} {d : Nat} (h : Operand.tmp d ∈ o.op.operands.toList) : d ∈ o.looksAt ops.toArray := by
  unfold Oper.looksAt
  exact List.mem_append_left _ (List.mem_filterMap.2 ⟨_, h, rfl⟩)

theorem recRun_frm {st st' : St} {o : Oper} {rc : Rec} (h : recRun P Γ st o = some (rc, .go st')) : Frm (fun s => stepRun P Γ s o) st st' (rdOf ops o rc) (wrOf o rc) := by
  have hrun := recRun_step h
  unfold recRun at h
  obtain ⟨xs, h1, h⟩ := bnd_eq h
  obtain ⟨os, h2, h⟩ := bnd_eq h
  have mv : ∀ t, Agree t st (rdOf ops o rc) → (∀ r ∈ foot st o.op xs, r ∈ rc.F) → t.opds o.op.operands.toList = some xs ∧ foot t o.op xs = foot st o.op xs ∧ t.mems (foot st o.op xs) = some os := fun t ht hF =>
    ⟨by rw [← h1]; exact opds_agree fun d hd => get_e (ht (.e d) (looks_op hd)), foot_agree fun r hr => get_m (ht (.m r) (hF r hr)), by rw [← h2]; exact mems_agree fun r hr => get_m (ht (.m r) (hF r hr))⟩
  split at h
  · cases h
  rename_i hh
  have hh' : hinted Γ o.dst o.op = false := by simpa using hh
  split at h
  · rename_i hq
    obtain ⟨x, h3, h⟩ := bnd_eq h
    simp only [Option.some.injEq, Prod.mk.injEq, Res.go.injEq] at h
    obtain ⟨rfl, rfl⟩ := h
    have hw : ∀ l, wrOf o ⟨foot st o.op xs, [], []⟩ l → (X.val x).touch o.dst [] l := fun l hl => by
      cases l with
      | e d => exact hl
      | m r => simp [wrOf, hq] at hl
      | t k => simp [wrOf] at hl
    have hw' : ∀ l, (X.val x).touch o.dst [] l → wrOf o ⟨foot st o.op xs, [], []⟩ l := fun l hl => by
      cases l with
      | e d => exact hl
      | m r => simp [X.touch, newsOf] at hl
      | t k => simp [X.touch, toksOf] at hl
    refine ⟨hrun, put_same .., fun l hl => X.after_off st o.dst [] (.val x) l (fun h => hl (hw' l h)), fun t ht hag => ?_⟩
    obtain ⟨k1, kf, k2⟩ := mv t (fun l hl => hag l (.inl hl)) (fun r hr => hr)
    refine ⟨t.put o.dst x, ?_, put_same .., fun l hl => X.after_on (x := .val x) ht (by simp) rfl l (hw l hl), fun l hl => X.after_off t o.dst [] (.val x) l (fun h => hl (hw' l h))⟩
    simp only [stepRun, k1, kf, k2, bnd_some, hh', Bool.false_eq_true, if_false, hq, if_true, h3]
  · rename_i hq
    obtain ⟨x, h3, h5⟩ := bnd_eq h
    obtain ⟨h3, hG⟩ := noGrow_some h3
    simp only [Option.some.injEq, Prod.mk.injEq] at h5
    obtain ⟨rfl, h6⟩ := h5
    obtain ⟨hgo, rfl⟩ := X.run_go hG h6
    have hq' : quiet o.op = false := by simpa using hq
    have hw : ∀ l, wrOf o ⟨foot st o.op xs, newsOf x, toksOf x⟩ l ↔ x.touch o.dst (foot st o.op xs) l := fun l => by
      cases l with
      | e d => exact Iff.rfl
      | m r => simp [wrOf, hq', X.touch]
      | t k => exact Iff.rfl
    refine ⟨hrun, X.after_same .., fun l hl => X.after_off st o.dst _ x l (fun h => hl ((hw l).2 h)), fun t ht hag => ?_⟩
    obtain ⟨k1, kf, k2⟩ := mv t (fun l hl => hag l (.inl hl)) (fun r hr => hr)
    have hx : execF P Γ o.op o.dst xs (foot st o.op xs) os t.own t.tok = some x := execF_agree h3 (fun k hk => get_m (s := t) (s' := st) (r := .own k) (hag (.m (.own k)) (.inr (.inr ⟨k, hk, rfl⟩)))) (fun k hk => get_t (hag (.t k) (.inr hk))) (fun j hj => get_t (hag (.t (XK j)) (.inl ⟨j, hj, rfl⟩))) hG
    refine ⟨x.after t o.dst (foot st o.op xs), ?_, X.after_same .., fun l hl => X.after_on ht (fun r hr => get_m (hag (.m r) (.inl hr))) hgo l ((hw l).1 hl), fun l hl => X.after_off t o.dst _ x l (fun h => hl ((hw l).2 h))⟩
    simp only [stepRun, k1, kf, k2, bnd_some, hh', hq', Bool.false_eq_true, if_false, hx]
    rw [X.run_eq hgo]

theorem Frm.of_eq {f g : St → Option Res} {s s1 : St} {R R' W : Loc → Prop} (h : Frm f s s1 R W) (hR : ∀ l, R l → R' l) (he : ∀ t, Same t s → Agree t s (fun x => R' x ∨ W x) → g t = f t) : Frm g s s1 R' W := by
  refine ⟨by rw [he s ⟨rfl, rfl⟩ (fun _ _ => rfl)]; exact h.run, h.same, h.off, fun t ht hag => ?_⟩
  obtain ⟨t1, a1, a2⟩ := h.mv t ht (fun l hl => hag l (hl.imp (hR l) id))
  exact ⟨t1, by rw [he t ht hag]; exact a1, a2⟩

theorem guardOf_agree {s t : St} {o : Oper} {j : Nat} {w : Bool} (hg : o.guard = some (j, w)) (h : ∀ d ∈ o.looksAt ops.toArray, t.env d = s.env d) : guardOf t ops j = guardOf s ops j := by
  unfold guardOf
  split
  · rename_i o2 ho2
    split
    · rename_i d hd
      exact h d (by
        unfold Oper.looksAt
        refine List.mem_append_right _ ?_
        simp [hg, ho2, hd])
    · rfl
  · rfl

theorem recOp_frm {st st' : St} {o : Oper} {rc : Rec} (h : recOp P Γ ops st o = some (rc, .go st')) : Frm (fun s => stepOp P Γ ops s o) st st' (rdOf ops o rc) (wrOf o rc) := by
  unfold recOp at h
  split at h
  case isFalse => cases h
  rename_i hd
  split at h
  · rename_i hg
    refine (recRun_frm (ops := ops) h).of_eq (fun _ h => h) fun t ht hag => ?_
    simp only [stepOp, ht.1, hd, if_true, hg]
  · rename_i j w hg
    obtain ⟨x, h1, h⟩ := bnd_eq h
    obtain ⟨b, h2, h⟩ := bnd_eq h
    unfold guardedR at h
    have hgt : ∀ t, Agree t st (fun l => rdOf ops o rc l ∨ wrOf o rc l) → guardOf t ops j = some x := fun t hag => by
      rw [← h1]
      exact guardOf_agree hg fun d hd' => get_e (hag (.e d) (.inl hd'))
    split at h
    · rename_i hb
      refine (recRun_frm (ops := ops) h).of_eq (fun _ h => h) fun t ht hag => ?_
      simp only [stepOp, ht.1, hd, if_true, hg, hgt t hag, bnd_some, h2, guarded, if_pos hb]
    · rename_i hb
      simp only [Option.some.injEq, Prod.mk.injEq, Res.go.injEq] at h
      obtain ⟨rfl, rfl⟩ := h
      have hstep : ∀ t, Same t st → Agree t st (fun l => rdOf ops o Rec.nil l ∨ wrOf o Rec.nil l) → stepOp P Γ ops t o = some (.go (t.put o.dst (.s (.tuple #[])))) := fun t ht hag => by
        simp only [stepOp, ht.1, hd, if_true, hg, hgt t hag, bnd_some, h2, guarded, if_neg hb]
      have hw : ∀ l, wrOf o Rec.nil l ↔ (X.skip).touch o.dst [] l := fun l => by
        cases l with
        | e d => exact Iff.rfl
        | m r => simp [wrOf, X.touch, newsOf, Rec.nil]
        | t k => exact Iff.rfl
      exact ⟨hstep st ⟨rfl, rfl⟩ (fun _ _ => rfl), put_same .., fun l hl => X.after_off st o.dst [] .skip l (fun h => hl ((hw l).2 h)), fun t ht hag =>
        ⟨_, hstep t ht hag, put_same .., fun l hl => X.after_on (x := .skip) ht (by simp) rfl l ((hw l).1 hl), fun l hl => X.after_off t o.dst [] .skip l (fun h => hl ((hw l).2 h))⟩⟩
end Go.Ev
end

section
set_option linter.all false
set_option linter.unusedVariables false
set_option linter.unusedSimpArgs false
namespace Go.Ev
variable {w0 w : World} {l : Lay} {P : Program} {Γ : Gam}

/-! ### Regions whose order is drawn: what the text fixes -/
def touches (o : Oper) : Bool :=
  match o.op with
  | .load .. | .store .. | .alloc _ | .box .. => true
  | .call c => !quietC c.callee
  | _ => false

def direct (o : Oper) : List Nat := (o.after.toList.filter (Region.binds .any)).map (·.on)
def tbStep (tb : List (List Nat)) (o : Oper) : List (List Nat) := tb ++ [((direct o) ++ (direct o).flatMap fun j => tb.getD j []).eraseDups]
def mkTb (ops : List Oper) : List (List Nat) := ops.foldl tbStep []

def pairB (ops : List Oper) (pairs : List (Nat × Nat)) (j i : Nat) (oj o : Oper) : Bool :=
  Oper.apart ops.toArray oj o && ((quiet oj.op && quiet o.op) || !(touches oj && touches o) || pairs.contains (j, i))
def rowB (ops : List Oper) (tb : List (List Nat)) (pairs : List (Nat × Nat)) (i : Nat) (o : Oper) (t : List Nat) : Bool :=
  ((direct o).all fun j => decide (j < i)) &&
  (t.all fun x => (direct o).contains x || (direct o).any fun y => (tb.getD y []).contains x) &&
  ((List.range i).all fun j => t.contains j || match ops[j]? with | some oj => pairB ops pairs j i oj o | none => false)
def floatOk (ops : List Oper) (tb : List (List Nat)) (pairs : List (Nat × Nat)) : Bool :=
  (List.range ops.length).all fun i => match ops[i]? with | some o => rowB ops tb pairs i o (tb.getD i []) | none => false

def xkNe (r : Ref) (k : Nat) : Bool := match r with | .own j => !(k == XK j) | .ext _ => true
def Rec.apart (a b : Rec) : Bool :=
  a.F.all (fun r => !(b.F.contains r)) && a.N.all (fun k => !(b.N.contains k) && !(b.F.contains (.own k))) && b.N.all (fun k => !(a.F.contains (.own k))) && a.T.all (fun k => !(b.T.contains k)) && a.T.all (fun k => b.F.all fun r => xkNe r k) && b.T.all (fun k => a.F.all fun r => xkNe r k)
def pairsOk (recs : List Rec) (pairs : List (Nat × Nat)) : Bool :=
  pairs.all fun p => Rec.apart (recs.getD p.1 Rec.nil) (recs.getD p.2 Rec.nil)

def runR.next (rc : Rec) (K : St → Option (List Rec × St)) : Res → Option (List Rec × St)
  | .go st => bnd (K st) fun x => some (rc :: x.1, x.2)
  | .pan _ => none
theorem runR.next_go (rc : Rec) (K : St → Option (List Rec × St)) (st : St) : runR.next rc K (.go st) = bnd (K st) fun x => some (rc :: x.1, x.2) := Eq.trans rfl rfl
def runR (P : Program) (Γ : Gam) (ops : List Oper) : List Oper → St → Option (List Rec × St)
  | [], st => some ([], st)
  | o :: r, st => bnd (recOp P Γ ops st o) fun x => runR.next x.1 (runR P Γ ops r) x.2

theorem runR_length {ops : List Oper} : ∀ {r : List Oper} {st st' : St} {recs : List Rec}, runR P Γ ops r st = some (recs, st') → recs.length = r.length
  | [], _, _, _, h => by simp [runR] at h; rw [h.1]; rfl
  | o :: r, st, st', recs, h => by
    simp only [runR] at h
    obtain ⟨⟨rc, x⟩, h1, h2⟩ := bnd_eq h
    cases x with
    | go st1 =>
      obtain ⟨⟨a, b⟩, h3, h4⟩ := bnd_eq h2
      cases h4
      simp [runR_length h3]
    | pan v => cases h2

theorem quiet_touch {st : St} {o : Oper} {rc : Rec} {r : Res} (h : recRun P Γ st o = some (rc, r)) : (quiet o.op = true → rc.N = [] ∧ rc.T = []) ∧ (touches o = false → rc = Rec.nil) := by
  unfold recRun at h
  obtain ⟨xs, h1, h⟩ := bnd_eq h
  obtain ⟨os, h2, h⟩ := bnd_eq h
  have hf : touches o = false → foot st o.op xs = [] := fun ht => by
    unfold foot
    unfold touches at ht
    split <;> rename_i hop <;> simp only [hop] at ht
    · cases ht
    · cases ht
    · rename_i c
      split
      · rename_i fo hc; simp [hc, quietC] at ht
      · rfl
    · rfl
  split at h
  · cases h
  split at h
  · rename_i hq
    obtain ⟨x, h3, h⟩ := bnd_eq h
    simp only [Option.some.injEq, Prod.mk.injEq] at h
    obtain ⟨rfl, _⟩ := h
    exact ⟨fun _ => ⟨rfl, rfl⟩, fun ht => by rw [hf ht]; rfl⟩
  · rename_i hq
    obtain ⟨x, h3, h⟩ := bnd_eq h
    obtain ⟨h3, _⟩ := noGrow_some h3
    simp only [Option.some.injEq, Prod.mk.injEq] at h
    obtain ⟨rfl, _⟩ := h
    refine ⟨fun h => absurd h hq, fun ht => ?_⟩
    rw [hf ht]
    have : newsOf x = [] ∧ toksOf x = [] := by
      unfold touches at ht
      unfold quiet at hq
      cases hop : o.op with
      | assign y =>
        rw [hop] at h3
        simp only [execF, fAssign] at h3
        split at h3
        · cases h3; exact ⟨rfl, rfl⟩
        · cases h3
      | alloc t => rw [hop] at ht; cases ht
      | box t y => rw [hop] at ht; cases ht
      | store t y z => rw [hop] at ht; cases ht
      | call c => rw [hop] at ht hq; simp only at ht hq; rw [Bool.not_eq_false'] at ht; exact absurd ht hq
      | panic y =>
        rw [hop] at h3
        simp only [execF, fPanic] at h3
        split at h3
        · cases h3; exact ⟨rfl, rfl⟩
        · cases h3
      | _ => rw [hop] at hq; exact absurd rfl hq
    rw [this.1, this.2]; rfl

theorem quiet_touch' {ops : List Oper} {st : St} {o : Oper} {rc : Rec} {r : Res} (h : recOp P Γ ops st o = some (rc, r)) : (quiet o.op = true → rc.N = [] ∧ rc.T = []) ∧ (touches o = false → rc = Rec.nil) := by
  unfold recOp at h
  split at h
  case isFalse => cases h
  split at h
  · exact quiet_touch h
  · obtain ⟨x, h1, h⟩ := bnd_eq h
    obtain ⟨b, h2, h⟩ := bnd_eq h
    unfold guardedR at h
    split at h
    · exact quiet_touch h
    · cases h; exact ⟨fun _ => ⟨rfl, rfl⟩, fun _ => rfl⟩

def fOf (P : Program) (Γ : Gam) (ops : List Oper) (i : Nat) (s : St) : Option Res :=
  match ops[i]? with
  | some o => stepOp P Γ ops s o
  | none => none
def rOf (ops : List Oper) (recs : List Rec) (i : Nat) (x : Loc) : Prop := ∃ o, ops[i]? = some o ∧ rdOf ops o (recs.getD i Rec.nil) x
def wOf (ops : List Oper) (recs : List Rec) (i : Nat) (x : Loc) : Prop := ∃ o, ops[i]? = some o ∧ wrOf o (recs.getD i Rec.nil) x

def RecOk (ops : List Oper) (recs : List Rec) : Prop := ∀ i o, ops[i]? = some o → (quiet o.op = true → (recs.getD i Rec.nil).N = [] ∧ (recs.getD i Rec.nil).T = []) ∧ (touches o = false → recs.getD i Rec.nil = Rec.nil)

theorem chain_of_run {ops : List Oper} {recs : List Rec} : ∀ (rest : List Oper) (k : Nat) (rs : List Rec) (st st' : St), (∀ j, rest[j]? = ops[k + j]?) → (∀ j, rs[j]? = recs[k + j]?) → runR P Γ ops rest st = some (rs, st') →
    Chain (fOf P Γ ops) (rOf ops recs) (wOf ops recs) (List.range' k rest.length) st st' ∧ (∀ j o, rest[j]? = some o → (quiet o.op = true → (rs.getD j Rec.nil).N = [] ∧ (rs.getD j Rec.nil).T = []) ∧ (touches o = false → rs.getD j Rec.nil = Rec.nil))
  | [], k, rs, st, st', _, _, h => by
    simp [runR] at h
    exact ⟨h.2, fun j o hj => by simp at hj⟩
  | o :: rest, k, rs, st, st', h1, h2, h => by
    simp only [runR] at h
    obtain ⟨⟨rc, x⟩, h3, h4⟩ := bnd_eq h
    cases x with
    | pan v => cases h4
    | go st1 =>
      obtain ⟨⟨a, b⟩, h5, h6⟩ := bnd_eq h4
      cases h6
      obtain ⟨i1, i2⟩ := chain_of_run rest (k + 1) a st1 b (fun j => by have := h1 (j + 1); simp at this; rw [this]; congr 1; omega) (fun j => by have := h2 (j + 1); simp at this; rw [this]; congr 1; omega) h5
      have ho : ops[k]? = some o := by have := h1 0; simp at this; exact this.symm
      have hr : recs[k]? = some rc := by have := h2 0; simp at this; exact this.symm
      have hr' : recs.getD k Rec.nil = rc := by simp [List.getD_eq_getElem?_getD, hr]
      refine ⟨?_, fun j o' hj => ?_⟩
      · simp only [List.length_cons, List.range'_succ]
        refine ⟨st1, ?_, i1⟩
        have f := recOp_frm h3
        refine ⟨by simp only [fOf, ho]; exact f.run, f.same, fun x hx => f.off x (fun hw => hx ⟨o, ho, by rw [hr']; exact hw⟩), fun t ht hag => ?_⟩
        obtain ⟨t1, b1, b2, b3, b4⟩ := f.mv t ht (fun x hx => hag x (hx.imp (fun h => ⟨o, ho, by rw [hr']; exact h⟩) (fun h => ⟨o, ho, by rw [hr']; exact h⟩)))
        refine ⟨t1, by simp only [fOf, ho]; exact b1, b2, fun x hx => b3 x ?_, fun x hx => b4 x (fun hw => hx ⟨o, ho, by rw [hr']; exact hw⟩)⟩
        obtain ⟨o', ho', hw⟩ := hx
        rw [ho] at ho'
        cases ho'
        rwa [hr'] at hw
      · cases j with
        | zero => simp at hj; subst hj; simpa using quiet_touch' h3
        | succ j => simpa using i2 j o' (by simpa using hj)

theorem Rec.apart_spec {a b : Rec} (h : Rec.apart a b = true) : (∀ r ∈ a.F, r ∉ b.F) ∧ (∀ k ∈ a.N, k ∉ b.N ∧ Ref.own k ∉ b.F) ∧ (∀ k ∈ b.N, Ref.own k ∉ a.F) ∧ (∀ k ∈ a.T, k ∉ b.T) ∧ (∀ k ∈ a.T, ∀ j, Ref.own j ∈ b.F → k ≠ XK j) ∧ (∀ k ∈ b.T, ∀ j, Ref.own j ∈ a.F → k ≠ XK j) := by
  simp only [Rec.apart, Bool.and_eq_true, List.all_eq_true, Bool.not_eq_true', List.contains_eq_mem, decide_eq_false_iff_not] at h
  obtain ⟨⟨⟨⟨⟨h1, h2⟩, h3⟩, h4⟩, h5⟩, h6⟩ := h
  exact ⟨h1, h2, h3, h4, fun k hk j hj => by simpa [xkNe] using h5 k hk _ hj, fun k hk j hj => by simpa [xkNe] using h6 k hk _ hj⟩

theorem indep_of {ops : List Oper} {recs : List Rec} {pairs : List (Nat × Nat)} (hok : RecOk ops recs) (hp : pairsOk recs pairs = true) {j i : Nat} {oj o : Oper} (hj : ops[j]? = some oj) (hi : ops[i]? = some o) (hb : pairB ops pairs j i oj o = true) : Indep (rOf ops recs) (wOf ops recs) j i := by
  simp only [pairB, Bool.and_eq_true, Bool.or_eq_true, Bool.not_eq_true', Bool.and_eq_false_iff] at hb
  obtain ⟨hap, hb⟩ := hb
  obtain ⟨p1, p2, p3⟩ := Oper.apart_spec hap
  generalize hrj : recs.getD j Rec.nil = rj at *
  generalize hri : recs.getD i Rec.nil = ri at *
  -- what is shared in the memory
  have hmem : (∀ r, wrOf oj rj (.m r) → ¬ rdOf ops o ri (.m r) ∧ ¬ wrOf o ri (.m r)) ∧ (∀ r, wrOf o ri (.m r) → ¬ rdOf ops oj rj (.m r)) ∧ (∀ k, wrOf oj rj (.t k) → ¬ wrOf o ri (.t k)) ∧ (∀ k, wrOf oj rj (.t k) → ¬ rdOf ops o ri (.t k)) ∧ (∀ k, wrOf o ri (.t k) → ¬ rdOf ops oj rj (.t k)) := by
    have qj := hok j oj hj
    have qi := hok i o hi
    rw [hrj] at qj
    rw [hri] at qi
    have empty : ∀ (o : Oper) (rc : Rec), rc.N = [] → rc.T = [] → (quiet o.op = true ∨ rc.F = []) → (∀ r, ¬ wrOf o rc (.m r)) ∧ ∀ k, ¬ wrOf o rc (.t k) := fun o rc h1 h2 h3 => by
      refine ⟨fun r hr => ?_, fun k hk => ?_⟩
      · rcases hr with ⟨h4, h5⟩ | ⟨k, h4, _⟩
        · rcases h3 with h3 | h3
          · rw [h3] at h4; cases h4
          · rw [h3] at h5; cases h5
        · rw [h1] at h4; cases h4
      · simp only [wrOf, h2] at hk; cases hk
    rcases hb with (⟨hq1, hq2⟩ | ht | ht) | hc
    · obtain ⟨e1, e2⟩ := empty oj rj (qj.1 hq1).1 (qj.1 hq1).2 (.inl hq1)
      obtain ⟨e3, e4⟩ := empty o ri (qi.1 hq2).1 (qi.1 hq2).2 (.inl hq2)
      exact ⟨fun r h => absurd h (e1 r), fun r h => absurd h (e3 r), fun k h => absurd h (e2 k), fun k h => absurd h (e2 k), fun k h => absurd h (e4 k)⟩
    · have := qj.2 ht
      subst this
      obtain ⟨e1, e2⟩ := empty oj Rec.nil rfl rfl (.inr rfl)
      exact ⟨fun r h => absurd h (e1 r), fun r _ h => (by simp [rdOf, Rec.nil] at h), fun k h => absurd h (e2 k), fun k h => absurd h (e2 k), fun k _ h => (by simp [rdOf, Rec.nil] at h)⟩
    · have := qi.2 ht
      subst this
      obtain ⟨e1, e2⟩ := empty o Rec.nil rfl rfl (.inr rfl)
      exact ⟨fun r _ => ⟨fun h => by simp [rdOf, Rec.nil] at h, e1 r⟩, fun r h => absurd h (e1 r), fun k _ => e2 k, fun k _ h => (by simp [rdOf, Rec.nil] at h), fun k h => absurd h (e2 k)⟩
    · have := List.all_eq_true.1 hp (j, i) (by simpa using hc)
      simp only [hrj, hri] at this
      obtain ⟨a1, a2, a3, a4, a5, a6⟩ := Rec.apart_spec this
      refine ⟨fun r hr => ?_, fun r hr hr2 => ?_, fun k hk => a4 k hk, fun k hk ⟨j, h1, h2⟩ => a5 k hk j h1 h2, fun k hk ⟨j, h1, h2⟩ => a6 k hk j h1 h2⟩
      · rcases hr with ⟨_, h1⟩ | ⟨k, h1, rfl⟩
        · refine ⟨a1 r h1, fun h2 => ?_⟩
          rcases h2 with ⟨_, h2⟩ | ⟨k, h2, rfl⟩
          · exact a1 r h1 h2
          · exact a3 k h2 h1
        · refine ⟨(a2 k h1).2, fun h2 => ?_⟩
          rcases h2 with ⟨_, h2⟩ | ⟨k', h2, e⟩
          · exact (a2 k h1).2 h2
          · cases e; exact (a2 k h1).1 h2
      · have hr2' : r ∈ rj.F := hr2
        rcases hr with ⟨_, h1⟩ | ⟨k, h1, rfl⟩
        · exact a1 r hr2' h1
        · exact a3 k h1 hr2'
  constructor
  · rintro x ⟨oj', hj', hw⟩
    rw [hj] at hj'
    cases hj'
    rw [hrj] at hw
    constructor
    · rintro ⟨o', ho', hr⟩
      rw [hi] at ho'
      cases ho'
      rw [hri] at hr
      cases x with
      | e d => exact p1 d hw hr
      | m r => exact (hmem.1 r hw).1 hr
      | t k => exact hmem.2.2.2.1 k hw hr
    · rintro ⟨o', ho', hr⟩
      rw [hi] at ho'
      cases ho'
      rw [hri] at hr
      cases x with
      | e d => exact p2 d hw hr
      | m r => exact (hmem.1 r hw).2 hr
      | t k => exact hmem.2.2.1 k hw hr
  · rintro x ⟨o', ho', hw⟩ ⟨oj', hj', hr⟩
    rw [hi] at ho'
    cases ho'
    rw [hj] at hj'
    cases hj'
    rw [hri] at hw
    rw [hrj] at hr
    cases x with
    | e d => exact p3 d hw hr
    | m r => exact hmem.2.1 r hw hr
    | t k => exact hmem.2.2.2.2 k hw hr

theorem direct_mem {o : Oper} {j : Nat} : j ∈ direct o ↔ ∃ e ∈ o.after, Region.binds .any e = true ∧ e.on = j := by
  simp only [direct, List.mem_map, List.mem_filter, Array.mem_toList_iff]
  constructor
  · rintro ⟨e, ⟨h1, h2⟩, h3⟩; exact ⟨e, h1, h2, h3⟩
  · rintro ⟨e, h1, h2, h3⟩; exact ⟨e, ⟨h1, h2⟩, h3⟩

structure Static (ops : List Oper) (tb : List (List Nat)) (pairs : List (Nat × Nat)) : Prop where
  back : ∀ i o, ops[i]? = some o → ∀ j ∈ direct o, j < i
  anc : ∀ i o, ops[i]? = some o → ∀ x ∈ tb.getD i [], x ∈ direct o ∨ ∃ y ∈ direct o, x ∈ tb.getD y []
  pair : ∀ i o, ops[i]? = some o → ∀ j oj, j < i → ops[j]? = some oj → j ∈ tb.getD i [] ∨ pairB ops pairs j i oj o = true

theorem Static.of {ops : List Oper} {tb : List (List Nat)} {pairs : List (Nat × Nat)} (h : floatOk ops tb pairs = true) : Static ops tb pairs := by
  have key : ∀ i o, ops[i]? = some o → rowB ops tb pairs i o (tb.getD i []) = true := fun i o ho => by
    have hlt : i < ops.length := (List.getElem?_eq_some_iff.1 ho).1
    have := List.all_eq_true.1 h i (List.mem_range.2 hlt)
    simpa only [ho] using this
  refine ⟨fun i o ho j hj => ?_, fun i o ho x hx => ?_, fun i o ho j oj hj hoj => ?_⟩
  · have := key i o ho
    simp only [rowB, Bool.and_eq_true] at this
    simpa using List.all_eq_true.1 this.1.1 j hj
  · have := key i o ho
    simp only [rowB, Bool.and_eq_true] at this
    have := List.all_eq_true.1 this.1.2 x hx
    simp only [Bool.or_eq_true, List.contains_eq_mem, decide_eq_true_eq, List.any_eq_true] at this
    exact this
  · have := key i o ho
    simp only [rowB, Bool.and_eq_true] at this
    have := List.all_eq_true.1 this.2 j (List.mem_range.2 hj)
    simp only [Bool.or_eq_true, List.contains_eq_mem, decide_eq_true_eq, hoj] at this
    exact this

/-- All ancestors of what is ready are listed. -/
theorem anc_listed {ops : List Oper} {tb : List (List Nat)} {pairs : List (Nat × Nat)} {listed : Array Bool} (hs : Static ops tb pairs) (hc : ∀ (i : Nat) (o : Oper), ops[i]? = some o → listed.getD i true = true → ∀ j ∈ direct o, listed.getD j true = true) (hlt : ∀ (i : Nat) (o : Oper), ops[i]? = some o → ∀ j ∈ direct o, j < ops.length) :
    ∀ (i : Nat) (o : Oper), ops[i]? = some o → (∀ j ∈ direct o, listed.getD j true = true) → ∀ x ∈ tb.getD i [], listed.getD x true = true := by
  intro i
  induction i using Nat.strongRecOn with
  | _ i ih =>
    intro o ho hr x hx
    rcases hs.anc i o ho x hx with h | ⟨y, hy, h⟩
    · exact hr x h
    · have hyl := hlt i o ho y hy
      obtain ⟨oy, hoy⟩ : ∃ oy, ops[y]? = some oy := ⟨_, List.getElem?_eq_getElem hyl⟩
      exact ih y (hs.back i o ho y hy) oy hoy (hc y oy hoy (hr y hy)) x h

theorem getD_tf {listed : Array Bool} {i : Nat} (hi : i < listed.size) : listed.getD i true = listed.getD i false := by simp [hi]

theorem anyOps_wp {Fe : Fence} [FW Fe] {ops : Array Oper} {tb : List (List Nat)} {pairs : List (Nat × Nat)} {recs : List Rec} (hS : Sound P Γ) (hs : Static ops.toList tb pairs) (hok : RecOk ops.toList recs) (hp : pairsOk recs pairs = true)
    {Q : Exit → Act → World → Prop} {rd : Rd} {be : List Nat} {df : List Deferred} {dl : List Nat} {st' : St} (hP : PostE w0 rd be df Q .normal st') :
    ∀ (n : Nat) (L : List Nat) (listed : Array Bool) (st : St) (w : World) (l : Lay) (a : Act), L.length = n → listed.size = ops.size → L.Pairwise (· < ·) → (∀ i, i ∈ L ↔ i < ops.size ∧ listed.getD i true = false) →
    (∀ i o, ops.toList[i]? = some o → listed.getD i true = true → ∀ j ∈ direct o, listed.getD j true = true) →
    Chain (fOf P Γ ops.toList) (rOf ops.toList recs) (wOf ops.toList recs) L st st' → Good w0 w l st a → l.rd = { rd with d := dl } → l.be = be → a.defers = mks dl ++ df →
    wpAnyIn Fe 0 P .any ops Q n listed a w := by
  have hlt : ∀ i o, ops.toList[i]? = some o → ∀ j ∈ direct o, j < ops.size := fun i o ho j hj => by
    have h1 := hs.back i o ho j hj
    have h2 : i < ops.toList.length := (List.getElem?_eq_some_iff.1 ho).1
    simp at h2
    omega
  intro n
  induction n with
  | zero =>
    intro L listed st w l a hL hsz hpw hmem hcl hch hg h1 h2 h3
    have hL' : L = [] := List.length_eq_zero_iff.1 hL
    subst hL'
    have e : st = st' := hch
    subst e
    refine ⟨?_, hP a w l dl hg h1 h2 h3⟩
    refine List.eq_nil_iff_forall_not_mem.2 fun i hi => ?_
    obtain ⟨k1, o, k2, _⟩ := mem_ready.1 hi
    have := (hmem i).2 ⟨(Array.getElem?_eq_some_iff.1 k2).1, k1⟩
    cases this
  | succ n ih =>
    intro L listed st w l a hL hsz hpw hmem hcl hch hg h1 h2 h3
    constructor
    · intro hr
      exfalso
      cases L with
      | nil => cases hL
      | cons h L' =>
        have hh := (hmem h).1 (by simp)
        have ho : ops[h]? = some ops[h] := Array.getElem?_eq_getElem hh.1
        have : h ∈ Region.ready .any ops listed := mem_ready.2 ⟨hh.2, _, ho, fun e he hb => by
          have hd : e.on ∈ direct ops[h] := direct_mem.2 ⟨e, he, hb, rfl⟩
          have hlt' := hs.back h _ (by simpa using ho) _ hd
          have hsz' : e.on < ops.size := by omega
          rw [← getD_tf (by omega)]
          cases hx : listed.getD e.on true with
          | true => rfl
          | false =>
            have hm := (hmem e.on).2 ⟨hsz', hx⟩
            rcases List.mem_cons.1 hm with hm | hm
            · omega
            · have := List.rel_of_pairwise_cons hpw hm; omega⟩
        rw [hr] at this
        cases this
    · intro i hi
      obtain ⟨k1, o, k2, k3⟩ := mem_ready.1 hi
      have hisz : i < ops.size := (Array.getElem?_eq_some_iff.1 k2).1
      have ho : ops.toList[i]? = some o := by simpa using k2
      have hdl : ∀ j ∈ direct o, listed.getD j true = true := fun j hj => by
        obtain ⟨e, he, hb, rfl⟩ := direct_mem.1 hj
        rw [getD_tf (by have := hlt i o ho e.on hj; omega)]
        exact k3 e he hb
      have hiL : i ∈ L := (hmem i).2 ⟨hisz, k1⟩
      obtain ⟨L1, L2, rfl⟩ := List.append_of_mem hiL
      have hind : ∀ j ∈ L1, Indep (rOf ops.toList recs) (wOf ops.toList recs) j i := fun j hj => by
        have hji : j < i := (List.pairwise_append.1 hpw).2.2 j hj i (by simp)
        have hj' := (hmem j).1 (by simp [hj])
        have hoj : ops.toList[j]? = some ops[j] := by simp [hj'.1]
        rcases hs.pair i o ho j _ hji hoj with h | h
        · have := anc_listed hs hcl (fun i o ho j hj => by simpa using hlt i o ho j hj) i o ho hdl j h
          rw [hj'.2] at this
          cases this
        · exact indep_of hok hp hoj ho h
      obtain ⟨st1, hf, hch'⟩ := Chain.bubble L1 st hind hch
      have hrun := hf.run
      simp only [fOf, ho] at hrun
      refine stepOp_wp hS hg k2 hrun _ Q ?_
      intro a' w' l' g1 g2 g3 g4
      refine ih (L1 ++ L2) _ st1 w' l' a' (by simp at hL ⊢; omega) (by simpa using hsz) ?_ ?_ ?_ hch' g1 (g2.trans h1) (g3.trans h2) (g4.trans h3)
      · have hp2 := List.pairwise_append.1 hpw
        exact List.pairwise_append.2 ⟨hp2.1, (List.pairwise_cons.1 hp2.2.1).2, fun a ha b hb => hp2.2.2 a ha b (by simp [hb])⟩
      · intro j
        have hp2 := List.pairwise_append.1 hpw
        by_cases hji : j = i
        · subst hji
          constructor
          · intro hj
            exfalso
            rcases List.mem_append.1 hj with hj | hj
            · have := hp2.2.2 j hj j (by simp); omega
            · have := List.rel_of_pairwise_cons hp2.2.1 hj; omega
          · rintro ⟨_, hj⟩
            exfalso
            simp [hsz, hisz] at hj
        · rw [getD_set_ne true (fun e => hji e.symm), ← hmem j]
          simp [hji]
      · intro k ok hk hl j hj
        by_cases hki : k = i
        · subst hki
          rw [ho] at hk
          cases hk
          have := hdl j hj
          by_cases hji : j = k
          · subst hji; simp [hsz, hisz]
          · rw [getD_set_ne true (fun e => hji e.symm)]; exact this
        · rw [getD_set_ne true (fun e => hki e.symm)] at hl
          have := hcl k ok hk hl j hj
          by_cases hji : j = i
          · subst hji; simp [hsz, hisz]
          · rw [getD_set_ne true (fun e => hji e.symm)]; exact this

theorem Good.drew {st : St} {a : Act} (h : Good w0 w l st a) : Good w0 w.drew l st a := ⟨h.1.drew.1, h.2.mono h.1.drew.2⟩

theorem drawn_wp {Fe : Fence} [FW Fe] {id : Nat} {ops : Array Oper} {tb : List (List Nat)} {pairs : List (Nat × Nat)} {recs : List Rec} (hm : P.follows .mixedOrders = true) (hS : Sound P Γ) (hs : floatOk ops.toList tb pairs = true) (hp : pairsOk recs pairs = true)
    {Q : Exit → Act → World → Prop} {st st' : St} {a : Act} {df : List Deferred} (hdf : a.defers = mks l.rd.d ++ df) (hr : runR P Γ ops.toList ops.toList st = some (recs, st')) (hg : Good w0 w l st a) (hP : PostE w0 l.rd l.be df Q .normal st') : (Code.region id ops true).wpIn Fe 0 P Q a w := by
  refine wpIn_region_any hm ?_
  obtain ⟨c1, c2⟩ := chain_of_run (recs := recs) ops.toList 0 recs st st' (fun j => by simp) (fun j => by simp) hr
  have hlen : (List.range' 0 ops.toList.length).length = ops.size := by simp
  rw [← hlen]
  refine anyOps_wp hS (Static.of hs) (fun i o ho => c2 i o ho) hp hP _ _ _ st _ l a rfl (by simp) (List.pairwise_lt_range' ..) ?_ ?_ c1 hg.drew rfl rfl hdf
  · intro i
    simp only [List.mem_range'_1]
    constructor
    · intro h
      have hi : i < ops.size := by simp at h; omega
      exact ⟨hi, by simp [hi]⟩
    · intro h; simp; exact h.1
  · intro i o ho hl j hj
    exfalso
    have hi : i < ops.toList.length := (List.getElem?_eq_some_iff.1 ho).1
    simp at hi
    simp [hi] at hl
end Go.Ev
end

section
set_option linter.all false
set_option linter.unusedVariables false
set_option linter.unusedSimpArgs false
namespace Go.Ev
variable {P : Program} {st : St} {Φ : Ex → St → Prop} {Fe : Fence}

/-! ### Code from a state, with what is asked behind it -/
def EW {Fe : Fence} (P : Program) (c : Code) (st : St) (Φ : Ex → St → Prop) : Prop :=
  ∀ (w0 w : World) (l : Lay) (a : Act) (df : List Deferred) (Q : Exit → Act → World → Prop), Good w0 w l st a → a.defers = mks l.rd.d ++ df → (∀ x st', Φ x st' → PostE w0 l.rd l.be df Q x st') → c.wpIn Fe 0 P Q a w

def OptPost (o : Option (Ex × St)) (Φ : Ex → St → Prop) : Prop := ∃ p, o = some p ∧ Φ p.1 p.2
@[simp] theorem OptPost_some (x : Ex) (s : St) : OptPost (some (x, s)) Φ ↔ Φ x s :=
  ⟨fun ⟨p, h, hp⟩ => by cases h; exact hp, fun h => ⟨_, rfl, h⟩⟩
def DrawPost (pairs : List (Nat × Nat)) (o : Option (List Rec × St)) (Φ : Ex → St → Prop) : Prop := ∃ p, o = some p ∧ pairsOk p.1 pairs = true ∧ Φ .normal p.2
@[simp] theorem DrawPost_some (pairs : List (Nat × Nat)) (r : List Rec) (s : St) : DrawPost pairs (some (r, s)) Φ ↔ pairsOk r pairs = true ∧ Φ .normal s :=
  ⟨fun ⟨p, h, hp⟩ => by cases h; exact hp, fun h => ⟨_, rfl, h⟩⟩

/-- The same frame: its marks may have grown. -/
def RdSame (r r' : Rd) : Prop := r' = { r with d := r'.d }
theorem RdSame.rfl' (r : Rd) : RdSame r r := rfl
theorem PostE.same {w0 : World} {rd rd' : Rd} {be be' : List Nat} {df : List Deferred} {Q : Exit → Act → World → Prop} {x : Ex} {s : St} (h : ∃ d, rd' = { rd with d := d }) (hb : be' = be) (hp : PostE w0 rd be df Q x s) : PostE w0 rd' be' df Q x s := by
  obtain ⟨d, rfl⟩ := h
  subst hb
  exact hp

theorem EW.mono {c : Code} {Φ' : Ex → St → Prop} (h : EW (Fe := Fe) P c st Φ) (hq : ∀ x s, Φ x s → Φ' x s) : EW (Fe := Fe) P c st Φ' :=
  fun w0 w l a df Q hg hdf hP => h w0 w l a df Q hg hdf fun x s hx => hP x s (hq x s hx)

theorem EW.skip (h : Φ .normal st) : EW (Fe := Fe) P .skip st Φ := fun w0 w l a df Q hg hdf hP => wpIn_skip (hP _ _ h a w l _ hg rfl rfl hdf)
theorem EW.ret (h : Φ .ret st) : EW (Fe := Fe) P .ret st Φ := fun w0 w l a df Q hg hdf hP => wpIn_ret (hP _ _ h a w l _ hg rfl rfl hdf)
theorem EW.exit {id : Nat} (h : Φ (.exit id) st) : EW (Fe := Fe) P (.exit id) st Φ := fun w0 w l a df Q hg hdf hP => wpIn_exit (hP _ _ h a w l _ hg rfl rfl hdf)

theorem EW.hide {c : Code} (h : ∀ Ψ : Ex → St → Prop, (∀ e s, Φ e s → Ψ e s) → EW (Fe := Fe) P c st Ψ) : EW (Fe := Fe) P c st Φ := h Φ fun _ _ h => h
def isNorm : Ex → Bool
  | .normal => true
  | _ => false

theorem EW.seq {x y : Code} (h : ∀ Ψ : Ex → St → Prop, (∀ s, EW (Fe := Fe) P y s Φ → Ψ .normal s) → (∀ e s, isNorm e = false → Φ e s → Ψ e s) → EW (Fe := Fe) P x st Ψ) : EW (Fe := Fe) P (.seq x y) st Φ := by
  intro w0 w l a df Q hg hdf hP
  refine wpIn_seq (h (fun e s => match e with | .normal => EW (Fe := Fe) P y s Φ | e => Φ e s) (fun s hs => hs) (fun e s hn he => by cases e <;> first | exact he | cases hn) w0 w l a df _ hg hdf ?_)
  intro e s he
  cases e with
  | normal =>
    intro a' w' l' d g1 g2 g3 g4
    exact he w0 w' l' a' df Q g1 (by rw [g2]; exact g4) (fun x s hx => (hP x s hx).same ⟨d, g2⟩ g3)
  | exit id => exact hP _ _ he
  | ret => exact hP _ _ he
  | pan v => exact hP _ _ he

theorem EW.weak {c : Code} {s : St} (hle : St.le s st) (h : EW (Fe := Fe) P c s Φ) : EW (Fe := Fe) P c st Φ := by
  intro w0 w l a df Q hg hdf hP
  obtain ⟨l', h1, h2, h3⟩ := hg.le hle
  exact h w0 w l' a df Q h1 (by rw [h2]; exact hdf) (by rw [h2, h3]; exact hP)

/-- The states behind x are all like one of S a. -/
theorem EW.seqJ {α : Type} {x y : Code} (S : α → St) (I : α → Prop) (hy : ∀ a, I a → EW (Fe := Fe) P y (S a) Φ)
    (hx : EW (Fe := Fe) P x st (fun e s => match e with | .normal => ∃ a, I a ∧ St.le (S a) s | e => Φ e s)) : EW (Fe := Fe) P (.seq x y) st Φ := by
  intro w0 w l a df Q hg hdf hP
  refine wpIn_seq (hx w0 w l a df _ hg hdf ?_)
  intro e s he
  cases e with
  | normal =>
    obtain ⟨b, hb, hle⟩ := he
    intro a' w' l' d g1 g2 g3 g4
    exact EW.weak hle (hy b hb) w0 w' l' a' df Q g1 (by rw [g2]; exact g4) (fun x s hx => (hP x s hx).same ⟨d, g2⟩ g3)
  | exit id => exact hP _ _ he
  | ret => exact hP _ _ he
  | pan v => exact hP _ _ he

theorem EW.cond {c : Operand} {x y : Code} {t : Bool} (hc : st.opd c = some (.s (.bool t))) (ht : t = true → EW (Fe := Fe) P x st Φ) (hf : t = false → EW (Fe := Fe) P y st Φ) : EW (Fe := Fe) P (.cond c x y) st Φ := by
  intro w0 w l a df Q hg hdf hP
  have hv := opd_sound hg.2 hc
  refine wpIn_cond (t := t) (by simpa [RV] using hv) ?_
  cases t with
  | true => exact ht rfl w0 w l a df Q hg hdf hP
  | false => exact hf rfl w0 w l a df Q hg hdf hP

def leaveE (id : Nat) : Ex → Ex
  | .exit i => if i = id then .normal else .exit i
  | x => x
theorem EW.block {id : Nat} {c : Code} (h : EW (Fe := Fe) P c st (fun x s => Φ (leaveE id x) s)) : EW (Fe := Fe) P (.block id c) st Φ := by
  intro w0 w l a df Q hg hdf hP
  refine wpIn_block (h w0 w l a df _ hg hdf fun x s hx => ?_)
  have := hP _ _ hx
  cases x with
  | normal => exact this
  | exit i =>
    simp only [leaveE] at this
    by_cases hi : i = id
    · subst hi
      simp only [if_true] at this
      intro a' w' l' d g1 g2 g3 g4
      simp only [Exit.inBlock, if_true]
      exact this a' w' l' d g1 g2 g3 g4
    · simp only [if_neg hi] at this
      intro a' w' l' d g1 g2 g3 g4
      simp only [Exit.inBlock, if_neg hi]
      exact this a' w' l' d g1 g2 g3 g4
  | ret => exact this
  | pan v => exact this

theorem EW.region [FW Fe] {Γ : Gam} {id : Nat} {ops : List Oper} (hS : Sound P Γ) (h : OptPost (runOps P Γ ops ops st) Φ) : EW (Fe := Fe) P (.region id ops.toArray false) st Φ := by
  intro w0 w l a df Q hg hdf hP
  obtain ⟨⟨x, s⟩, h1, h2⟩ := h
  exact region_wp hS hg hdf (by simpa using h1) (hP _ _ h2)

theorem EW.drawn [FW Fe] {Γ : Gam} {id : Nat} {ops : List Oper} (pairs : List (Nat × Nat)) (hm : P.follows .mixedOrders = true) (hS : Sound P Γ) (hs : floatOk ops (mkTb ops) pairs = true) (h : DrawPost pairs (runR P Γ ops ops st) Φ) : EW (Fe := Fe) P (.region id ops.toArray true) st Φ := by
  intro w0 w l a df Q hg hdf hP
  obtain ⟨⟨x, s⟩, h1, h2, h3⟩ := h
  exact drawn_wp hm hS (by simpa using hs) h2 hdf (by simpa using h1) hg (hP _ _ h3)

/-- Rounds of a loop, counted. -/
theorem wpIn_loop_rounds {c : Code} {n : Nat} {Q : Exit → Act → World → Prop} {a : Act} {w : World} (μ : Act → World → Nat → Prop) (h0 : μ a w n)
    (hr : ∀ n a w, μ a w n → c.wpIn Fe 0 P (Exit.then (fun a' w' => ∃ m, m < n ∧ μ a' w' m) Q) a w) : (Code.loop c).wpIn Fe 0 P Q a w := by
  classical
  have key : ∀ a w, (∃ n, μ a w n) → ∃ n, μ a w n ∧ ∀ m, m < n → ¬ μ a w m := by
    intro a w ⟨n, hn⟩
    induction n using Nat.strongRecOn with
    | _ n ih =>
      by_cases h : ∃ m, m < n ∧ μ a w m
      · obtain ⟨m, h1, h2⟩ := h; exact ih m h1 h2
      · exact ⟨n, hn, fun m hm hμ => h ⟨m, hm, hμ⟩⟩
  refine wpIn_loop (fun a w => ∃ n, μ a w n) (fun a w => if h : ∃ n, μ a w n then (key a w h).choose else 0) ⟨n, h0⟩ fun a w hI => ?_
  obtain ⟨h1, h2⟩ := (key a w hI).choose_spec
  refine wpIn_mono (hr _ a w h1) fun e a' w' he => ?_
  cases e with
  | normal =>
    obtain ⟨m, hm, hμ⟩ := he
    have hI' : ∃ n, μ a' w' n := ⟨m, hμ⟩
    refine ⟨hI', ?_⟩
    rw [dif_pos hI', dif_pos hI]
    refine Nat.lt_of_le_of_lt ?_ hm
    apply Classical.byContradiction
    intro hc
    exact (key a' w' hI').choose_spec.2 m (by omega) hμ
  | _ => exact he

/-- A loop whose states are counted by something. -/
theorem EW.loopA {α : Type} {c : Code} (S : α → St) (I : α → Prop) (μ : α → Nat) (a0 : α) (hle : St.le (S a0) st) (h0 : I a0)
    (hr : ∀ a, I a → EW (Fe := Fe) P c (S a) (fun x s' => match x with | .normal => ∃ a', St.le (S a') s' ∧ I a' ∧ μ a' < μ a | x => Φ x s')) : EW (Fe := Fe) P (.loop c) st Φ := by
  refine EW.weak hle ?_
  intro w0 w l a df Q hg hdf hP
  refine wpIn_loop_rounds (n := μ a0) (fun a' w' n => ∃ (s : α) (l' : Lay) (d : List Nat), μ s = n ∧ I s ∧ Good w0 w' l' (S s) a' ∧ l'.rd = { l.rd with d := d } ∧ l'.be = l.be ∧ a'.defers = mks d ++ df) ⟨a0, l, _, rfl, h0, hg, rfl, rfl, hdf⟩ ?_
  rintro n a' w' ⟨s, l', d, hn, hI, hg', h1, h2, h3⟩
  refine hr s hI w0 w' l' a' df _ hg' (by rw [h1]; exact h3) fun x s' hx => ?_
  cases x with
  | normal =>
    obtain ⟨s1, k1, k2, k3⟩ := hx
    intro a2 w2 l2 d2 g1 g2 g3 g4
    obtain ⟨l3, q1, q2, q3⟩ := g1.le k1
    exact ⟨μ s1, by omega, s1, l3, d2, rfl, k2, q1, q2.trans (g2.trans (by rw [h1])), q3.trans (g3.trans h2), g4⟩
  | exit id => exact PostE.same ⟨d, h1⟩ h2 (hP _ _ hx)
  | ret => exact PostE.same ⟨d, h1⟩ h2 (hP _ _ hx)
  | pan v => exact PostE.same ⟨d, h1⟩ h2 (hP _ _ hx)

/-- A loop with an invariant. -/
theorem EW.loop {c : Code} (I : St → Prop) (μ : St → Nat) (s0 : St) (hle : St.le s0 st) (h0 : I s0)
    (hr : ∀ s, I s → EW (Fe := Fe) P c s (fun x s' => match x with | .normal => ∃ s1, St.le s1 s' ∧ I s1 ∧ μ s1 < μ s | x => Φ x s')) : EW (Fe := Fe) P (.loop c) st Φ :=
  EW.loopA (fun s => s) I μ s0 hle h0 hr

/-! ### A state written out -/
def leE (V : Nat → Option Nat) : List (Nat × AV) → Env → Prop
  | [], _ => True
  | (d, x) :: r, e => (∃ y, e d = some y ∧ AVle V x y) ∧ leE V r e
def leO (V : Nat → Option Nat) : List (Nat × List AV) → (Nat → Option (List AV)) → Prop
  | [], _ => True
  | (d, x) :: r, e => (∃ y, e d = some y ∧ AVles V x y) ∧ leO V r e
def leX (V : Nat → Option Nat) : List (List AV) → List (List AV) → Prop
  | [], [] => True
  | x :: r, y :: s => AVles V x y ∧ leX V r s
  | _, _ => False
def leT : List (Nat × (Nat × Nat)) → (Nat → Option (Nat × Nat)) → Prop
  | [], _ => True
  | (d, x) :: r, e => (e d = some x ∨ e d = none) ∧ leT r e
def hasO (O : List (Nat × List AV)) (n : Nat) : Ref → Bool
  | .own k => O.any fun p => p.1 == k
  | .ext i => decide (i < n)
def hasT (T : List (Nat × (Nat × Nat))) (k : Nat) : Bool := T.any fun p => p.1 == k
def St.lit (nt : Nat) (E : List (Nat × AV)) (O : List (Nat × List AV)) (X : List (List AV)) (T : List (Nat × (Nat × Nat))) : St := ⟨nt, ofL E, ofL O, X, ofL T⟩
def okLit (E : List (Nat × AV)) (O : List (Nat × List AV)) (X : List (List AV)) (T : List (Nat × (Nat × Nat))) : Bool :=
  okInL (hasO O X.length) (hasT T) (E.map (·.2)) && O.all (fun p => okInL (hasO O X.length) (hasT T) p.2) && X.all (fun p => okInL (hasO O X.length) (hasT T) p)

theorem ofL_mem {α : Type} : ∀ {L : List (Nat × α)} {d : Nat} {x : α}, ofL L d = some x → (d, x) ∈ L
  | [], d, x, h => by cases h
  | (e, y) :: L, d, x, h => by
    simp only [ofL] at h
    split at h
    · rename_i hd; cases h; simp [hd]
    · exact List.mem_cons_of_mem _ (ofL_mem h)
theorem ofL_isSome {α : Type} : ∀ {L : List (Nat × α)} {d : Nat}, (ofL L d).isSome = L.any fun p => p.1 == d
  | [], d => rfl
  | (e, y) :: L, d => by
    simp only [ofL, List.any_cons]
    split
    · rename_i hd; simp [hd]
    · rename_i hd
      have : (e == d) = false := by simpa using fun h => hd h.symm
      rw [ofL_isSome, this]; rfl
theorem leE_mem {V : Nat → Option Nat} : ∀ {E : List (Nat × AV)} {e : Env}, leE V E e → ∀ p ∈ E, ∃ y, e p.1 = some y ∧ AVle V p.2 y
  | [], _, _, p, hp => by cases hp
  | q :: E, e, h, p, hp => by
    rcases List.mem_cons.1 hp with rfl | hp
    · exact h.1
    · exact leE_mem h.2 p hp
theorem leO_mem {V : Nat → Option Nat} : ∀ {E : List (Nat × List AV)} {e : Nat → Option (List AV)}, leO V E e → ∀ p ∈ E, ∃ y, e p.1 = some y ∧ AVles V p.2 y
  | [], _, _, p, hp => by cases hp
  | q :: E, e, h, p, hp => by
    rcases List.mem_cons.1 hp with rfl | hp
    · exact h.1
    · exact leO_mem h.2 p hp
theorem leT_mem : ∀ {E : List (Nat × (Nat × Nat))} {e : Nat → Option (Nat × Nat)}, leT E e → ∀ p ∈ E, e p.1 = some p.2 ∨ e p.1 = none
  | [], _, _, p, hp => by cases hp
  | q :: E, e, h, p, hp => by
    rcases List.mem_cons.1 hp with rfl | hp
    · exact h.1
    · exact leT_mem h.2 p hp
theorem leX_get {V : Nat → Option Nat} : ∀ {X Y : List (List AV)}, leX V X Y → X.length = Y.length ∧ ∀ (i : Nat) (cs : List AV), X[i]? = some cs → ∃ cs', Y[i]? = some cs' ∧ AVles V cs cs'
  | [], [], _ => by simp
  | [], _ :: _, h => h.elim
  | _ :: _, [], h => h.elim
  | x :: X, y :: Y, h => by
    obtain ⟨h1, h2⟩ := leX_get h.2
    refine ⟨by simp [h1], fun i cs hi => ?_⟩
    cases i with
    | zero => simp at hi; subst hi; exact ⟨y, by simp, h.1⟩
    | succ i => simpa using h2 i cs (by simpa using hi)

theorem okInL_of {R R' : Ref → Bool} {T T' : Nat → Bool} (hR : ∀ r, R r = R' r) (hT : ∀ k, T k = T' k) (xs : List AV) : okInL R T xs = okInL R' T' xs := by
  rw [show R = R' from funext hR, show T = T' from funext hT]
theorem okInL_mem {R : Ref → Bool} {T : Nat → Bool} : ∀ {E : List (Nat × AV)}, okInL R T (E.map (·.2)) = true → ∀ p ∈ E, p.2.okIn R T = true :=
  fun h p hp => okInL_get h p.2 (List.mem_map.2 ⟨p, hp, rfl⟩)

theorem St.le_lit {nt : Nat} {E : List (Nat × AV)} {O : List (Nat × List AV)} {X : List (List AV)} {T : List (Nat × (Nat × Nat))} {s : St} (hn : nt = s.nt) (hE : leE (vt (ofL T) s.tok) E s.env) (hO : leO (vt (ofL T) s.tok) O s.own) (hX : leX (vt (ofL T) s.tok) X s.ext) (hT : leT T s.tok)
    (hok : okLit E O X T = true) : St.le (St.lit nt E O X T) s := by
  simp only [okLit, Bool.and_eq_true, List.all_eq_true] at hok
  obtain ⟨⟨o1, o2⟩, o3⟩ := hok
  have hR : ∀ r, ((St.lit nt E O X T).mem r).isSome = hasO O X.length r := fun r => by
    cases r with
    | own k => exact ofL_isSome
    | ext i =>
      simp only [St.mem, St.lit, hasO]
      by_cases hi : i < X.length
      · simp [hi]
      · simp [hi]
  have hT' : ∀ k, ((St.lit nt E O X T).tok k).isSome = hasT T k := fun k => ofL_isSome
  refine ⟨hn, fun d x hd => leE_mem hE _ (ofL_mem hd), fun k cs hk => leO_mem hO _ (ofL_mem hk), leX_get hX, fun k p hk => leT_mem hT _ (ofL_mem hk), fun d x hd => ?_, fun k cs hk => ?_, fun cs hcs => ?_⟩
  · rw [show (fun r => ((St.lit nt E O X T).mem r).isSome) = hasO O X.length from funext hR, show (fun k => ((St.lit nt E O X T).tok k).isSome) = hasT T from funext hT']
    exact okInL_mem o1 _ (ofL_mem hd)
  · rw [okInL_of hR hT']
    exact o2 _ (ofL_mem hk)
  · rw [okInL_of hR hT']
    exact o3 _ hcs
end Go.Ev
end
