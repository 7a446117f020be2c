/- Lemmas for the claims of this seat: an evaluator over abstract values, its soundness, and the contracts of the functions of melt that it walks; no premise beyond what each theorem states. -/
import Derived.RecoverIn
import Derived.ProofKit
import Derived.SizedLaws
import Derived.Handed
import Derived.LaidLaws
import Derived.LaidHandle
import Derived.LaidMore
import Derived.Test.YtdcelpomnboeoaaGreatDoorGAF

section
set_option linter.all false
set_option linter.unusedVariables false
set_option linter.unusedSimpArgs false
namespace Go.Ev
variable {w0 w : World} {l : Lay} {P : Program} {Γ : Gam}

/-! ### A region whose order is drawn, in which the operation p panics -/
def runRP.next (rc : Rec) (K : St → Option (List Rec × Option Value)) : Res → Option (List Rec × Option Value)
  | .go st => bnd (K st) fun x => some (rc :: x.1, x.2)
  | .pan _ => none
theorem runRP.next_go (rc : Rec) (K : St → Option (List Rec × Option Value)) (st : St) : runRP.next rc K (.go st) = bnd (K st) fun x => some (rc :: x.1, x.2) := Eq.trans rfl rfl
def runRP.stop (rc : Rec) (st : St) (K : St → Option (List Rec × Option Value)) : Res → Option (List Rec × Option Value)
  | .pan v => bnd (K st) fun x => some (rc :: x.1, some v)
  | .go _ => none
theorem runRP.stop_pan (rc : Rec) (st : St) (K : St → Option (List Rec × Option Value)) (v : Value) : runRP.stop rc st K (.pan v) = bnd (K st) fun x => some (rc :: x.1, some v) := Eq.trans rfl rfl
/-- In the text's order; what depends on p is left out. -/
def runRP (P : Program) (Γ : Gam) (ops : List Oper) (p : Nat) (tb : List (List Nat)) : List Oper → Nat → St → Option (List Rec × Option Value)
  | [], _, st => some ([], none)
  | o :: r, k, st =>
    if k = p then bnd (recOp P Γ ops st o) fun x => runRP.stop x.1 st (runRP P Γ ops p tb r (k + 1)) x.2
    else if (tb.getD k []).contains p then bnd (runRP P Γ ops p tb r (k + 1) st) fun x => some (Rec.nil :: x.1, x.2)
    else bnd (recOp P Γ ops st o) fun x => runRP.next x.1 (runRP P Γ ops p tb r (k + 1)) x.2

open Classical in
noncomputable def fP (P : Program) (Γ : Gam) (ops : List Oper) (p : Nat) (tb : List (List Nat)) (F0 : List Ref) (v : Value) (i : Nat) (s : St) : Option Res :=
  if i = p then (if ∃ o rc, ops[i]? = some o ∧ recOp P Γ ops s o = some (rc, .pan v) ∧ rc.F = F0 then some (.go s) else none)
  else if (tb.getD i []).contains p then some (.go s) else fOf P Γ ops i s

/-- A panic depends on what the operation looks at alone. -/
theorem recRun_pan {ops : List Oper} {st : St} {o : Oper} {rc : Rec} {v : Value} (h : recRun P Γ st o = some (rc, .pan v)) : ∀ t, Same t st → Agree t st (fun x => rdOf ops o rc x ∨ wrOf o rc x) → recRun P Γ t o = some (rc, .pan v) := by
  intro t ht hag
  unfold recRun at h
  obtain ⟨xs, h1, h⟩ := bnd_eq h
  obtain ⟨os, h2, h⟩ := bnd_eq h
  split at h
  · cases h
  rename_i hh
  have hh' : hinted Γ o.dst o.op = false := by simpa using hh
  split at h
  · rename_i hq
    obtain ⟨x, h3, h⟩ := bnd_eq h
    cases h
  · rename_i hq
    obtain ⟨x, h30, h5⟩ := bnd_eq h
    obtain ⟨h3, hG⟩ := noGrow_some h30
    simp only [Option.some.injEq, Prod.mk.injEq] at h5
    obtain ⟨rfl, h6⟩ := h5
    have hx : x = .pan v := by cases x <;> first | (cases h6; rfl) | cases h6
    have hq' : quiet o.op = false := by simpa using hq
    have k1 : t.opds o.op.operands.toList = some xs := by rw [← h1]; exact opds_agree fun d hd => get_e (hag (.e d) (.inl (looks_op hd)))
    have kf : foot t o.op xs = foot st o.op xs := foot_agree fun r hr => get_m (hag (.m r) (.inl hr))
    have k2 : t.mems (foot st o.op xs) = some os := by rw [← h2]; exact mems_agree fun r hr => get_m (hag (.m r) (.inl hr))
    have hx2 : execF P Γ o.op o.dst xs (foot st o.op xs) os t.own t.tok = some x := execF_agree h3 (fun k hk => get_m (s := t) (s' := st) (r := .own k) (hag (.m (.own k)) (.inr (.inr ⟨k, hk, rfl⟩)))) (fun k hk => get_t (hag (.t k) (.inr hk))) (fun j hj => get_t (hag (.t (XK j)) (.inl ⟨j, hj, rfl⟩))) hG
    simp only [recRun, k1, kf, k2, bnd_some, hh', hq', Bool.false_eq_true, if_false, hx2]
    rw [hx]; rfl
theorem recOp_pan {ops : List Oper} {st : St} {o : Oper} {rc : Rec} {v : Value} (h : recOp P Γ ops st o = some (rc, .pan v)) : ∀ t, Same t st → Agree t st (fun x => rdOf ops o rc x ∨ wrOf o rc x) → recOp P Γ ops t o = some (rc, .pan v) := by
  intro t ht hag
  unfold recOp at h
  split at h
  case isFalse => cases h
  rename_i hd
  unfold recOp
  rw [if_pos (by rw [ht.1]; exact hd)]
  split at h
  · rename_i hg
    try simp only [hg]
    exact recRun_pan h t ht hag
  · rename_i j w hg
    obtain ⟨x, h1, h⟩ := bnd_eq h
    obtain ⟨b, h2, h⟩ := bnd_eq h
    have hgt : guardOf t ops j = some x := by
      rw [← h1]
      exact guardOf_agree hg fun d hd' => get_e (hag (.e d) (.inl hd'))
    unfold guardedR at h
    split at h
    · rename_i hb
      simp only [hg, hgt, bnd_some, h2, guardedR, if_pos hb]
      exact recRun_pan h t ht hag
    · cases h

theorem recOp_foot {ops : List Oper} {st : St} {o : Oper} {rc : Rec} {v : Value} (h : recOp P Γ ops st o = some (rc, .pan v)) {xs : List AV} (hx : st.opds o.op.operands.toList = some xs) : rc.F = foot st o.op xs := by
  have key : ∀ {rc : Rec} {r : Res}, recRun P Γ st o = some (rc, r) → rc.F = foot st o.op xs := by
    intro rc r h
    unfold recRun at h
    rw [hx, bnd_some] at h
    obtain ⟨os, h2, h⟩ := bnd_eq h
    split at h
    · cases h
    split at h
    · obtain ⟨x, h3, h⟩ := bnd_eq h; cases h; rfl
    · obtain ⟨x, h3, h⟩ := bnd_eq h; cases h; rfl
  unfold recOp at h
  split at h
  case isFalse => cases h
  split at h
  · exact key h
  · obtain ⟨x, h1, h⟩ := bnd_eq h
    obtain ⟨b, h2, h⟩ := bnd_eq h
    unfold guardedR at h
    split at h
    · exact key h
    · cases h

theorem Frm.idle {s : St} {R W : Loc → Prop} {f : St → Option Res} (h : ∀ t, Same t s → Agree t s (fun x => R x ∨ W x) → f t = some (.go t)) : Frm f s s R W :=
  ⟨h s ⟨rfl, rfl⟩ (fun _ _ => rfl), ⟨rfl, rfl⟩, fun _ _ => rfl, fun t ht hag => ⟨t, h t ht hag, ⟨rfl, rfl⟩, fun x hx => hag x (.inr hx), fun _ _ => rfl⟩⟩

theorem chain_of_runP {ops : List Oper} {recs : List Rec} {p : Nat} {tb : List (List Nat)} {v : Value} : ∀ (rest : List Oper) (k : Nat) (rs : List Rec) (st : St) (ov : Option Value), (∀ j, rest[j]? = ops[k + j]?) → (∀ j, rs[j]? = recs[k + j]?) → runRP P Γ ops p tb rest k st = some (rs, ov) → (k ≤ p → ov = some v) →
    (∃ st', Chain (fP P Γ ops p tb (recs.getD p Rec.nil).F v) (rOf ops recs) (wOf ops recs) (List.range' k rest.length) st st') ∧ (∀ j o, rest[j]? = some o → (quiet o.op = true → (rs.getD j Rec.nil).N = [] ∧ (rs.getD j Rec.nil).T = []) ∧ (touches o = false → rs.getD j Rec.nil = Rec.nil)) ∧ (ov.isSome = true → k ≤ p ∧ p < k + rest.length)
  | [], k, rs, st, ov, _, _, h, _ => by
    simp [runRP] at h
    obtain ⟨_, rfl⟩ := h
    exact ⟨⟨st, rfl⟩, fun j o hj => by simp at hj, fun h => by cases h⟩
  | o :: rest, k, rs, st, ov, h1, h2, h, hv => by
    have ho : ops[k]? = some o := by have := h1 0; simp at this; exact this.symm
    have h1' : ∀ j, rest[j]? = ops[k + 1 + j]? := fun j => by have := h1 (j + 1); simp at this; rw [this]; congr 1; omega
    have tail : ∀ {rc : Rec} {a : List Rec}, rs = rc :: a → (∀ j, a[j]? = recs[k + 1 + j]?) ∧ recs.getD k Rec.nil = rc := fun e => by
      subst e
      refine ⟨fun j => by have := h2 (j + 1); simp at this; rw [this]; congr 1; omega, ?_⟩
      have hr := h2 0
      simp at hr
      simp [List.getD_eq_getElem?_getD, ← hr]
    have cons : ∀ {rc : Rec} {st1 : St} {a : List Rec}, rs = rc :: a → Frm (fP P Γ ops p tb (recs.getD p Rec.nil).F v k) st st1 (rOf ops recs k) (wOf ops recs k) → ((quiet o.op = true → rc.N = [] ∧ rc.T = []) ∧ (touches o = false → rc = Rec.nil)) →
        (∃ st', Chain (fP P Γ ops p tb (recs.getD p Rec.nil).F v) (rOf ops recs) (wOf ops recs) (List.range' (k + 1) rest.length) st1 st') → (∀ j o, rest[j]? = some o → (quiet o.op = true → (a.getD j Rec.nil).N = [] ∧ (a.getD j Rec.nil).T = []) ∧ (touches o = false → a.getD j Rec.nil = Rec.nil)) →
        (∃ st', Chain (fP P Γ ops p tb (recs.getD p Rec.nil).F v) (rOf ops recs) (wOf ops recs) (List.range' k (o :: rest).length) st st') ∧ (∀ j o', (o :: rest)[j]? = some o' → (quiet o'.op = true → (rs.getD j Rec.nil).N = [] ∧ (rs.getD j Rec.nil).T = []) ∧ (touches o' = false → rs.getD j Rec.nil = Rec.nil)) := by
      intro rc st1 a e hf hq hch hq2
      subst e
      obtain ⟨st', hch⟩ := hch
      refine ⟨⟨st', ?_⟩, fun j o' hj => ?_⟩
      · simp only [List.length_cons, List.range'_succ]
        exact ⟨st1, hf, hch⟩
      · cases j with
        | zero => simp at hj; subst hj; simpa using hq
        | succ j => simpa using hq2 j o' (by simpa using hj)
    simp only [runRP] at h
    split at h
    · rename_i hk
      subst hk
      obtain ⟨⟨rc, x⟩, h3, h4⟩ := bnd_eq h
      cases x with
      | go st1 => cases h4
      | pan v' =>
        rw [runRP.stop_pan] at h4
        obtain ⟨⟨a, b⟩, h5, h6⟩ := bnd_eq h4
        cases h6
        have hvv := hv (Nat.le_refl _)
        cases hvv
        obtain ⟨t1, t2⟩ := tail rfl
        obtain ⟨i1, i2, i3⟩ := chain_of_runP rest (k + 1) a st b h1' t1 h5 (fun h => by omega)
        obtain ⟨c1, c2⟩ := cons rfl (Frm.idle fun t ht hag => by
          have hfo : ∃ o rc, ops[k]? = some o ∧ recOp P Γ ops t o = some (rc, .pan v) ∧ rc.F = (recs.getD k Rec.nil).F :=
            ⟨o, rc, ho, recOp_pan h3 t ht (fun x hx => hag x (hx.imp (fun h => ⟨o, ho, by rw [t2]; exact h⟩) (fun h => ⟨o, ho, by rw [t2]; exact h⟩))), by rw [t2]⟩
          simp only [fP, if_true]
          exact if_pos hfo) (quiet_touch' h3) i1 i2
        exact ⟨c1, c2, fun _ => ⟨Nat.le_refl _, by simp⟩⟩
    · rename_i hk
      split at h
      · rename_i hc
        obtain ⟨⟨a, b⟩, h5, h6⟩ := bnd_eq h
        cases h6
        obtain ⟨t1, t2⟩ := tail rfl
        obtain ⟨i1, i2, i3⟩ := chain_of_runP rest (k + 1) a st b h1' t1 h5 (fun h => hv (by omega))
        obtain ⟨c1, c2⟩ := cons rfl (Frm.idle fun t ht hag => by simp only [fP, if_neg hk, hc, if_true]) ⟨fun _ => ⟨rfl, rfl⟩, fun _ => rfl⟩ i1 i2
        exact ⟨c1, c2, fun h => by have := i3 h; simp only [List.length_cons]; omega⟩
      · rename_i hc
        obtain ⟨⟨rc, x⟩, h3, h4⟩ := bnd_eq h
        cases x with
        | pan v' => cases h4
        | go st1 =>
          rw [runRP.next_go] at h4
          obtain ⟨⟨a, b⟩, h5, h6⟩ := bnd_eq h4
          cases h6
          obtain ⟨t1, t2⟩ := tail rfl
          obtain ⟨i1, i2, i3⟩ := chain_of_runP rest (k + 1) a st1 b h1' t1 h5 (fun h => hv (by omega))
          have f := recOp_frm h3
          have hc' : (tb.getD k []).contains p = false := by simpa using hc
          have hfe : ∀ t, fP P Γ ops p tb (recs.getD p Rec.nil).F v k t = stepOp P Γ ops t o := fun t => by simp only [fP, if_neg hk, hc', Bool.false_eq_true, if_false, fOf, ho]
          obtain ⟨c1, c2⟩ := cons rfl (show Frm (fP P Γ ops p tb (recs.getD p Rec.nil).F v k) st st1 (rOf ops recs k) (wOf ops recs k) from by
            refine ⟨by rw [hfe]; exact f.run, f.same, fun x hx => f.off x (fun hw => hx ⟨o, ho, by rw [t2]; exact hw⟩), fun t ht hag => ?_⟩
            obtain ⟨t1', b1, b2, b3, b4⟩ := f.mv t ht (fun x hx => hag x (hx.imp (fun h => ⟨o, ho, by rw [t2]; exact h⟩) (fun h => ⟨o, ho, by rw [t2]; exact h⟩)))
            refine ⟨t1', by rw [hfe]; exact b1, b2, fun x hx => b3 x ?_, fun x hx => b4 x (fun hw => hx ⟨o, ho, by rw [t2]; exact hw⟩)⟩
            obtain ⟨o', ho', hw⟩ := hx
            rw [ho] at ho'
            cases ho'
            rwa [t2] at hw) (quiet_touch' h3) i1 i2
          exact ⟨c1, c2, fun h => by have := i3 h; simp only [List.length_cons]; omega⟩

theorem anyOps_pan {Fe : Fence} [FW Fe] {ops : Array Oper} {tb : List (List Nat)} {pairs : List (Nat × Nat)} {recs : List Rec} {p : Nat} {v : Value} (hS : Sound P Γ) (hs : Static ops.toList tb pairs) (hok : RecOk ops.toList recs) (hp : pairsOk recs pairs = true)
    {Q : Exit → Act → World → Prop} {rd : Rd} {be : List Nat} {df : List Deferred} {dl : List Nat} {st0 : St} (hP : ∀ (st : St) (l : Lay) (w : World) (a : Act) (w' : World) (a' : Act), Same st st0 → Agree st st0 (fun x => ∀ i, ¬ wOf ops.toList recs i x) → Good w0 w l st a → l.rd = { rd with d := dl } → l.be = be → Framed w0 w' be → (∀ D, D ∈ dl → w0.heap.size ≤ D ∧ w'.heap[D]? = some (.deferred (some []))) → dl.Nodup → a'.defers = mks dl ++ df → ((recs.getD p Rec.nil).F = [] → Good w0 w' l st a') → Q (.panic (pchain v)) a' w') {st' : St} :
    ∀ (n : Nat) (L : List Nat) (listed : Array Bool) (st : St) (w : World) (l : Lay) (a : Act), L.length = n → p ∈ L → listed.size = ops.size → L.Pairwise (· < ·) → (∀ i, i ∈ L ↔ i < ops.size ∧ listed.getD i true = false) →
    (∀ i o, ops.toList[i]? = some o → listed.getD i true = true → ∀ j ∈ direct o, listed.getD j true = true) →
    Same st st0 → Agree st st0 (fun x => ∀ i, ¬ wOf ops.toList recs i x) → Chain (fP P Γ ops.toList p tb (recs.getD p Rec.nil).F v) (rOf ops.toList recs) (wOf ops.toList recs) L st st' → Good w0 w l st a → l.rd = { rd with d := dl } → l.be = be → a.defers = mks dl ++ df →
    wpAnyIn Fe 0 P .any ops Q n listed a w := by
  have hlt : ∀ i o, ops.toList[i]? = some o → ∀ j ∈ direct o, j < ops.size := fun i o ho j hj => by
    have h1 := hs.back i o ho j hj
    have h2 : i < ops.toList.length := (List.getElem?_eq_some_iff.1 ho).1
    simp at h2
    omega
  intro n
  induction n with
  | zero =>
    intro L listed st w l a hL hpL
    have hL' : L = [] := List.length_eq_zero_iff.1 hL
    subst hL'
    cases hpL
  | succ n ih =>
    intro L listed st w l a hL hpL hsz hpw hmem hcl hsm hag hch hg h1 h2 h3
    constructor
    · intro hr
      exfalso
      cases L with
      | nil => cases hL
      | cons h L' =>
        have hh := (hmem h).1 (by simp)
        have ho : ops[h]? = some ops[h] := Array.getElem?_eq_getElem hh.1
        have : h ∈ Region.ready .any ops listed := mem_ready.2 ⟨hh.2, _, ho, fun e he hb => by
          have hd : e.on ∈ direct ops[h] := direct_mem.2 ⟨e, he, hb, rfl⟩
          have hlt' := hs.back h _ (by simpa using ho) _ hd
          have hsz' : e.on < ops.size := by omega
          rw [← getD_tf (by omega)]
          cases hx : listed.getD e.on true with
          | true => rfl
          | false =>
            have hm := (hmem e.on).2 ⟨hsz', hx⟩
            rcases List.mem_cons.1 hm with hm | hm
            · omega
            · have := List.rel_of_pairwise_cons hpw hm; omega⟩
        rw [hr] at this
        cases this
    · intro i hi
      obtain ⟨k1, o, k2, k3⟩ := mem_ready.1 hi
      have hisz : i < ops.size := (Array.getElem?_eq_some_iff.1 k2).1
      have ho : ops.toList[i]? = some o := by simpa using k2
      have hdl : ∀ j ∈ direct o, listed.getD j true = true := fun j hj => by
        obtain ⟨e, he, hb, rfl⟩ := direct_mem.1 hj
        rw [getD_tf (by have := hlt i o ho e.on hj; omega)]
        exact k3 e he hb
      have hiL : i ∈ L := (hmem i).2 ⟨hisz, k1⟩
      have hpl := (hmem p).1 hpL
      obtain ⟨L1, L2, rfl⟩ := List.append_of_mem hiL
      have hind : ∀ j ∈ L1, Indep (rOf ops.toList recs) (wOf ops.toList recs) j i := fun j hj => by
        have hji : j < i := (List.pairwise_append.1 hpw).2.2 j hj i (by simp)
        have hj' := (hmem j).1 (by simp [hj])
        have hoj : ops.toList[j]? = some ops[j] := by simp [hj'.1]
        rcases hs.pair i o ho j _ hji hoj with h | h
        · have := anc_listed hs hcl (fun i o ho j hj => by simpa using hlt i o ho j hj) i o ho hdl j h
          rw [hj'.2] at this
          cases this
        · exact indep_of hok hp hoj ho h
      obtain ⟨st1, hf, hch'⟩ := Chain.bubble L1 st hind hch
      have hrun := hf.run
      by_cases hip : i = p
      · subst hip
        simp only [fP, if_true] at hrun
        split at hrun
        · rename_i hpan
          obtain ⟨o', rc, ho', hrc, hF0⟩ := hpan
          rw [ho] at ho'
          cases ho'
          refine stepOp_wp hS hg k2 (recOp_step hrc) _ Q ?_
          intro a' w' hF hD hdf hG
          have e : l.rd.d = dl := by rw [h1]
          refine hP st l w a w' a' hsm hag hg h1 h2 (h2 ▸ hF) (fun D hd => ⟨(hg.1.fzs.d D (by rw [e]; exact hd)).1, hD D (by rw [e]; exact hd)⟩) (by rw [← e]; exact hg.1.fzs.nd) (hdf.trans h3) (fun hF00 => hG (fun xs hxs => ?_))
          rw [← recOp_foot hrc hxs, hF0, hF00]
        · cases hrun
      · have hnd : (tb.getD i []).contains p = false := by
          cases hx : (tb.getD i []).contains p with
          | false => rfl
          | true =>
            have := anc_listed hs hcl (fun i o ho j hj => by simpa using hlt i o ho j hj) i o ho hdl p (by simpa using hx)
            rw [hpl.2] at this
            cases this
        simp only [fP, if_neg hip, hnd, Bool.false_eq_true, if_false, fOf, ho] at hrun
        refine stepOp_wp hS hg k2 hrun _ Q ?_
        intro a' w' l' g1 g2 g3 g4
        refine ih (L1 ++ L2) _ st1 w' l' a' (by simp at hL ⊢; omega) ?_ (by simpa using hsz) ?_ ?_ ?_ (hf.same.trans hsm) (fun x hx => (hf.off x (hx i)).trans (hag x hx)) hch' g1 (g2.trans h1) (g3.trans h2) (g4.trans h3)
        · rcases List.mem_append.1 hpL with h | h
          · exact List.mem_append_left _ h
          · rcases List.mem_cons.1 h with h | h
            · exact absurd h.symm hip
            · exact List.mem_append_right _ h
        · have hp2 := List.pairwise_append.1 hpw
          exact List.pairwise_append.2 ⟨hp2.1, (List.pairwise_cons.1 hp2.2.1).2, fun a ha b hb => hp2.2.2 a ha b (by simp [hb])⟩
        · intro j
          have hp2 := List.pairwise_append.1 hpw
          by_cases hji : j = i
          · subst hji
            constructor
            · intro hj
              exfalso
              rcases List.mem_append.1 hj with hj | hj
              · have := hp2.2.2 j hj j (by simp); omega
              · have := List.rel_of_pairwise_cons hp2.2.1 hj; omega
            · rintro ⟨_, hj⟩
              exfalso
              simp [hsz, hisz] at hj
          · rw [getD_set_ne true (fun e => hji e.symm), ← hmem j]
            simp [hji]
        · intro k ok hk hl j hj
          by_cases hki : k = i
          · subst hki
            rw [ho] at hk
            cases hk
            have := hdl j hj
            by_cases hji : j = k
            · subst hji; simp [hsz, hisz]
            · rw [getD_set_ne true (fun e => hji e.symm)]; exact this
          · rw [getD_set_ne true (fun e => hki e.symm)] at hl
            have := hcl k ok hk hl j hj
            by_cases hji : j = i
            · subst hji; simp [hsz, hisz]
            · rw [getD_set_ne true (fun e => hji e.symm)]; exact this

def PanPost (pairs : List (Nat × Nat)) (o : Option (List Rec × Option Value)) (Φ : Ex → St → Prop) : Prop := ∃ recs v, o = some (recs, some v) ∧ pairsOk recs pairs = true ∧ Φ (.pan v) St.void
@[simp] theorem PanPost_some {Φ : Ex → St → Prop} (pairs : List (Nat × Nat)) (r : List Rec) (v : Value) : PanPost pairs (some (r, some v)) Φ ↔ pairsOk r pairs = true ∧ Φ (.pan v) St.void :=
  ⟨fun ⟨r', v', h, hp⟩ => by cases h; exact hp, fun h => ⟨_, _, rfl, h⟩⟩

/-- The same, with a list that tells what depends on p. -/
def runRD (P : Program) (Γ : Gam) (ops : List Oper) (p : Nat) : List Oper → List Bool → Nat → St → Option (List Rec × Option Value)
  | o :: r, b :: bs, k, st =>
    if k = p then bnd (recOp P Γ ops st o) fun x => runRP.stop x.1 st (runRD P Γ ops p r bs (k + 1)) x.2
    else if b = true then bnd (runRD P Γ ops p r bs (k + 1) st) fun x => some (Rec.nil :: x.1, x.2)
    else bnd (recOp P Γ ops st o) fun x => runRP.next x.1 (runRD P Γ ops p r bs (k + 1)) x.2
  | [], _, _, st => some ([], none)
  | _ :: _, [], _, _ => none
theorem runRD_eq {ops : List Oper} {p : Nat} {tb : List (List Nat)} : ∀ (rest : List Oper) (ds : List Bool) (k : Nat) (st : St), ds = (List.range' k rest.length).map (fun i => (tb.getD i []).contains p) → runRD P Γ ops p rest ds k st = runRP P Γ ops p tb rest k st
  | [], ds, k, st, _ => by cases ds <;> rfl
  | o :: rest, ds, k, st, h => by
    simp only [List.length_cons, List.range'_succ, List.map_cons] at h
    subst h
    simp only [runRD, runRP]
    have e : ∀ s, runRD P Γ ops p rest (List.map (fun i => (tb.getD i []).contains p) (List.range' (k + 1) rest.length)) (k + 1) s = runRP P Γ ops p tb rest (k + 1) s := fun s => runRD_eq rest _ (k + 1) s rfl
    have e' : runRD P Γ ops p rest (List.map (fun i => (tb.getD i []).contains p) (List.range' (k + 1) rest.length)) (k + 1) = runRP P Γ ops p tb rest (k + 1) := funext e
    rw [e']

theorem EW.drawnP {Fe : Fence} [FW Fe] {st : St} {Φ : Ex → St → Prop} {id : Nat} {ops : List Oper} (p : Nat) (ds : List Bool) (pairs : List (Nat × Nat)) (hm : P.follows .mixedOrders = true) (hS : Sound P Γ) (hs : floatOk ops (mkTb ops) pairs = true)
    (hds : ds = (List.range' 0 ops.length).map (fun i => ((mkTb ops).getD i []).contains p)) (h : PanPost pairs (runRD P Γ ops p ops ds 0 st) Φ) : EW (Fe := Fe) P (.region id ops.toArray true) st Φ := by
  intro w0 w l a df Q hg hdf hP
  rw [runRD_eq ops ds 0 st hds] at h
  obtain ⟨recs, v, h1, h2, h3⟩ := h
  refine wpIn_region_any hm ?_
  obtain ⟨⟨st', c1⟩, c2, c3⟩ := chain_of_runP (v := v) (recs := recs) ops 0 recs st (some v) (fun j => by simp) (fun j => by simp) h1 (fun _ => rfl)
  have hpl := c3 rfl
  have hlen : (List.range' 0 ops.length).length = ops.toArray.size := by simp
  rw [← hlen]
  refine anyOps_pan (p := p) (v := v) hS (Static.of (by simpa using hs)) (fun i o ho => c2 i o (by simpa using ho)) h2 (fun st1 l1 w1 a1 w' a' _ _ _ _ _ q1 q2 q3 q4 _ => hP _ _ h3 a' w' _ q1 q2 q3 q4) _ _ _ st _ l a rfl (by simp; omega) (by simp) (List.pairwise_lt_range' ..) ?_ ?_ ⟨rfl, rfl⟩ (fun _ _ => rfl) (by simpa using c1) hg.drew rfl rfl hdf
  · intro i
    simp only [List.mem_range'_1]
    constructor
    · intro h
      have hi : i < ops.length := by omega
      exact ⟨by simpa using hi, by simp [hi]⟩
    · intro h; have := h.1; simp at this; simp; exact this
  · intro i o ho hl j hj
    exfalso
    have hi : i < ops.length := by have := (List.getElem?_eq_some_iff.1 ho).1; simpa using this
    simp [hi] at hl

/-- A panic, where what is kept is known: the slots and the objects that no operation of the region turns. -/
def KeepPost (ops : List Oper) (pairs : List (Nat × Nat)) (p : Nat) (ds : List Nat) (ks : List Ref) (o : Option (List Rec × Option Value)) (v : Value) : Prop :=
  ∃ recs, o = some (recs, some v) ∧ pairsOk recs pairs = true ∧ (recs.getD p Rec.nil).F = [] ∧ (∀ d ∈ ds, ∀ o ∈ ops, o.dst ≠ some d) ∧ (∀ r ∈ ks, ∀ (i : Nat) (o : Oper), ops[i]? = some o → ¬ wrOf o (recs.getD i Rec.nil) (.m r))

theorem drawnG_wp {Fe : Fence} [FW Fe] {st : St} {id : Nat} {ops : List Oper} {a : Act} {df : List Deferred} {Q : Exit → Act → World → Prop} {v : Value} (p : Nat) (ds : List Bool) (pairs : List (Nat × Nat)) (es : List Nat) (ks : List Ref) (hm : P.follows .mixedOrders = true) (hS : Sound P Γ) (hs : floatOk ops (mkTb ops) pairs = true)
    (hds : ds = (List.range' 0 ops.length).map (fun i => ((mkTb ops).getD i []).contains p)) (h : KeepPost ops pairs p es ks (runRD P Γ ops p ops ds 0 st) v) (hg : Good w0 w l st a) (hdf : a.defers = mks l.rd.d ++ df)
    (hP : ∀ a' w' l' st', Good w0 w' l' st' a' → l'.rd = l.rd → l'.be = l.be → a'.defers = mks l.rd.d ++ df → (∀ d ∈ es, st'.env d = st.env d) → (∀ r ∈ ks, st'.mem r = st.mem r) → st'.nt = st.nt → st'.ext.length = st.ext.length → Q (.panic (pchain v)) a' w') :
    (Code.region id ops.toArray true).wpIn Fe 0 P Q a w := by
  rw [runRD_eq ops ds 0 st hds] at h
  obtain ⟨recs, h1, h2, hF, k1, k2⟩ := h
  refine wpIn_region_any hm ?_
  obtain ⟨⟨st', c1⟩, c2, c3⟩ := chain_of_runP (v := v) (recs := recs) ops 0 recs st (some v) (fun j => by simp) (fun j => by simp) h1 (fun _ => rfl)
  have hpl := c3 rfl
  have hlen : (List.range' 0 ops.length).length = ops.toArray.size := by simp
  rw [← hlen]
  have keep : ∀ st1, Agree st1 st (fun x => ∀ i, ¬ wOf ops.toArray.toList recs i x) → (∀ d ∈ es, st1.env d = st.env d) ∧ (∀ r ∈ ks, st1.mem r = st.mem r) := fun st1 hag => by
    refine ⟨fun d hd => get_e (hag (.e d) (fun i hi => ?_)), fun r hr => get_m (hag (.m r) (fun i hi => ?_))⟩
    · obtain ⟨o, ho, hw⟩ := hi
      exact k1 d hd o (List.mem_of_getElem? (by simpa using ho)) hw
    · obtain ⟨o, ho, hw⟩ := hi
      exact k2 r hr i o (by simpa using ho) hw
  refine anyOps_pan (p := p) (v := v) (st0 := st) hS (Static.of (by simpa using hs)) (fun i o ho => c2 i o (by simpa using ho)) h2 (fun st1 l1 w1 a1 w' a' q0 q0' q5 q6 q7 q1 q2 q3 q4 q8 => ?_) _ _ _ st _ l a rfl (by simp; omega) (by simp) (List.pairwise_lt_range' ..) ?_ ?_ ⟨rfl, rfl⟩ (fun _ _ => rfl) (by simpa using c1) hg.drew rfl rfl hdf
  · obtain ⟨e1, e2⟩ := keep st1 q0'
    exact hP a' w' l1 st1 (q8 hF) (by rw [q6]) q7 q4 e1 e2 q0.1 q0.2
  · intro i
    simp only [List.mem_range'_1]
    constructor
    · intro h
      have hi : i < ops.length := by omega
      exact ⟨by simpa using hi, by simp [hi]⟩
    · intro h; have := h.1; simp at this; simp; exact this
  · intro i o ho hl j hj
    exfalso
    have hi : i < ops.length := by have := (List.getElem?_eq_some_iff.1 ho).1; simpa using this
    simp [hi] at hl
attribute [simp] runRD runRP.next_go runRP.stop_pan
end Go.Ev
end

section
set_option linter.all false
set_option linter.unusedVariables false
set_option linter.unusedSimpArgs false
namespace Go.Ev
variable {P : Program} {w0 w : World} {l : Lay} {st : St} {Γ : Gam} {Fe : Fence}

/-! ### A function that is called as the frame below leaves -/
def plainOp (o : Oper) : Bool :=
  o.guard.isNone && match o.op with | .call _ | .panic _ | .defer _ => false | _ => true

theorem stepRun_done {o : Oper} {a : Act} {st' : St} (h : Good w0 w l st a) (hd : dstOk st.nt o.dst = true) (hp : plainOp o = true) (he : stepRun P Γ st o = some (.go st')) : OpDone P w0 w l o a st' := by
  unfold stepRun at he
  obtain ⟨xs, hx, he⟩ := bnd_eq he
  obtain ⟨os, hos, he⟩ := bnd_eq he
  split at he
  · obtain ⟨X', hex, he⟩ := bnd_eq he
    have he := Option.some.inj he
    obtain ⟨st1, h1, h2⟩ := hint_done (P := P) (Γ := Γ) (F := foot st o.op xs) h hd hx hex
    rw [h1] at he
    cases he
    exact h2
  split at he
  · rename_i hq
    obtain ⟨x, hex, he⟩ := bnd_eq he
    cases he
    exact quiet_done h hq hd hx hos hex
  · rename_i hq
    obtain ⟨X', hex, he⟩ := bnd_eq he
    have he := Option.some.inj he
    have nofoot : ∀ {st1 : St}, X'.run st o [] = .go st1 → foot st o.op xs = [] → st1 = st' := by
      intro st1 h1 h2
      rw [h2, h1] at he
      cases he; rfl
    cases hop : o.op with
    | assign y =>
      rw [hop] at hex
      obtain ⟨st1, h1, h2⟩ := assign_done (P := P) h hop hd hx hex
      rw [← nofoot h1 (by rw [hop]; rfl)]; exact h2
    | alloc t =>
      rw [hop] at hex
      obtain ⟨st1, h1, h2⟩ := alloc_done (P := P) h hop hd hex
      rw [← nofoot h1 (by rw [hop]; rfl)]; exact h2
    | box t y =>
      rw [hop] at hex
      obtain ⟨st1, h1, h2⟩ := box_done (P := P) h hop hd hx hex
      rw [← nofoot h1 (by rw [hop]; rfl)]; exact h2
    | store t y z =>
      rw [hop] at hex
      obtain ⟨st1, h1, h2⟩ := store_done (P := P) h hop hd hx hos hex
      rw [h1] at he; cases he; exact h2
    | panic y => simp [plainOp, hop] at hp
    | call c => simp [plainOp, hop] at hp
    | _ => rw [hop] at hex; cases hex

theorem opsS_run {ops : Array Oper} {Q : Exit → Act → List Frame → World → Prop} {cs : List Frame} : ∀ (rest : List Oper) (k : Nat) (st : St) (w : World) (l : Lay) (a : Act) (st' : St), (∀ j, rest[j]? = ops[k + j]?) → (rest.all plainOp) = true →
    runOps P Γ ops.toList rest st = some (.normal, st') → Good w0 w l st a → (∀ a' w' l', Good w0 w' l' st' a' → l'.rd = l.rd → l'.be = l.be → a'.defers = a.defers → Q .normal a' cs w') → wpOpsSIn Fence.wide 0 P ops Q (List.range' k rest.length) a cs w
  | [], k, st, w, l, a, st', _, _, h, hg, hK => by
    simp only [runOps, Option.some.injEq, Prod.mk.injEq, true_and] at h
    subst h
    exact hK a w l hg rfl rfl rfl
  | o :: rest, k, st, w, l, a, st', hi, hp, h, hg, hK => by
    simp only [List.all_cons, Bool.and_eq_true] at hp
    simp only [runOps] at h
    obtain ⟨r, hr, h⟩ := bnd_eq h
    have ho : ops[k]? = some o := by have := hi 0; simp at this; exact this.symm
    have hgn : o.guard = none := by
      have := hp.1
      simp only [plainOp, Bool.and_eq_true, Option.isNone_iff_eq_none] at this
      exact this.1
    simp only [List.length_cons, List.range'_succ, wpOpsSIn, ho]
    refine ⟨fun f _ => trivial, ?_⟩
    simp only [Region.wanted, hgn, if_true]
    unfold stepOp at hr
    split at hr
    case isFalse => cases hr
    rename_i hd
    simp only [hgn] at hr
    cases r with
    | pan v => simp [Res.next] at h
    | go st1 =>
      simp only [Res.next] at h
      obtain ⟨v, n, w', l', hn, hrun, hg', e1, e2⟩ := stepRun_done hg hd hp.1 hr
      have hdf : (a.put o.dst v).defers = a.defers := by cases o.dst <;> rfl
      have ih := opsS_run rest (k + 1) st1 w' l' (a.put o.dst v) st' (fun j => by have := hi (j + 1); simp at this; rw [this]; congr 1; omega) hp.2 h hg' (fun a2 w2 l2 q1 q2 q3 q4 => hK a2 w2 l2 q1 (q2.trans e1) (q3.trans e2) (q4.trans hdf))
      rw [hrun]
      rcases hn with rfl | ⟨rfl, rfl⟩
      · exact ih
      · exact ih

/-- What recover hands back. -/
def recV : FrameMode → Value
  | .panicking ({ v, recovered := false, goexit := false } :: _) => v
  | _ => .nilIface
def recM : FrameMode → FrameMode
  | .panicking ({ v, recovered := false, goexit := false } :: older) => .panicking ({ v, recovered := true } :: older)
  | m => m
theorem recoverD_eq (c : Frame) (cs : List Frame) : (match recoverD (c :: cs) with | some (v, cs') => (v, cs') | none => (Value.nilIface, c :: cs)) = (recV c.mode, { c with mode := recM c.mode } :: cs) := by
  obtain ⟨fn, tmps, todo, defers, mode, kind, r⟩ := c
  simp only [recoverD]
  split <;> rename_i h <;> simp only [recV, recM]
  · rename_i v older hm
    split at h
    · cases h; rfl
    · cases h
  · split at h
    · cases h
    · rename_i hne
      split
      · rename_i v older
        exact absurd rfl (hne _ _)
      · rfl

theorem opsS_post {ops : Array Oper} {Q : Exit → Act → List Frame → World → Prop} {cs : List Frame} {rest : List Oper} {k : Nat} {a : Act} (hi : ∀ j, rest[j]? = ops[k + j]?) (hp : (rest.all plainOp) = true) (hg : Good w0 w l st a)
    (h : OptPost (runOps P Γ ops.toList rest st) (fun e st' => isNorm e = true ∧ ∀ a' w' l', Good w0 w' l' st' a' → l'.rd = l.rd → l'.be = l.be → a'.defers = a.defers → Q .normal a' cs w')) : wpOpsSIn Fence.wide 0 P ops Q (List.range' k rest.length) a cs w := by
  obtain ⟨⟨e, s⟩, h1, h2, h3⟩ := h
  cases e with
  | normal => exact opsS_run rest k st w l a s hi hp h1 hg h3
  | exit id => cases h2
  | ret => cases h2
  | pan v => cases h2

/-- The marks are taken; no yield lies about. -/
theorem Good.takes {a : Act} (h : Good w0 w l st a) (hn : st.noY) (he : l.rd.e = []) : Good w0 (takes w l.rd.d) { l with rd := { l.rd with d := [] } } st a := by
  have hd2 : ∀ D, D ∈ l.rd.d → w.heap[D]? = some (.deferred (some [])) := fun D hD => (h.1.fzs.d D hD).2.2.2
  obtain ⟨t1, t2, t3, t4, t5, t6⟩ := takes_spec l.rd.d w hd2 h.1.fzs.nd
  have h1 : Good w0 w { l with rd := { l.rd with d := [] } } st a := h.turn hn _ rfl ⟨fun b hb => h.1.fzs.z b hb, fun D hD => (by cases hD), List.nodup_nil, fun D hD => h.1.fzs.e D hD⟩
  refine h1.world rfl t4 (t1.trans h.1.os) (t2.trans h.1.tape) (t3.trans h.1.output) (fun b hb hnb => ?_) (fun b cv T p hb => ?_) (fun b o => takes_cell hd2 h.1.fzs.nd b o) (fun b hb => ?_)
  · rw [t5 b (fun hd => absurd (h.1.fzs.d b hd).1 (Nat.not_le.2 hb))]; exact h.1.old b hb hnb
  · rw [t5 b (fun hd => by rw [hd2 b hd] at hb; cases hb)]; exact hb
  · refine t5 b (fun hd => ?_)
    rcases hb with hb | hb
    · exact absurd (h.1.fzs.d b hd).1 (Nat.not_le.2 (h.1.fzs.z b hb).1)
    · rw [he] at hb; cases hb

/-- The rest of a frame, as a frame of its own: what it holds in these slots, and the objects that these are of. -/
def envO : List Nat → List AV → Env
  | d :: ds, x :: xs => fun e => if e = d then some x.asObj else envO ds xs e
  | _, _ => fun _ => none
def subSt (nt : Nat) (ds : List Nat) (args : List AV) (ext : List (List AV)) : St := ⟨nt, envO ds args, fun _ => none, ext.map asObjL, fun _ => none⟩
theorem Good.sub {a : Act} {rd : Rd} {be : List Nat} {args : List AV} {ext : List (List AV)} {vs : List Value} {ds : List Nat} {nt : Nat} (hp : Pre w rd be args ext vs) (hs : a.tmps.size = nt) (hd : ∀ d ∈ ds, d < nt) (hv : ds.map (fun d => a.tmps.getD d undef) = vs) :
    Good w w ⟨{ rd with d := [], e := [] }, be, fun r => match r with | .ext i => be[i]? | .own _ => none, fun _ => .free, fun _ => none, fun _ => none⟩ (subSt nt ds args ext) a := by
  have hm := MR.init (nt := nt) hp
  refine ⟨hm.env _ rfl rfl rfl, hs, fun d x hx => ?_⟩
  have key : ∀ (ds : List Nat) (args : List AV) (vs : List Value), (∀ d ∈ ds, d < nt) → ds.map (fun d => a.tmps.getD d undef) = vs → RVs w (c0 rd be) args vs → ∀ d x, envO ds args d = some x → d < nt ∧ RV w (cx w w ⟨{ rd with d := [], e := [] }, be, fun r => match r with | .ext i => be[i]? | .own _ => none, fun _ => .free, fun _ => none, fun _ => none⟩ (fun _ => none)) x (a.tmps.getD d undef) := by
    intro ds
    induction ds with
    | nil => intro args vs _ _ _ d x h; simp [envO] at h
    | cons d0 ds ih =>
      intro args vs h1 h2 h3 d x h
      cases args with
      | nil => simp [envO] at h
      | cons y ys =>
        simp only [RVs] at h3
        obtain ⟨v, r, rfl, h4, h5⟩ := h3
        simp only [List.map_cons, List.cons.injEq] at h2
        simp only [envO] at h
        split at h
        · rename_i e
          cases h
          subst e
          refine ⟨h1 d (by simp), ?_⟩
          rw [h2.1]
          exact RV.asObj (c := c0 rd be) (fun f b o h => Or.inr ⟨rfl, h⟩) (fun r b h => by cases r <;> exact h) (fun _ h => Or.inl h) y v h4
        · exact ih ys r (fun d hd => h1 d (by simp [hd])) h2.2 h5 d x h
  exact key ds args vs hd hv hp.args d x hx

theorem recS {ops : Array Oper} {Q : Exit → Act → List Frame → World → Prop} {c : Frame} {cs : List Frame} {a : Act} {o : Oper} {rest : List Nat} {i : Nat} (h0 : ops[i]? = some o) (h1 : o.op = .call { callee := .builtin .recover, args := #[], argTypes := #[] }) (h2 : o.guard = none)
    (h : wpOpsSIn Fence.wide 0 P ops Q rest (a.put o.dst (recV c.mode)) ({ c with mode := recM c.mode } :: cs) w) : wpOpsSIn Fence.wide 0 P ops Q (i :: rest) a (c :: cs) w := by
  simp only [wpOpsSIn, h0]
  refine ⟨fun f _ => trivial, ?_⟩
  simp only [Region.wanted, h2, if_true]
  have hrun : (execOp a.eval o).run P w = .ok .recover w := by
    simp [execOp, h1, resolve, invoke, builtin]
  rw [hrun]
  have := recoverD_eq c cs
  cases hr : recoverD (c :: cs) with
  | none =>
    rw [hr] at this
    simp only [Prod.mk.injEq] at this
    rw [← this.1, ← this.2] at h
    exact h
  | some q =>
    obtain ⟨v, cs'⟩ := q
    rw [hr] at this
    simp only [Prod.mk.injEq] at this
    rw [← this.1, ← this.2] at h
    exact h

theorem opsS_tail {ops : Array Oper} {Q : Exit → Act → List Frame → World → Prop} {cs : List Frame} {k m : Nat} {a : Act} (hm : ops.size = k + m) (hp : ((ops.toList.drop k).all plainOp) = true) (hg : Good w0 w l st a)
    (h : OptPost (runOps P Γ ops.toList (ops.toList.drop k) st) (fun e st' => isNorm e = true ∧ ∀ a' w' l', Good w0 w' l' st' a' → l'.rd = l.rd → l'.be = l.be → a'.defers = a.defers → Q .normal a' cs w')) : wpOpsSIn Fence.wide 0 P ops Q (List.range' k m) a cs w := by
  have hl : (ops.toList.drop k).length = m := by simp; omega
  rw [← hl]
  exact opsS_post (fun j => by rw [List.getElem?_drop, Array.getElem?_toList]) hp hg h

/-! ### A frame with a call put off -/
theorem opsE_tail [FW Fe] {ops : Array Oper} {Q : Exit → Act → World → Prop} {L : List Nat} : ∀ (rest : List Oper) (k : Nat) (st : St) (w : World) (l : Lay) (a : Act) (st' : St), (∀ j o, rest[j]? = some o → ops[k + j]? = some o) → (rest.all plainOp) = true →
    runOps P Γ ops.toList rest st = some (.normal, st') → Good w0 w l st a → (∀ a' w' l', Good w0 w' l' st' a' → l'.rd = l.rd → l'.be = l.be → a'.defers = a.defers → wpOpsIn Fe 0 P ops Q L a' w') → wpOpsIn Fe 0 P ops Q (List.range' k rest.length ++ L) a w
  | [], k, st, w, l, a, st', _, _, h, hg, hK => by
    simp only [runOps, Option.some.injEq, Prod.mk.injEq, true_and] at h
    subst h
    exact hK a w l hg rfl rfl rfl
  | o :: rest, k, st, w, l, a, st', hi, hp, h, hg, hK => by
    simp only [List.all_cons, Bool.and_eq_true] at hp
    simp only [runOps] at h
    obtain ⟨r, hr, h⟩ := bnd_eq h
    have ho : ops[k]? = some o := by simpa using hi 0 o (by simp)
    have hgn : o.guard = none := by
      have := hp.1
      simp only [plainOp, Bool.and_eq_true, Option.isNone_iff_eq_none] at this
      exact this.1
    have hnd : ∀ c, o.op ≠ .defer c := fun c hc => by have := hp.1; simp [plainOp, hc] at this
    simp only [List.length_cons, List.range'_succ, List.cons_append]
    rw [wpOpsIn_cons]
    unfold stepOp at hr
    split at hr
    case isFalse => cases hr
    rename_i hd
    simp only [hgn] at hr
    cases r with
    | pan v => simp [Res.next] at h
    | go st1 =>
      simp only [Res.next] at h
      unfold wpOpIn
      simp only [ho, Region.wanted, hgn, if_true]
      refine OpDone.wp hnd (stepRun_done hg hd hp.1 hr) _ Q ?_
      intro a' w' l' g1 g2 g3 g4
      exact opsE_tail rest (k + 1) st1 w' l' a' st' (fun j o' hj => by have := hi (j + 1) o' (by simpa using hj); rw [← this]; congr 1; omega) hp.2 h g1 (fun a2 w2 l2 q1 q2 q3 q4 => hK a2 w2 l2 q1 (q2.trans g2) (q3.trans g3) (q4.trans g4))

theorem regionE [FW Fe] {id : Nat} {ops : Array Oper} {Q : Exit → Act → World → Prop} {a : Act} (hp : (ops.toList.all plainOp) = true) (hg : Good w0 w l st a)
    (h : OptPost (runOps P Γ ops.toList ops.toList st) (fun e st' => isNorm e = true ∧ ∀ a' w' l', Good w0 w' l' st' a' → l'.rd = l.rd → l'.be = l.be → a'.defers = a.defers → Q .normal a' w')) : (Code.region id ops false).wpIn Fe 0 P Q a w := by
  obtain ⟨⟨e, s⟩, h1, h2, h3⟩ := h
  cases e with
  | normal =>
    refine wpIn_region ?_
    have := opsE_tail (Fe := Fe) (ops := ops) (Q := Q) (L := []) ops.toList 0 st w l a s (fun j o hj => by simpa using hj) hp h1 hg (fun a' w' l' g1 g2 g3 g4 => h3 a' w' l' g1 g2 g3 g4)
    rw [List.range_eq_range']
    simpa using this
  | exit id => cases h2
  | ret => cases h2
  | pan v => cases h2

/-- [.., defer]: the closure is made, and put off. -/
theorem defer_wp [FW Fe] {ops : Array Oper} {Q : Exit → Act → World → Prop} {i : Nat} {o : Oper} {a : Act} {t : Tmp} {f : FuncId} {vc : Array Value} (hro : Fe.round = none) (ho : ops[i]? = some o) (hop : o.op = .defer { callee := .value (.tmp t), args := #[], argTypes := #[] }) (hg : o.guard = none) (hdst : o.dst = none)
    (hv : a.eval (.tmp t) = .func (.func f) #[] vc) (h : Q .normal { a with defers := { target := .fn (.func f) vc, args := #[] } :: a.defers } w) : wpOpsIn Fe 0 P ops Q [i] a w := by
  rw [wpOpsIn_cons]
  unfold wpOpIn
  simp only [ho, Region.wanted, hg, if_true]
  refine ⟨fun f _ => FW.fn Fe f, ?_⟩
  rw [hro, Oper.semAt_none]
  have hrun : (execOp a.eval o).run P w = .ok (.defer { target := .fn (.func f) vc, args := #[] }) w := by
    simp [execOp, hop, resolve, hv, Deferred.ofValue]
  rw [hrun]
  simp only [Oper.uponIn, wpOpsIn, hdst]
  exact h

theorem opsE_post [FW Fe] {ops : Array Oper} {Q : Exit → Act → World → Prop} {L : List Nat} {m : Nat} {a : Act} (hm : m ≤ ops.size) (hp : ((ops.toList.take m).all plainOp) = true) (hg : Good w0 w l st a)
    (h : OptPost (runOps P Γ ops.toList (ops.toList.take m) st) (fun e st' => isNorm e = true ∧ ∀ a' w' l', Good w0 w' l' st' a' → l'.rd = l.rd → l'.be = l.be → a'.defers = a.defers → wpOpsIn Fe 0 P ops Q L a' w')) : wpOpsIn Fe 0 P ops Q (List.range' 0 m ++ L) a w := by
  obtain ⟨⟨e, s⟩, h1, h2, h3⟩ := h
  have hl : (ops.toList.take m).length = m := by simp; omega
  cases e with
  | normal =>
    have := opsE_tail (Fe := Fe) (ops := ops) (Q := Q) (L := L) (ops.toList.take m) 0 st w l a s (fun j o hj => by
      rw [List.getElem?_take] at hj
      split at hj
      · rw [Nat.zero_add, ← Array.getElem?_toList]; exact hj
      · cases hj) hp h1 hg h3
    rw [hl] at this
    exact this
  | exit id => cases h2
  | ret => cases h2
  | pan v => cases h2

/-- What is told against a later world and more blocks is told against the first one. -/
theorem OutR.back {w w2 w' : World} {rd rd2 : Rd} {be : List Nat} {r : AV} {X : List (List AV)} {e : Ending} (h : OutR w2 rd2 be (.ret r X []) e w') (hF : Framed w w2 []) (hbe : ∀ b ∈ be, w.heap.size ≤ b) (hc : ∀ b o, rd2.c b o → (w.heap.size ≤ b ∧ b < w2.heap.size) ∨ rd.c b o) (hz : ∀ b, rd2.z b → rd.z b)
    (hr : r.mapRef (fun _ => none) = r) : OutR w rd [] (.ret r [] []) e w' := by
  obtain ⟨v, ob, e1, hR⟩ := h
  obtain ⟨f1, f2, f3, f4, f5⟩ := hR.fr
  obtain ⟨g1, g2, g3, g4, g5⟩ := hF
  refine ⟨v, fun _ => none, e1, ⟨⟨f1.trans g1, f2.trans g2, f3.trans g3, Nat.le_trans g4 f4, fun b hb _ => ?_⟩, rfl, fun _ _ _ h => (by cases h), fun _ _ h => (by cases h), fun _ _ h => (by cases h), List.nodup_nil, fun p hp => (by cases hp), fun i b cs h => (by cases h), ?_⟩⟩
  · rw [f5 b (Nat.lt_of_lt_of_le hb g4) (fun hm => absurd (hbe b hm) (Nat.not_le.2 hb))]
    exact g5 b hb (by simp)
  · rw [← hr]
    refine RV.mapRef (c := c1 w2 w' rd2 be ob) (c' := c1 w w' rd [] fun _ => none) (fun f b o hi => ?_) (fun _ _ _ _ h => h) (fun _ _ _ h => by cases h) hz r v hR.ret
    rcases hi with ⟨h1, h2, _⟩ | ⟨h1, h2⟩
    · exact .inl ⟨Nat.le_trans g4 h1, h2, fun k hk => by cases hk⟩
    · rcases hc b o h2 with h3 | h3
      · exact .inl ⟨h3.1, Nat.lt_of_lt_of_le h3.2 f4, fun k hk => by cases hk⟩
      · exact .inr ⟨h1, h3⟩
end Go.Ev
end

section
set_option linter.all false
set_option linter.unusedVariables false
set_option linter.unusedSimpArgs false
open Go.RowKit Go.ChangeShapes Go.WideShapes
namespace Go.Ev

/-! ### From a contract to a row -/
section
variable {H : Type} {enc : TypeId × Value → H} {P : Program}

theorem carry_all (hl : laidOutB P = true) {W W' : World} (hb : Below W.heap.size W W') : ∀ {ts : List TypeId} {vs : List Value} {ds : List (DataW H)} {ps : List MemPlace}, (∀ t ∈ ts, P.readableRec t = true ∧ t < P.types.size) →
    DataW.TrodAll enc P W 0 (fun _ => true) true ts vs ds ps → (∀ x ∈ ps, x.block < W.heap.size) → DataW.TrodAll enc P W' 0 (fun b => decide (b < W.heap.size)) true ts vs ds ps
  | [], vs, ds, ps, _, h, _ => by
    obtain ⟨rfl, rfl, rfl⟩ := trodAll_nil h
    exact h
  | t :: ts, vs, ds, ps, ht, h, hp => by
    obtain ⟨v, vs', d, ds', p, q, rfl, rfl, rfl, h1, h2⟩ := trodAll_cons h
    have k := ht t (by simp)
    exact ⟨p, q, Below.trod hl k.1 k.2 h1 hb (fun x hx => hp x (by simp [hx])), carry_all hl hb (fun t ht' => ht t (by simp [ht'])) h2 (fun x hx => hp x (by simp [hx])), rfl⟩

theorem trodAll_len {W : World} {base : Nat} {sp : Nat → Bool} {hd : Bool} : ∀ {ts : List TypeId} {vs : List Value} {ds : List (DataW H)} {ps : List MemPlace}, DataW.TrodAll enc P W base sp hd ts vs ds ps → ds.length = ts.length
  | [], vs, ds, ps, h => by
    obtain ⟨rfl, rfl, rfl⟩ := trodAll_nil h
    rfl
  | t :: ts, vs, ds, ps, h => by
    obtain ⟨v, vs', d, ds', p, q, rfl, rfl, rfl, h1, h2⟩ := trodAll_cons h
    simp [trodAll_len h2]

def rdO (W : World) : Rd := ⟨fun b _ => b < W.heap.size, fun _ => False, [], []⟩

theorem Framed.below {w w' : World} (h : Framed w w' []) : Below w.heap.size w w' := ⟨h.os, h.tape, h.output, h.size, fun k hk => h.old k hk (by simp)⟩

/-- A function that returns true, and turns nothing of what it was handed. -/
theorem lifted_true {C : Checked} {os : Os} {f : FuncId} {fn : Func} {s : ChangeSpec} {conds : List PathCond} {tb : TypeId} (hf : f ≠ YID) (own : ownKnob C.prog.godebug = none) (started : os.Started) (noInit : C.prog.inits.idxOf? f = none) (hfn : C.prog.funcs[f]? = some fn)
    (hl : laidOutB C.prog = true) (hr : fn.resultTypes = #[tb]) (htb : C.prog.underlying tb = some .bool) (hp : ∀ t ∈ fn.params.toList, C.prog.readableRec t = true ∧ t < C.prog.types.size) (hv : s.vars = [])
    (hs : ∀ ds : List (DataW H), ds.length = fn.params.size → s.fn H ds = { results := [.lit (.bool true)], args := ds })
    (witness : ∃ (w : World) (tape : Tape) (i : Input), w.os = os ∧ (w.forCall tape i).Shaped C.prog ∧ i.vars = [] ∧ Input.okWide C.prog (w.forCall tape i) .any w.heap.size f i ∧
      s.pre6 enc C.prog fn conds false (w.forCall tape i).memory i.args ∧ ({} : Assume).holds C.prog (lone (Frame.enter C.prog f i.args .normal) [] (w.forCall tape i)))
    (hA : ∀ (W : World) (base : Nat) (args : Array Value) (ds : List (DataW H)) (ps : List MemPlace), (∀ (j : Nat) t v, fn.params[j]? = some t → args[j]? = some v → Value.okWide C.prog W .any base t v) →
      DataW.TrodAll enc C.prog W 0 (fun _ => true) true fn.params.toList args.toList ds ps → (DataW.weightsEach C.prog fn.params.toList ds).all (· ≤ reachBytes) = true →
      (∀ x ∈ ps, x.block < W.heap.size) → ∃ av, RVs W (c0 (rdO W) []) av args.toList ∧ ACalls C.prog f av [] (.ret (.s (.bool true)) [] [])) :
    ReturnsInHanded {} C os f .any (s.pre6 enc C.prog fn conds false) (s.post enc C.prog fn false true false false) := by
  refine returnsInHanded_of_change_sized own started noInit hfn witness ?_
  intro W base args ds gs before hval hW _ hsz _
  have hlt := hW.lt
  have hW' := hW
  obtain ⟨p, q, hT, hV, rfl, hfz, hnd⟩ := hW
  rw [hv] at hV
  obtain ⟨rfl, rfl⟩ := trodVars_none hV
  have e0 : s.plain.varTypes C.prog = [] := by
    have : s.plain.vars = [] := hv
    simp [DataSpec.varTypes, this]
  rw [e0, List.append_nil, List.append_nil] at hsz
  rw [List.append_nil] at hlt hW'
  obtain ⟨av, hrv, hc⟩ := hA W base args ds p hval hT hsz hlt
  rw [ACalls, if_neg hf] at hc
  refine (hc.2 W (rdO W) [] args ⟨fun b o h => ⟨h, by simp⟩, fun b h => h.elim, List.nodup_nil, rfl, by simp, by simp, hrv⟩).mono ?_
  rintro e W' ⟨v, ob, rfl, hR⟩
  have hvv : v = .bool true := hR.ret
  subst hvv
  have hb := hR.fr.below
  refine ⟨_, rfl, ds, [], p, [], p, [], hW', ?_, ?_, by rw [hv, List.append_nil, hs ds (by rw [trodAll_len hT]; simp)]; rfl, hb.frame _, by simp⟩
  · rw [List.append_nil, hs ds (by rw [trodAll_len hT]; simp), hr]
    exact trodAll_mk1 (shut_bool htb true)
  · rw [List.append_nil, hs ds (by rw [trodAll_len hT]; simp)]
    exact carry_all hl hb hp hT hlt
end
end Go.Ev
end

section
set_option linter.all false
set_option linter.unusedVariables false
set_option linter.unusedSimpArgs false
open Go.RowKit Go.ChangeShapes Go.WideShapes
namespace Go.Ev
section
variable {H : Type} {enc : TypeId × Value → H} {P : Program}

/-- A function that returns true, and turns nothing of what it was handed. -/
theorem lifted_true_and {X : World → Array Value → Prop} {C : Checked} {os : Os} {f : FuncId} {fn : Func} {s : ChangeSpec} {conds : List PathCond} {tb : TypeId} (hf : f ≠ YID) (own : ownKnob C.prog.godebug = none) (started : os.Started) (noInit : C.prog.inits.idxOf? f = none) (hfn : C.prog.funcs[f]? = some fn)
    (hl : laidOutB C.prog = true) (hr : fn.resultTypes = #[tb]) (htb : C.prog.underlying tb = some .bool) (hp : ∀ t ∈ fn.params.toList, C.prog.readableRec t = true ∧ t < C.prog.types.size) (hv : s.vars = [])
    (hs : ∀ ds : List (DataW H), ds.length = fn.params.size → s.fn H ds = { results := [.lit (.bool true)], args := ds })
    (hX : ∀ (w w' : World) (args : Array Value), w.heap = w'.heap → X w args → X w' args)
    (witness : ∃ (w : World) (tape : Tape) (i : Input), w.os = os ∧ (w.forCall tape i).Shaped C.prog ∧ i.vars = [] ∧ Input.okWide C.prog (w.forCall tape i) .any w.heap.size f i ∧
      ((s.pre enc C.prog fn conds false (w.forCall tape i).memory i.args ∧ X (w.forCall tape i).memory i.args) ∧ sizedMet enc C.prog fn (OpenSpec.ofChange s) false (w.forCall tape i).memory i.args) ∧ ({} : Assume).holds C.prog (lone (Frame.enter C.prog f i.args .normal) [] (w.forCall tape i)))
    (hA : ∀ (W : World) (base : Nat) (args : Array Value) (ds : List (DataW H)) (ps : List MemPlace), (∀ (j : Nat) t v, fn.params[j]? = some t → args[j]? = some v → Value.okWide C.prog W .any base t v) →
      DataW.TrodAll enc C.prog W 0 (fun _ => true) true fn.params.toList args.toList ds ps → (DataW.weightsEach C.prog fn.params.toList ds).all (· ≤ reachBytes) = true →
      (∀ x ∈ ps, x.block < W.heap.size) → X W args → ({} : Assume).holds C.prog (lone (Frame.enter C.prog f args .normal) [] W) → ∃ av, RVs W (c0 (rdO W) []) av args.toList ∧ ACalls C.prog f av [] (.ret (.s (.bool true)) [] [])) :
    ReturnsInHanded {} C os f .any (fun w args => (s.pre enc C.prog fn conds false w args ∧ X w args) ∧ sizedMet enc C.prog fn (OpenSpec.ofChange s) false w args) (s.post enc C.prog fn false true false false) := by
  refine returnsInHanded_of_change_and hX own started noInit hfn witness ?_
  intro W base args ds gs before hval hW _ hsz hXW hld
  have hlt := hW.lt
  have hW' := hW
  obtain ⟨p, q, hT, hV, rfl, hfz, hnd⟩ := hW
  rw [hv] at hV
  obtain ⟨rfl, rfl⟩ := trodVars_none hV
  have e0 : s.plain.varTypes C.prog = [] := by
    have : s.plain.vars = [] := hv
    simp [DataSpec.varTypes, this]
  rw [e0, List.append_nil, List.append_nil] at hsz
  rw [List.append_nil] at hlt hW'
  obtain ⟨av, hrv, hc⟩ := hA W base args ds p hval hT hsz hlt hXW hld
  rw [ACalls, if_neg hf] at hc
  refine (hc.2 W (rdO W) [] args ⟨fun b o h => ⟨h, by simp⟩, fun b h => h.elim, List.nodup_nil, rfl, by simp, by simp, hrv⟩).mono ?_
  rintro e W' ⟨v, ob, rfl, hR⟩
  have hvv : v = .bool true := hR.ret
  subst hvv
  have hb := hR.fr.below
  refine ⟨_, rfl, ds, [], p, [], p, [], hW', ?_, ?_, by rw [hv, List.append_nil, hs ds (by rw [trodAll_len hT]; simp)]; rfl, hb.frame _, by simp⟩
  · rw [List.append_nil, hs ds (by rw [trodAll_len hT]; simp), hr]
    exact trodAll_mk1 (shut_bool htb true)
  · rw [List.append_nil, hs ds (by rw [trodAll_len hT]; simp)]
    exact carry_all hl hb hp hT hlt
end
end Go.Ev
end

section
set_option linter.all false
set_option linter.unusedVariables false
set_option linter.unusedSimpArgs false
open Go.RowKit Go.ChangeShapes Go.WideShapes
namespace Go.Ev

/-! ### What is handed in, as data -/
/-- Cells that bear data. -/
def RC (w : World) (im : Nat → Nat → Prop) : List D → List Value → Prop
  | [], vs => vs = []
  | d :: ds, vs => ∃ v r, vs = v :: r ∧ v.oneCell' = true ∧ RD w im d v ∧ RC w im ds r
theorem RC.length {w : World} {im : Nat → Nat → Prop} : ∀ {ds : List D} {vs : List Value}, RC w im ds vs → ds.length = vs.length
  | [], vs, h => by cases h; rfl
  | d :: ds, vs, h => by obtain ⟨v, r, rfl, _, _, h⟩ := h; simp [h.length]
theorem RC.append {w : World} {im : Nat → Nat → Prop} : ∀ {ds es : List D} {vs us : List Value}, RC w im ds vs → RC w im es us → RC w im (ds ++ es) (vs ++ us)
  | [], es, vs, us, h, h' => by cases h; exact h'
  | d :: ds, es, vs, us, h, h' => by
    obtain ⟨v, r, rfl, a, b, h⟩ := h
    exact ⟨v, r ++ us, rfl, a, b, h.append h'⟩
theorem RC.get {w : World} {im : Nat → Nat → Prop} : ∀ {ds : List D} {vs : List Value}, RC w im ds vs → ∀ (j : Nat) (d : D), ds[j]? = some d → ∃ v, vs[j]? = some v ∧ v.oneCell' = true ∧ RD w im d v
  | [], vs, h, j, d, hj => by simp at hj
  | e :: ds, vs, h, j, d, hj => by
    obtain ⟨v, r, rfl, a, b, h⟩ := h
    cases j with
    | zero => simp at hj; subst hj; exact ⟨v, rfl, a, b⟩
    | succ j => simpa using h.get j d (by simpa using hj)
theorem RDs.append {w : World} {i1 i2 : Nat → Nat → Prop} : ∀ {cs ds : List D} {b o : Nat}, RDs w i1 i2 cs b o → RDs w i1 i2 ds b (o + cs.length) → RDs w i1 i2 (cs ++ ds) b o
  | [], ds, b, o, h, h' => by simpa using h'
  | c :: cs, ds, b, o, h, h' => by
    simp only [RDs, List.cons_append] at h ⊢
    exact ⟨h.1, h.2.1, h.2.2.append (by simpa [Nat.add_assoc, Nat.add_comm 1] using h')⟩

section
variable {H : Type} {P : Program}
abbrev imO (W : World) : Nat → Nat → Prop := fun b _ => b < W.heap.size
/-- What is handed in at a type is data of a kind. -/
def In (H : Type) (P : Program) {α : Type} (t : TypeId) (e : α → List D) (ok : α → Prop) : Prop :=
  ∀ (enc : TypeId × Value → H) (W : World) (fuel : Nat) (cs : List Value) (x : DataW H × List MemPlace), DataW.trod enc P W 0 (fun _ => true) true fuel t cs = some x → (∀ p ∈ x.2, p.block < W.heap.size) → ∃ a : α, RC W (imO W) (e a) cs ∧ ok a

theorem In.int {t : TypeId} {k : IntKind} (ht : P.underlying t = some (.int k)) : In H P t (fun n : Int => [D.s (.int k n)]) (fun n => (Lit.int k n).wf = true) := by
  intro enc W fuel cs x h hp
  obtain ⟨n, rfl, _, hw⟩ := DataW.trod_int ht h
  exact ⟨n, ⟨_, [], rfl, rfl, by simp [RD], rfl⟩, hw⟩
theorem In.str {t : TypeId} (ht : P.underlying t = some .string) : In H P t (fun s : ByteArray => [D.s (.string s)]) (fun s => s.size ≤ maxLen) := by
  intro enc W fuel cs x h hp
  obtain ⟨n, rfl, _, hw⟩ := DataW.trod_string ht h
  exact ⟨n, ⟨_, [], rfl, rfl, by simp [RD], rfl⟩, hw⟩
theorem In.bool {t : TypeId} (ht : P.underlying t = some .bool) : In H P t (fun s : Bool => [D.s (.bool s)]) (fun s => True) := by
  intro enc W fuel cs x h hp
  obtain ⟨n, rfl, _⟩ := DataW.trod_bool ht h
  exact ⟨n, ⟨_, [], rfl, rfl, by simp [RD], rfl⟩, trivial⟩
theorem rds_flat {W : World} {α : Type} (e : α → List D) (b k : Nat) (hb : b < W.heap.size) : ∀ (l : List α) (o : Nat), (∀ (i : Nat) (a : α), l[i]? = some a → ∃ us, us.length = k ∧ RC W (imO W) (e a) us ∧ ∀ j v, us[j]? = some v → W.cell? ⟨b, o + (i * k + j), none⟩ = some v) → RDs W (imO W) (imO W) (l.flatMap e) b o
  | [], o, h => by simp [RDs]
  | a :: l, o, h => by
    rw [List.flatMap_cons]
    obtain ⟨us, h1, h2, h3⟩ := h 0 a rfl
    have hk : (e a).length = k := by rw [h2.length, h1]
    refine RDs.append (RDs.of_get fun j d hj => ⟨hb, ?_⟩) (rds_flat e b k hb l _ fun i a' hi => ?_)
    · obtain ⟨v, q1, q2, q3⟩ := h2.get j d hj
      exact ⟨v, by simpa using h3 j v q1, q2, q3⟩
    · obtain ⟨us, g1, g2, g3⟩ := h (i + 1) a' (by simpa using hi)
      refine ⟨us, g1, g2, fun j v hj => ?_⟩
      rw [hk, Nat.add_assoc, show k + (i * k + j) = (i + 1) * k + j by rw [Nat.succ_mul]; omega]
      exact g3 j v hj
theorem list_of {α : Type} {Q : Nat → α → Prop} : ∀ (n : Nat), (∀ i, i < n → ∃ a, Q i a) → ∃ l : List α, l.length = n ∧ ∀ (i : Nat) (a : α), l[i]? = some a → Q i a
  | 0, _ => ⟨[], rfl, by simp⟩
  | n + 1, h => by
    obtain ⟨l, h1, h2⟩ := list_of n fun i hi => h i (by omega)
    obtain ⟨a, ha⟩ := h n (by omega)
    refine ⟨l ++ [a], by simp [h1], fun i a' hi => ?_⟩
    by_cases hl : i < l.length
    · rw [List.getElem?_append_left hl] at hi; exact h2 i a' hi
    · have := (List.getElem?_eq_some_iff.1 hi).1
      simp at this
      have e : i = l.length := by omega
      subst e
      simp at hi
      subst hi
      rw [h1]; exact ha
theorem In.slice {α : Type} {t el : TypeId} {e : α → List D} {ok : α → Prop} (ht : P.underlying t = some (.slice el)) (hk : 0 < P.cellsOf el) (h : In H P el e ok) : In H P t (fun l : List α => [D.sl l.length (l.flatMap e)]) (fun l => l.length ≤ maxLen ∧ ∀ a ∈ l, ok a) := by
  intro enc W fuel cs x hx hp
  rcases DataW.trod_slice ht hx with ⟨rfl, _⟩ | ⟨a, len, cap, elems, rest, n, _, rfl, rfl, _, hl, hm, hlen, hel, _, _⟩
  · exact ⟨[], ⟨_, [], rfl, rfl, by simp only [RD]; exact ⟨none, 0, rfl, Nat.le_refl _, rfl, rfl, rfl⟩, rfl⟩, by simp [maxLen]⟩
  · have hs0 : 0 < len → a.spot = none := fun h0 => by
      have h1 := hel 0 h0
      rw [List.getElem?_eq_getElem (by omega), Option.bind_eq_some_iff] at h1
      obtain ⟨us, h2, _⟩ := h1
      obtain ⟨_, q1, q2⟩ := World.cells?_some h2
      have := q2 0 hk
      rw [List.getElem?_eq_getElem (by omega)] at this
      obtain ⟨bk, of, sp⟩ := a
      cases sp with
      | none => rfl
      | some s => simp [Addr.add, World.cell?] at this; split at this <;> simp at this
    have each : ∀ i, i < len → ∃ a' : α, (∃ us, us.length = P.cellsOf el ∧ RC W (imO W) (e a') us ∧ ∀ j v, us[j]? = some v → W.cell? (a.add (i * P.cellsOf el + j)) = some v) ∧ ok a' := by
      intro i hi
      have h1 := hel i hi
      have hy : ∃ y, elems[i]? = some y := ⟨elems[i], List.getElem?_eq_getElem (by omega)⟩
      obtain ⟨y, hy⟩ := hy
      rw [hy, Option.bind_eq_some_iff] at h1
      obtain ⟨us, h2, h3⟩ := h1
      obtain ⟨_, q1, q2⟩ := World.cells?_some h2
      obtain ⟨a', r1, r2⟩ := h enc W n us y h3 fun p hpp => hp p (by
        simp only [List.mem_append]
        exact .inr (List.mem_flatMap.2 ⟨y, List.mem_append_left _ (List.mem_of_getElem? hy), hpp⟩))
      refine ⟨a', ⟨us, q1, r1, fun j v hj => ?_⟩, r2⟩
      have hjl := (List.getElem?_eq_some_iff.1 hj).1
      have := q2 j (by omega)
      rw [hj] at this
      have hs := hs0 (by omega)
      obtain ⟨bk, of, sp⟩ := a
      simp only at hs
      subst hs
      simp only [Addr.add_lit] at this ⊢
      rw [← Nat.add_assoc]; exact this
    obtain ⟨l, l1, l2⟩ := list_of len each
    refine ⟨l, ⟨_, [], rfl, rfl, ?_, rfl⟩, by simp only [maxLen] at *; omega, fun a' ha' => ?_⟩
    · simp only [RD]
      refine ⟨some a, cap, by rw [l1], by omega, ?_⟩
      by_cases h0 : len = 0
      · have : l = [] := List.length_eq_zero_iff.1 (by omega)
        subst this
        exact ⟨.inr ⟨rfl, rfl⟩, by simp [RDs]⟩
      · have hs := hs0 (by omega)
        obtain ⟨bk, of, sp⟩ := a
        simp only at hs
        subst hs
        refine ⟨.inl rfl, rds_flat e bk (P.cellsOf el) ?_ l of fun i a' hi => ?_⟩
        · refine hp (.cell bk (of + 0)) (List.mem_append_left _ (List.mem_map.2 ⟨0, List.mem_range.2 ?_, rfl⟩))
          exact Nat.mul_pos (by omega) hk
        · obtain ⟨⟨us, g1, g2, g3⟩, _⟩ := l2 i a' hi
          exact ⟨us, g1, g2, fun j v hj => by simpa [Addr.add_lit] using g3 j v hj⟩
    · obtain ⟨i, hi⟩ := List.getElem?_of_mem ha'
      exact (l2 i a' hi).2
/-- The fields from a cell on. -/
def InFs (H : Type) (P : Program) {α : Type} (fs : List Field) (o : Nat) (e : α → List D) (ok : α → Prop) : Prop :=
  ∀ (enc : TypeId × Value → H) (W : World) (n : Nat) (cs : List Value) (xs : List (DataW H × List MemPlace)), xs.length = fs.length → (∀ (i : Nat) (f : Field), fs[i]? = some f → DataW.trod enc P W 0 (fun _ => true) true n f.type ((cs.drop f.offset).take (P.cellsOf f.type)) = xs[i]?) →
    (∀ x ∈ xs, ∀ p ∈ x.2, p.block < W.heap.size) → cs.length = (fs.map fun f => P.cellsOf f.type).sum + o → ∃ a : α, RC W (imO W) (e a) (cs.drop o) ∧ ok a
theorem InFs.nil {o : Nat} : InFs H P [] o (fun _ : Unit => []) (fun _ => True) := by
  intro enc W n cs xs _ _ _ hl
  exact ⟨(), by simp at hl; simp [RC, hl], trivial⟩
theorem InFs.cons {α β : Type} {f : Field} {fs : List Field} {o : Nat} {e1 : α → List D} {ok1 : α → Prop} {e2 : β → List D} {ok2 : β → Prop} (h0 : f.offset = o) (h1 : In H P f.type e1 ok1) (h2 : InFs H P fs (o + P.cellsOf f.type) e2 ok2) :
    InFs H P (f :: fs) o (fun p : α × β => e1 p.1 ++ e2 p.2) (fun p => ok1 p.1 ∧ ok2 p.2) := by
  intro enc W n cs xs hx hf hp hl
  cases xs with
  | nil => simp at hx
  | cons x xs =>
    have hh := hf 0 f rfl
    simp only [List.getElem?_cons_zero] at hh
    obtain ⟨a, r1, r2⟩ := h1 enc W n _ x hh (hp x (by simp))
    obtain ⟨b, s1, s2⟩ := h2 enc W n cs xs (by simpa using hx) (fun i g hg => by simpa using hf (i + 1) g (by simpa using hg)) (fun y hy => hp y (by simp [hy])) (by simp at hl; omega)
    refine ⟨(a, b), ?_, r2, s2⟩
    have := r1.append s1
    rw [h0, ← List.drop_drop, List.take_append_drop] at this
    exact this
theorem In.struct {α : Type} {t : TypeId} {fs : Array Field} {e : α → List D} {ok : α → Prop} (ht : P.underlying t = some (.struct fs)) (hc : P.cellsOf t = (fs.toList.map fun f => P.cellsOf f.type).sum) (h : InFs H P fs.toList 0 e ok) : In H P t e ok := by
  intro enc W fuel cs x hx hp
  obtain ⟨xs, n, _, rfl, hl, hlen, hf⟩ := DataW.trod_struct ht hx
  obtain ⟨a, r1, r2⟩ := h enc W n cs xs (by simpa using hlen) (fun i f hi => hf i f (by simpa using hi)) (fun y hy p hpp => hp p (List.mem_flatMap.2 ⟨y, hy, hpp⟩)) (by rw [hl, hc]; simp)
  exact ⟨a, by simpa using r1, r2⟩
theorem In.map {α β : Type} {t : TypeId} {e : α → List D} {ok : α → Prop} {e' : β → List D} {ok' : β → Prop} (h : In H P t e ok) (f : α → β) (he : ∀ a, e a = e' (f a)) (hok : ∀ a, ok a → ok' (f a)) : In H P t e' ok' := by
  intro enc W fuel cs x hx hp
  obtain ⟨a, r1, r2⟩ := h enc W fuel cs x hx hp
  exact ⟨f a, by rw [← he]; exact r1, hok a r2⟩

/-- As arguments. -/
theorem rv_of_D {W : World} {d : D} {v : Value} (h : RD W (imO W) d v) : RV W (c0 (rdO W) []) (d.av false false) v := av_of_D (c := c0 (rdO W) []) (g := false) h
theorem RC.rvs {W : World} : ∀ {ds : List D} {vs : List Value}, RC W (imO W) ds vs → RVs W (c0 (rdO W) []) (ds.map (D.av false false)) vs
  | [], vs, h => h
  | d :: ds, vs, h => by
    obtain ⟨v, r, rfl, _, a, b⟩ := h
    exact ⟨v, r, rfl, rv_of_D a, b.rvs⟩
/-- An argument of a plain kind. -/
theorem In.arg {α : Type} {t : TypeId} {e : α → List D} {ok : α → Prop} (h : In H P t e ok) {enc : TypeId × Value → H} {W : World} {v : Value} {d : DataW H} {ps : List MemPlace} (hT : DataW.Trod enc P W 0 (fun _ => true) true t v d ps) (hp : ∀ p ∈ ps, p.block < W.heap.size) :
    ∃ a, RC W (imO W) (e a) v.cells.toList ∧ ok a := by
  obtain ⟨fuel, hf⟩ := hT
  exact h enc W fuel _ _ hf hp
theorem arg_cell {W : World} {d : D} {v : Value} {base : Nat} {t : TypeId} (hv : v.cells = #[v]) (h : RC W (imO W) [d] v.cells.toList) : RV W (c0 (rdO W) []) (d.av false false) v := by
  rw [hv] at h
  obtain ⟨u, r, e, _, h, _⟩ := h
  cases e
  exact rv_of_D h
theorem arg_agg {W : World} {ds : List D} {cs : Array Value} (h : RC W (imO W) ds (Value.agg cs).cells.toList) : RV W (c0 (rdO W) []) (.agg (ds.map (D.av false false))) (.agg cs) := by
  simp only [RV]
  exact ⟨cs.toList, by simp, by simpa [Value.cells] using h.rvs⟩
end
end Go.Ev
end

section
set_option linter.all false
set_option linter.unusedVariables false
set_option linter.unusedSimpArgs false
namespace Go.Ev
variable {P : Program} {w0 w : World} {l : Lay} {st : St}

/-! ### An object of this frame that is written no more -/
/-- What is dropped is free from here on. -/
theorem Good.leF {st' : St} {a : Act} (hle : St.le st' st) (h : Good w0 w l st a) : ∃ l', Good w0 w l' st' a ∧ l'.rd = l.rd ∧ l'.be = l.be ∧ (∀ k b, l.rb (.own k) = some b → st'.own k = none → l'.ow b = .free) ∧ (∀ f b o, (cx w0 w l st.tok).im f b o → (cx w0 w l' st'.tok).im f b o) ∧ (∀ r b, l'.rb r = some b → l.rb r = some b) := by
  classical
  obtain ⟨hm, he⟩ := h
  let l' : Lay := { l with
    rb := fun r => if (st'.mem r).isSome then l.rb r else none
    ow := fun b => if l.ow b = .obj ∧ ¬ (∃ k, (st'.own k).isSome = true ∧ l.rb (.own k) = some b) then .free else l.ow b
    bt := fun k => if (st'.tok k).isSome then l.bt k else none
    xt := fun k => if (st'.tok (XK k)).isSome = true ∧ (st'.own k).isSome = true then l.xt k else none }
  have hmem : ∀ r cs, st'.mem r = some cs → ∃ cs', st.mem r = some cs' ∧ AVles (vt st'.tok st.tok) cs cs' := fun r cs h => by
    cases r with
    | own k => exact hle.own k cs h
    | ext i => exact hle.ext.2 i cs h
  have hrb : ∀ r b, (st'.mem r).isSome = true → l.rb r = some b → l'.rb r = some b := fun r b h1 h2 => by
    show (if (st'.mem r).isSome = true then l.rb r else none) = some b
    rw [if_pos h1]; exact h2
  have hrb' : ∀ r b, l'.rb r = some b → l.rb r = some b ∧ (st'.mem r).isSome = true := fun r b h => by
    simp only [l'] at h
    split at h
    · rename_i h1; exact ⟨h, h1⟩
    · cases h
  have him : ∀ f b o, (cx w0 w l st.tok).im f b o → (cx w0 w l' st'.tok).im f b o := fun f b o h => by
    rcases h with ⟨h1, h2, h3⟩ | h
    · refine .inl ⟨h1, h2, ?_⟩
      simp only [l']
      split
      · trivial
      · exact h3
    · exact .inr h
  have htc : ∀ k n a cap, (st'.tok k).isSome = true → (cx w0 w l st.tok).tc k n a cap → (cx w0 w l' st'.tok).tc k n a cap := fun k n a cap h1 h2 => by
    obtain ⟨n', z, h3, h4, h5⟩ := h2
    obtain ⟨p, hp⟩ := Option.isSome_iff_exists.1 h1
    have := (hle.tok k p hp).resolve_right (by rw [h3]; simp)
    rw [this] at h3
    cases h3
    exact ⟨n', z, hp, h4, fun e => by have := h5 e; simp only [l', h1, if_true]; exact this⟩
  have hxc : ∀ k z cap, (st'.tok (XK k)).isSome = true → (st'.mem (.own k)).isSome = true → (cx w0 w l st.tok).xc k z cap → (cx w0 w l' st'.tok).xc k z cap := fun k z cap h1 h2 h3 => by
    show (match (if (st'.tok (XK k)).isSome = true ∧ (st'.own k).isSome = true then l.xt k else none) with | some (c, z') => cap = c ∧ z = z' | none => cap = 0)
    rw [if_pos ⟨h1, h2⟩]
    exact h3
  have hV : ∀ d n a, vt st'.tok st.tok d = some n → (cx w0 w l' st'.tok).tc d n a n := fun d n a h => by
    unfold vt at h
    split at h
    · cases h
    · rename_i hn
      obtain ⟨p, hp, rfl⟩ := Option.map_eq_some_iff.1 h
      refine ⟨p.1, p.2, hp, Nat.le_refl _, fun _ => ?_⟩
      have hb : l'.bt d = none := by
        simp only [l']
        split
        · cases hbt : l.bt d with
          | none => rfl
          | some q =>
            obtain ⟨n', z, a1, _⟩ := hm.tokd d q.1 q.2 hbt
            rw [a1] at hn; simp at hn
        · rfl
      rw [hb]
  refine ⟨l', ⟨⟨hm.os, hm.tape, hm.output, hm.size, hm.old, hm.bel, ?_, by rw [hle.ext.1]; exact hm.extn, ?_, ?_, ?_, ?_, ?_, ?_, ?_, ?_, hm.rdok, ?_, ?_, hm.fzs.step (Nat.le_refl _) (fun _ _ => rfl) (fun D _ ho => by simp only [l']; split; rfl; exact ho) rfl rfl, ?_⟩, ?_⟩, rfl, rfl, fun k b hk hn => ?_, him, fun r b h => (hrb' r b h).1⟩
  · intro i
    simp only [l']
    split
    · exact hm.ext i
    · rename_i h
      have : st'.mem (.ext i) = none := by simpa using h
      simp only [St.mem] at this
      have h2 := List.getElem?_eq_none_iff.1 this
      rw [hle.ext.1] at h2
      rw [eq_comm, List.getElem?_eq_none_iff, ← hm.extn]
      exact h2
  · intro r r' b h1 h2; exact hm.inj _ _ _ (hrb' r b h1).1 (hrb' r' b h2).1
  · intro r b h; exact Option.isSome_iff_exists.1 (hrb' r b h).2
  · intro r cs h
    obtain ⟨cs', hcs, hle'⟩ := hmem r cs h
    rcases hm.obj r cs' hcs with ⟨e0, e1⟩ | ⟨b, h1, h2⟩
    · refine .inl ⟨List.length_eq_zero_iff.1 (by rw [hle'.length, e0]; rfl), ?_⟩
      simp only [l']
      split
      · exact e1
      · rfl
    refine .inr ⟨b, hrb r b (by rw [h]; rfl) h1, ?_⟩
    obtain ⟨cv, T, q1, q2, q3⟩ := h2
    refine ⟨cv, T, q1, by rw [hle'.length]; exact q2, fun j x hj => ?_⟩
    obtain ⟨y, hy, hxy⟩ := hle'.get hj
    obtain ⟨v, a1, a2, a3⟩ := q3 j y hy
    have hok : okInL (fun r => (st'.mem r).isSome) (fun k => (st'.tok k).isSome) cs = true := by
      cases r with
      | own k => exact hle.okO k cs h
      | ext i => exact hle.okX cs (List.mem_of_getElem? h)
    exact ⟨v, a1, a2, hxy.sound him (fun f b o => cx_down st'.tok f b o) hrb htc hV (fun _ _ h _ => h) hxc (okInL_get hok x (List.mem_of_getElem? hj)) a3⟩
  · intro r b h; exact hm.rblt r b (hrb' r b h).1
  · intro k b h
    obtain ⟨h1, h2⟩ := hrb' _ b h
    have := hm.rbow k b h1
    refine ⟨this.1, ?_⟩
    simp only [l']
    rw [if_neg (fun hc => hc.2 ⟨k, h2, h1⟩)]
    exact this.2
  · intro b hb
    simp only [l'] at hb
    split at hb
    · cases hb
    · rename_i hc
      have h1 : ∃ k, (st'.own k).isSome = true ∧ l.rb (.own k) = some b := by
        apply Classical.byContradiction
        intro hn; exact hc ⟨hb, hn⟩
      obtain ⟨k, h2, h3⟩ := h1
      exact ⟨k, hrb _ b h2 h3⟩
  · intro b hb
    simp only [l']
    split
    · rfl
    · exact hm.owfree b hb
  · intro b hb
    simp only [l']
    split
    · rfl
    · exact hm.owold b hb
  · intro k b cap hk
    simp only [l'] at hk
    split at hk
    · rename_i h1
      obtain ⟨n, z, a1, a2, a3⟩ := hm.tokd k b cap hk
      obtain ⟨p, hp⟩ := Option.isSome_iff_exists.1 h1
      have := (hle.tok k p hp).resolve_right (by rw [a1]; simp)
      rw [this] at a1
      cases a1
      exact ⟨n, z, hp, by simp only [l']; rw [if_neg (fun hc => by rw [hc.1] at a2; cases a2)]; exact a2, a3⟩
    · cases hk
  · intro k k' b c c' h1 h2
    simp only [l'] at h1 h2
    split at h1 <;> split at h2
    · exact hm.tokinj _ _ _ _ _ h1 h2
    · cases h2
    · cases h1
    · cases h1
  · intro k c z hk
    simp only [l'] at hk
    split at hk
    · rename_i hc
      obtain ⟨a1, b, q1, q2⟩ := hm.xtd k c z hk
      exact ⟨hc.1, b, hrb (.own k) b hc.2 q1, q2⟩
    · cases hk
  · refine ⟨by rw [hle.nt]; exact he.1, fun d x hd => ?_⟩
    obtain ⟨y, h1, h2⟩ := hle.env d x hd
    obtain ⟨h3, h4⟩ := he.2 d y h1
    exact ⟨by rw [hle.nt]; exact h3, h2.sound him (fun f b o => cx_down st'.tok f b o) hrb htc hV (fun _ _ h _ => h) hxc (hle.okE d x hd) h4⟩
  · have h1 := hm.rbow k b hk
    simp only [l']
    rw [if_pos ⟨h1.2, fun ⟨k', h2, h3⟩ => by
      have := hm.inj _ _ _ hk h3
      cases this
      rw [hn] at h2
      cases h2⟩]


theorem cells_RDs {c c' : Cx} (hi : ∀ b o, c.im true b o → c.im false b o) (hi' : ∀ b o, c'.im true b o → c'.im false b o) (him : ∀ f b o, c.im f b o → c'.im f b o) {b : Nat} {cv : Array Value} {T : TypeId} (hb : w.heap[b]? = some (.cells cv T (0, 0))) : ∀ (cs : List AV) (ds : List D) (g : Bool) (o : Nat),
    toDs? cs = some (ds, g) → (∀ (j : Nat) (x : AV), cs[j]? = some x → ∃ v, cv[o + j]? = some v ∧ v.oneCell' = true ∧ RV w c x v) → (∀ j, c'.im true b j) → RDs w (c'.im true) (c'.im g) ds b o
  | [], ds, g, o, h, _, _ => by
    simp only [toDs?, Option.some.injEq, Prod.mk.injEq] at h
    obtain ⟨rfl, rfl⟩ := h
    simp [RDs]
  | x :: xs, ds, g, o, h, hx, hb2 => by
    simp only [toDs?, Option.bind_eq_some_iff, Option.map_eq_some_iff] at h
    obtain ⟨⟨d, bb⟩, h1, ⟨ds', g'⟩, h2, h3⟩ := h
    simp only [Prod.mk.injEq] at h3
    obtain ⟨rfl, rfl⟩ := h3
    obtain ⟨v, k1, k2, k3⟩ := hx 0 x rfl
    obtain ⟨_, k4⟩ := toD?_sound hi h1 k3
    simp only [RDs]
    have hdn : ∀ b o, c.im true b o → c.im false b o := hi
    refine ⟨hb2 o, ⟨v, (cell_in hb).trans k1, k2, RD.mono ?_ (fun _ _ _ => rfl) d v k4⟩, ?_⟩
    · intro b1 o1 h
      cases bb <;> cases g' <;> first | exact him _ _ _ h | exact him _ _ _ (hi _ _ h)
    · have := cells_RDs hi hi' him hb xs ds' g' (o + 1) h2 (fun j y hy => by have := hx (j + 1) y (by simpa using hy); rwa [show o + (j + 1) = o + 1 + j by omega] at this) hb2
      refine RDs.mono (fun _ _ h => h) (fun _ _ _ => rfl) ?_ (fun _ _ _ => rfl) ds' b (o + 1) this
      intro b1 o1 h
      cases bb <;> cases g' <;> first | exact h | exact hi' _ _ h

/-- An object of this frame whose cells are all data is held as a slice that nothing turns. -/
theorem EW.freeze {Fe : Fence} {Φ : Ex → St → Prop} {c : Code} {k : Nat} {cs : List AV} {ds : List D} {g : Bool} {nt : Nat} {E : List (Nat × AV)} {O : List (Nat × List AV)} {X : List (List AV)} {T : List (Nat × (Nat × Nat))} (F : List (Nat × Nat))
    (hk : st.own k = some cs) (hD : toDs? cs = some (ds, g)) (hle : St.le (St.lit nt E O X T) st) (hO : ofL O k = none) (hF : ∀ p ∈ F, (∃ o, st.env p.1 = some (.sm (.own k) p.2 o)) ∧ (p.2 = 0 → ds = []))
    (h : EW (Fe := Fe) P c (St.lit nt (F.map (fun p => (p.1, .sl true g .U .no p.2 ds)) ++ E) O X T) Φ) : EW (Fe := Fe) P c st Φ := by
  intro w0 w l a df Q hg hdf hP
  obtain ⟨l', h1, h2, h3, h4, h5, _⟩ := hg.leF hle
  refine h w0 w l' a df Q ⟨h1.1.env _ rfl rfl rfl, h1.2.1, fun d x hd => ?_⟩ (by rw [h2]; exact hdf) (by rw [h2, h3]; exact hP)
  have hsplit : (d, x) ∈ F.map (fun p => (p.1, AV.sl true g .U .no p.2 ds)) ∨ ofL E d = some x := by
    have key : ∀ (A B : List (Nat × AV)), ofL (A ++ B) d = some x → (d, x) ∈ A ∨ ofL B d = some x := by
      intro A
      induction A with
      | nil => intro B h; exact .inr h
      | cons p A ih =>
        intro B h
        simp only [List.cons_append, ofL] at h
        split at h
        · rename_i e
          cases h
          subst e
          exact .inl (by simp)
        · rcases ih B h with h | h
          · exact .inl (List.mem_cons_of_mem _ h)
          · exact .inr h
    exact key _ _ hd
  rcases hsplit with hd | hd
  · obtain ⟨p, hp, e⟩ := List.mem_map.1 hd
    simp only [Prod.mk.injEq] at e
    obtain ⟨rfl, rfl⟩ := e
    obtain ⟨⟨o, ho⟩, h0⟩ := hF p hp
    obtain ⟨q1, q2⟩ := hg.2.2 _ _ ho
    refine ⟨by have := hle.nt; show p.1 < nt; rw [show nt = st.nt from this]; exact q1, ?_⟩
    simp only [RV] at q2
    obtain ⟨ad, cap, r1, r2, r3, r4⟩ := q2
    simp only [RV, RS]
    refine ⟨ad, cap, r1, r2, ?_, trivial⟩
    rcases r3 with ⟨b, s1, s2⟩ | ⟨s1, s2⟩
    · subst s2
      refine ⟨.inl rfl, (fun h => by cases h), ?_⟩
      have s1' : l.rb (.own k) = some b := s1
      rcases hg.1.obj (.own k) cs hk with ⟨_, e⟩ | ⟨b', t1, cv, TT, t2, t3, t4⟩
      · rw [e] at s1'; cases s1'
      · rw [t1] at s1'
        cases s1'
        exact cells_RDs (fun b o => cx_down st.tok true b o) (fun b o => cx_down _ true b o) h5 t2 cs ds g 0 hD (fun j x hx => by rw [Nat.zero_add]; exact t4 j x hx) (fun j => .inl ⟨(hg.1.rbow k b t1).1, hg.1.rblt _ b t1, by rw [h4 k b t1 hO]; trivial⟩)
    · have e := h0 s1
      subst e
      cases ad with
      | none => exact ⟨s1, s2, rfl, (fun h => by cases h)⟩
      | some ad => exact ⟨.inr ⟨s1, rfl⟩, (fun h => by cases h), by simp [RDs]⟩
  · exact h1.2.2 d x hd

theorem MR.recell (h : MR w0 w l st) (j : Nat) (cs' : List AV) (hd : (st.own j).isSome = true) (ho : (cs' = [] ∧ l.rb (.own j) = none) ∨ ∃ b, l.rb (.own j) = some b ∧ objR w (cx w0 w l st.tok) b cs') (st' : St) (h1 : st'.own = upd st.own j cs') (h2 : st'.ext = st.ext) (h3 : st'.tok = st.tok) : MR w0 w l st' := by
  have hm : ∀ r, r ≠ .own j → st'.mem r = st.mem r := fun r hr => by
    cases r with
    | own k => have : k ≠ j := fun e => hr (by rw [e]); show st'.own k = st.own k; rw [h1]; simp [upd, this]
    | ext i => show st'.ext[i]? = st.ext[i]?; rw [h2]
  have hj : st'.mem (.own j) = some cs' := by show st'.own j = _; rw [h1]; simp [upd]
  refine ⟨h.os, h.tape, h.output, h.size, h.old, h.bel, h.ext, by rw [h2]; exact h.extn, h.inj, fun r b hr => ?_, fun r cs hr => ?_, h.rblt, h.rbow, h.owobj, h.owfree, h.owold, h.rdok, fun k b cap hk => by rw [h3]; exact h.tokd k b cap hk, h.tokinj, h.fzs, fun k c z hk => by rw [h3]; exact h.xtd k c z hk⟩
  · by_cases e : r = .own j
    · subst e; exact ⟨cs', hj⟩
    · rw [hm r e]; exact h.dom r b hr
  · by_cases e : r = .own j
    · subst e
      rw [hj] at hr
      cases hr
      rw [h3]; exact ho
    · rw [hm r e] at hr
      rw [h3]; exact h.obj r cs hr

theorem freeze_rv {a : Act} {l' : Lay} {tk' : Nat → Option (Nat × Nat)} {k n : Nat} {o : Own} {cs : List AV} {ds : List D} {g : Bool} {v : Value} (hg : Good w0 w l st a) (hk : st.own k = some cs) (hD : toDs? cs = some (ds, g))
    (h4 : ∀ b, l.rb (.own k) = some b → l'.ow b = .free) (h5 : ∀ f b o, (cx w0 w l st.tok).im f b o → (cx w0 w l' tk').im f b o) (h0 : n = 0 → ds = []) (q2 : RV w (cx w0 w l st.tok) (.sm (.own k) n o) v) : RV w (cx w0 w l' tk') (.sl true g .U .no n ds) v := by
  simp only [RV] at q2
  obtain ⟨ad, cap, r1, r2, r3, r4⟩ := q2
  simp only [RV, RS]
  refine ⟨ad, cap, r1, r2, ?_, trivial⟩
  rcases r3 with ⟨b, s1, s2⟩ | ⟨s1, s2⟩
  · subst s2
    refine ⟨.inl rfl, (fun h => by cases h), ?_⟩
    have s1' : l.rb (.own k) = some b := s1
    rcases hg.1.obj (.own k) cs hk with ⟨_, e⟩ | ⟨b', t1, cv, TT, t2, t3, t4⟩
    · rw [e] at s1'; cases s1'
    · rw [t1] at s1'
      cases s1'
      exact cells_RDs (fun b o => cx_down st.tok true b o) (fun b o => cx_down _ true b o) h5 t2 cs ds g 0 hD (fun j x hx => by rw [Nat.zero_add]; exact t4 j x hx) (fun j => .inl ⟨(hg.1.rbow k b t1).1, hg.1.rblt _ b t1, by rw [h4 b t1]; trivial⟩)
  · have e := h0 s1
    subst e
    cases ad with
    | none => exact ⟨s1, s2, rfl, (fun h => by cases h)⟩
    | some ad => exact ⟨.inr ⟨s1, rfl⟩, (fun h => by cases h), by simp [RDs]⟩

/-- The same, where the slice lies in a cell of another object. -/
theorem EW.freezeC {Fe : Fence} {Φ : Ex → St → Prop} {c : Code} {k j i n : Nat} {o : Own} {cs cj c0 : List AV} {ds : List D} {g : Bool} {nt : Nat} {E : List (Nat × AV)} {O : List (Nat × List AV)} {X : List (List AV)} {T : List (Nat × (Nat × Nat))}
    (hk : st.own k = some cs) (hD : toDs? cs = some (ds, g)) (hj : st.own j = some cj) (hi : cj[i]? = some (.sm (.own k) n o)) (hle : St.le (St.lit nt E O X T) st) (hO : ofL O k = none) (hOj : ofL O j = some c0) (h0 : n = 0 → ds = [])
    (h : EW (Fe := Fe) P c (St.lit nt E ((j, c0.set i (.sl true g .U .no n ds)) :: O) X T) Φ) : EW (Fe := Fe) P c st Φ := by
  intro w0 w l a df Q hg hdf hP
  obtain ⟨l', h1, h2, h3, h4, h5, h6⟩ := hg.leF hle
  have hm : MR w0 w l' (St.lit nt E ((j, c0.set i (.sl true g .U .no n ds)) :: O) X T) := by
    refine h1.1.recell j (c0.set i (.sl true g .U .no n ds)) (by show (ofL O j).isSome = true; rw [hOj]; rfl) ?_ _ rfl rfl rfl
    rcases h1.1.obj (.own j) c0 hOj with ⟨e1, e2⟩ | ⟨b, q1, cv, T1, q2, q3, q4⟩
    · exact .inl ⟨by rw [e1]; rfl, e2⟩
    · refine .inr ⟨b, q1, cv, T1, q2, by simpa using q3, fun m x hx => ?_⟩
      by_cases e : m = i
      · subst e
        have hb := h6 _ _ q1
        rcases hg.1.obj (.own j) cj hj with ⟨_, e2⟩ | ⟨b', t1, cv', T2, t2, t3, t4⟩
        · rw [e2] at hb; cases hb
        · rw [t1] at hb
          cases hb
          rw [q2] at t2
          cases t2
          obtain ⟨v, u1, u2, u3⟩ := t4 _ _ hi
          have hx' : x = .sl true g .U .no n ds := by
            rw [List.getElem?_set] at hx
            split at hx
            · split at hx
              · cases hx; rfl
              · cases hx
            · rename_i hne; exact absurd rfl hne
          subst hx'
          exact ⟨v, u1, u2, freeze_rv hg hk hD (fun b hb => h4 k b hb hO) h5 h0 u3⟩
      · rw [List.getElem?_set_ne (fun h => e h.symm)] at hx
        exact q4 m x hx
  exact h w0 w l' a df Q ⟨hm, h1.2⟩ (by rw [h2]; exact hdf) (by rw [h2, h3]; exact hP)

@[simp] theorem run_grow (s : St) (o : Oper) (F : List Ref) (x : AV) (d : Nat) (cs : List AV) (p : Nat × Nat) : (X.grow x d cs p).run s o F = .go (St.put { (s.purge d) with own := upd (s.purge d).own d cs, tok := upd (s.purge d).tok (XK d) p } o.dst x) := rfl
/-- What an append or a new slice at dst d lays may be turned afterwards. -/
theorem gs_mut {d : Int} {o : Out} {L : List (FuncId × List AV × List (List AV) × Out)} (hL : Sound P (gOf L)) : Sound P (gOf ((YID, [.s (.int .i64 d)], [], o) :: L)) :=
  gs_cons (by unfold ACalls; rw [if_pos rfl]; exact .inl ⟨d, rfl⟩) hL
end Go.Ev
end
