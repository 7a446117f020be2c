/- Lemmas for the claims of this seat: an evaluator over abstract values, its soundness, and the contracts of the functions of melt that it walks; no premise beyond what each theorem states. -/
import Derived.Test.YtdcelpomnboeoaaKB

section
set_option linter.all false
set_option linter.unusedVariables false
set_option linter.unusedSimpArgs false
namespace Go.Ev
variable {w0 w : World} {l : Lay} {st : St} {P : Program}

/-! ### Slices that may be turned, and grow -/
theorem refsL_mem {r : Ref} : ∀ {xs : List AV}, r ∉ refsL xs → ∀ x ∈ xs, r ∉ x.refs
  | [], _, x, hx => by cases hx
  | y :: ys, h, x, hx => by
    simp only [refsL, List.mem_append, not_or] at h
    rcases List.mem_cons.1 hx with rfl | hx
    · exact h.1
    · exact refsL_mem h.2 x hx
mutual
theorem RV.off {c c' : Cx} {d : Nat} (him : ∀ f b o, c.im f b o → c'.im f b o) (hr : ∀ r b, r ≠ .own d → c.rb r = some b → c'.rb r = some b) (ht : ∀ k n a cap, c.tc k n a cap → c'.tc k n a cap) (hz : ∀ b, c.fz b → c'.fz b)
    (hx : ∀ k z cap, k ≠ d → c.xc k z cap → c'.xc k z cap) : ∀ (x : AV) (v : Value), Ref.own d ∉ x.refs → RV w c x v → RV w c' x v
  | .s x, v, _, hv => by simpa [RV] using hv
  | .sl f g k o n cs, v, hok, hv => by
    simp only [RV] at hv ⊢
    obtain ⟨a, cap, h1, h2, h3, h4⟩ := hv
    refine ⟨a, cap, h1, h2, ?_, ?_⟩
    · cases a with
      | none => exact h3
      | some ad => exact ⟨h3.1, h3.2.1, RDs.mono (him _) (fun _ _ _ => rfl) (him _) (fun _ _ _ => rfl) _ _ _ h3.2.2⟩
    · cases o with
      | no => trivial
      | full => exact h4
      | tok key => exact ht _ _ _ _ h4
      | grw _ _ => exact h4.elim
  | .sm r n o, v, hok, hv => by
    simp only [AV.refs, List.mem_singleton] at hok
    have hne : r ≠ .own d := fun e => hok e.symm
    simp only [RV] at hv ⊢
    obtain ⟨a, cap, h1, h2, h3, h4⟩ := hv
    refine ⟨a, cap, h1, h2, h3.imp (fun ⟨b, x, y⟩ => ⟨b, hr _ _ hne x, y⟩) id, ?_⟩
    cases o with
    | no => trivial
    | full => exact h4.elim
    | tok _ => exact h4.elim
    | grw k z => exact ⟨h4.1, hx k z cap (fun e => hne (by rw [h4.1, e])) h4.2⟩
  | .ptr r off, v, hok, hv => by
    simp only [AV.refs, List.mem_singleton] at hok
    simp only [RV] at hv ⊢; obtain ⟨b, h1, h2⟩ := hv; exact ⟨b, hr _ _ (fun e => hok e.symm) h1, h2⟩
  | .pv f g cs, v, _, hv => by simp only [RV] at hv ⊢; obtain ⟨b, o, h1, h2⟩ := hv; exact ⟨b, o, h1, RDs.mono (him _) (fun _ _ _ => rfl) (him _) (fun _ _ _ => rfl) _ _ _ h2⟩
  | .fn f cap, v, hok, hv => by simp only [AV.refs] at hok; simp only [RV] at hv ⊢; obtain ⟨vs, h1, h2⟩ := hv; exact ⟨vs, h1, RVs.off him hr ht hz hx cap vs hok h2⟩
  | .ifc t x, v, hok, hv => by simp only [AV.refs] at hok; simp only [RV] at hv ⊢; obtain ⟨y, h1, h2⟩ := hv; exact ⟨y, h1, RV.off him hr ht hz hx x y hok h2⟩
  | .agg cs, v, hok, hv => by simp only [AV.refs] at hok; simp only [RV] at hv ⊢; obtain ⟨vs, h1, h2⟩ := hv; exact ⟨vs, h1, RVs.off him hr ht hz hx cs vs hok h2⟩
  | .tup xs, v, hok, hv => by simp only [AV.refs] at hok; simp only [RV] at hv ⊢; obtain ⟨vs, h1, h2⟩ := hv; exact ⟨vs, h1, RVs.off him hr ht hz hx xs vs hok h2⟩
  | .junk, _, _, _ => by simp [RV]
  | .yl l G rs, v, hok, hv => by
    simp only [AV.refs] at hok
    simp only [RV] at hv ⊢
    exact ⟨hv.1, hz _ hv.2.fz, hv.2.lp, fun b o hb => ⟨him _ _ _ (hv.2.rd b o hb).1, (hv.2.rd b o hb).2⟩, hv.2.rs.imp fun r hr2 b => hr r b (fun e => hok (e ▸ hr2))⟩
theorem RVs.off {c c' : Cx} {d : Nat} (him : ∀ f b o, c.im f b o → c'.im f b o) (hr : ∀ r b, r ≠ .own d → c.rb r = some b → c'.rb r = some b) (ht : ∀ k n a cap, c.tc k n a cap → c'.tc k n a cap) (hz : ∀ b, c.fz b → c'.fz b)
    (hx : ∀ k z cap, k ≠ d → c.xc k z cap → c'.xc k z cap) : ∀ (xs : List AV) (vs : List Value), Ref.own d ∉ refsL xs → RVs w c xs vs → RVs w c' xs vs
  | [], vs, _, hv => by simpa [RVs] using hv
  | x :: xs, vs, hok, hv => by
    simp only [refsL, List.mem_append, not_or] at hok
    simp only [RVs] at hv ⊢
    obtain ⟨v, r, h1, h2, h3⟩ := hv
    exact ⟨v, r, h1, RV.off him hr ht hz hx x v hok.1 h2, RVs.off him hr ht hz hx xs r hok.2 h3⟩
end
theorem mentions_false {d : Nat} {x : AV} (h : x.mentions d = false) : Ref.own d ∉ x.refs := by simpa [AV.mentions] using h

/-- An object moves, or is laid anew; whatever spoke of it is forgotten. -/
theorem Good.regrow {a : Act} (h : Good w0 w l st a) (d b cap z : Nat) (cs : List AV) (cv : Array Value) (T : TypeId) (w' : World) (e1 : w'.os = w.os) (e2 : w'.tape = w.tape) (e3 : w'.output = w.output) (hsz : w.heap.size ≤ w'.heap.size)
    (hold : ∀ k, k < w.heap.size → k ≠ b → w'.heap[k]? = w.heap[k]?) (hnew : ∀ k, w.heap.size ≤ k → k < w'.heap.size → k = b) (hb : w'.heap[b]? = some (.cells cv T (0, 0))) (hbw : w.heap.size ≤ b ∨ l.rb (.own d) = some b)
    (hcs : cs.length ≤ cv.size) (hcells : ∀ (j : Nat) (x : AV), cs[j]? = some x → ∃ v, cv[j]? = some v ∧ v.oneCell' = true ∧ Ref.own d ∉ x.refs ∧ RV w (cx w0 w l st.tok) x v) (hcap : cap * z ≤ cv.size) (htk : st.tok (XK d) = none ∨ st.tok (XK d) = some (0, z)) :
    ∃ l', Good w0 w' l' { st.purge d with own := upd (st.purge d).own d cs, tok := upd st.tok (XK d) (0, z) } a ∧ l'.rb (.own d) = some b ∧ l'.xt d = some (cap, z) ∧ l'.rd = l.rd ∧ l'.be = l.be := by
  obtain ⟨hm, he⟩ := h
  let l' : Lay := { l with
    rb := fun r => if r = .own d then some b else l.rb r
    ow := fun k => if k = b then .obj else if l.rb (.own d) = some k then .free else l.ow k
    xt := fun k => if k = d then some (cap, z) else l.xt k }
  let tk' := upd st.tok (XK d) (0, z)
  let st' : St := { st.purge d with own := upd (st.purge d).own d cs, tok := tk' }
  have hblt : b < w'.heap.size := (Array.getElem?_eq_some_iff.1 hb).1
  have hb0 : w0.heap.size ≤ b := by
    rcases hbw with h | h
    · exact Nat.le_trans hm.size h
    · exact (hm.rbow d b h).1
  have hrne : ∀ r b', r ≠ .own d → l.rb r = some b' → b' ≠ b := fun r b' hr hb' e => by
    subst e
    rcases hbw with h | h
    · exact absurd (hm.rblt _ _ hb') (Nat.not_lt.2 h)
    · exact hr (hm.inj _ _ _ hb' h)
  have hlow : ∀ b', b' < w.heap.size → l.ow b' ≠ .obj → b' ≠ b := fun b' h1 h2 e => by
    subst e
    rcases hbw with h | h
    · exact absurd h1 (Nat.not_lt.2 h)
    · exact h2 (hm.rbow d _ h).2
  have how : ∀ b', b' < w.heap.size → l.ow b' ≠ .obj → l'.ow b' = l.ow b' := fun b' h1 h2 => by
    simp only [l']
    rw [if_neg (hlow b' h1 h2), if_neg (fun e => h2 (hm.rbow d _ e).2)]
  have htc : ∀ k n a cap, (cx w0 w l st.tok).tc k n a cap → (cx w0 w' l' tk').tc k n a cap := fun k n a cap ⟨n', z', h1, h2, h3⟩ => by
    by_cases e : k = XK d
    · subst e
      rcases htk with h | h
      · rw [h] at h1; cases h1
      · rw [h] at h1; cases h1; exact ⟨0, z, by simp [tk', upd], h2, h3⟩
    · exact ⟨n', z', by simp [tk', upd, e, h1], h2, h3⟩
  have hfresh : ∀ b' o, fresh w0 w l b' o → fresh w0 w' l' b' o ∧ w'.cell? ⟨b', o, none⟩ = w.cell? ⟨b', o, none⟩ := fun b' o hf => by
    have hno : l.ow b' ≠ .obj := fun e => by have := hf.2.2; rw [e] at this; exact this
    exact ⟨⟨hf.1, Nat.lt_of_lt_of_le hf.2.1 hsz, by rw [how b' hf.2.1 hno]; exact hf.2.2⟩, cell_of_heap (hold b' hf.2.1 (hlow b' hf.2.1 hno))⟩
  have hDn : ∀ D, D ∈ l.rd.d ++ l.rd.e → w'.heap[D]? = w.heap[D]? := fun D hD => by
    have h4 := hm.fzs.de D hD
    exact hold D h4.2.1 (hlow D h4.2.1 (by rw [h4.2.2]; simp))
  have hold0 : ∀ b', b' < w0.heap.size → b' ∉ l.be → w'.heap[b']? = w0.heap[b']? := fun b' h1 h2 =>
    (hold b' (Nat.lt_of_lt_of_le h1 hm.size) (fun e => by omega)).trans (hm.old b' h1 h2)
  have hcell : ∀ f b' o, (cx w0 w l st.tok).im f b' o → w'.cell? ⟨b', o, none⟩ = w.cell? ⟨b', o, none⟩ := fun f b' o hi => by
    rcases hi with hi | ⟨_, h2⟩
    · exact (hfresh b' o hi).2
    · have := hm.rdok b' o h2
      exact cell_of_heap ((hold0 b' this.1 this.2).trans (hm.old b' this.1 this.2).symm)
  have him : ∀ f b' o, (cx w0 w l st.tok).im f b' o → (cx w0 w' l' tk').im f b' o := fun f b' o hi => by
    rcases hi with hi | h2
    · exact .inl (hfresh b' o hi).1
    · exact .inr h2
  have to' : ∀ x v, Ref.own d ∉ x.refs → RV w (cx w0 w l st.tok) x v → RV w' (cx w0 w' l' tk') x v := fun x v hx hv => by
    -- first the world, in a context without the object; then the names
    let c1 : Cx := { cx w0 w l st.tok with rb := fun r => if r = .own d then none else l.rb r, xc := fun k z' c => k ≠ d ∧ (cx w0 w l st.tok).xc k z' c }
    have h1 : RV w c1 x v := RV.off (c := cx w0 w l st.tok) (c' := c1) (d := d) (fun _ _ _ h => h) (fun r b hr h => by simp only [c1, if_neg hr]; exact h) (fun _ _ _ _ h => h) (fun _ h => h) (fun k z' c hk h => ⟨hk, h⟩) x v hx hv
    refine RV.mono (c := c1) (c' := cx w0 w' l' tk') ⟨him, hcell, fun r b' hr => ?_, htc, fun _ h => h, fun b' hz => ?_, fun k z' c hk => ?_⟩ x v h1
    · simp only [c1] at hr
      split at hr
      · cases hr
      · rename_i hne; show (if r = .own d then some b else l.rb r) = some b'; rw [if_neg hne]; exact hr
    · rcases hz with hz | hz
      · have := hm.fzs.z b' hz
        exact (hold0 b' this.1 this.2).trans (hm.old b' this.1 this.2).symm
      · exact hDn b' hz
    · show (match (if k = d then some (cap, z) else l.xt k) with | some (c', z'') => c = c' ∧ z' = z'' | none => c = 0)
      rw [if_neg hk.1]; exact hk.2
  have hpur : ∀ x v, RV w (cx w0 w l st.tok) x v → RV w' (cx w0 w' l' tk') (purgeAV d x) v := fun x v hv => by
    unfold purgeAV
    split
    · simp [RV]
    · rename_i hn; exact to' x v (mentions_false (by simpa using hn)) hv
  have hmem : ∀ r, r ≠ .own d → st'.mem r = (st.mem r).map (List.map (purgeAV d)) := fun r hr => by
    cases r with
    | own k => have : k ≠ d := fun e => hr (by rw [e]); simp [St.mem, st', upd, this, St.purge]
    | ext i => simp [St.mem, st', St.purge]
  have hself : st'.mem (.own d) = some cs := by simp [St.mem, st', upd]
  have hmr : MR w0 w' l' st' := by
    refine ⟨e1.trans hm.os, e2.trans hm.tape, e3.trans hm.output, Nat.le_trans hm.size hsz, hold0, hm.bel, ?_, by simp [st', St.purge, l', hm.extn], ?_, ?_, ?_, ?_, ?_, ?_, ?_, ?_, hm.rdok, ?_, hm.tokinj, hm.fzs.step hsz hDn (fun D hD ho => by rw [how D hD (by rw [ho]; simp)]; exact ho) rfl rfl, ?_⟩
    · intro i; simp only [l']; rw [if_neg (by simp)]; exact hm.ext i
    · intro r r' b' h1 h2
      simp only [l'] at h1 h2
      split at h1 <;> split at h2
      · rename_i a c; rw [a, c]
      · rename_i a c; cases h1; exact absurd rfl (hrne r' _ c h2)
      · rename_i a c; cases h2; exact absurd rfl (hrne r _ a h1)
      · exact hm.inj _ _ _ h1 h2
    · intro r b' h1
      by_cases e : r = .own d
      · subst e; exact ⟨cs, hself⟩
      · simp only [l', if_neg e] at h1
        obtain ⟨cs1, h2⟩ := hm.dom r b' h1
        exact ⟨_, by rw [hmem r e, h2]; rfl⟩
    · intro r cs2 h1
      by_cases e : r = .own d
      · subst e
        rw [hself] at h1
        cases h1
        refine .inr ⟨b, by simp [l'], cv, T, hb, hcs, fun j x hj => ?_⟩
        obtain ⟨v, q1, q2, q3, q4⟩ := hcells j x hj
        exact ⟨v, q1, q2, to' x v q3 q4⟩
      · rw [hmem r e, Option.map_eq_some_iff] at h1
        obtain ⟨cs1, h2, rfl⟩ := h1
        rcases hm.obj r cs1 h2 with ⟨q1, q2⟩ | ⟨b1, q1, cv1, T1, q2, q3, q4⟩
        · exact .inl ⟨by rw [q1]; rfl, by simp only [l', if_neg e]; exact q2⟩
        · refine .inr ⟨b1, by simp only [l', if_neg e]; exact q1, cv1, T1, (hold b1 (hm.rblt _ _ q1) (hrne r b1 e q1)).trans q2, by simpa using q3, fun j x hj => ?_⟩
          rw [List.getElem?_map, Option.map_eq_some_iff] at hj
          obtain ⟨y, hy, rfl⟩ := hj
          obtain ⟨v, a1, a2, a3⟩ := q4 j y hy
          exact ⟨v, a1, a2, hpur y v a3⟩
    · intro r b' h1
      simp only [l'] at h1
      split at h1
      · cases h1; exact hblt
      · exact Nat.lt_of_lt_of_le (hm.rblt _ _ h1) hsz
    · intro k b' h1
      simp only [l'] at h1 ⊢
      split at h1
      · cases h1; exact ⟨hb0, by simp⟩
      · rename_i hne
        have := hm.rbow k b' h1
        rw [if_neg (hrne _ _ hne h1), if_neg (fun e => hne (hm.inj _ _ _ h1 e))]
        exact this
    · intro b' h1
      simp only [l'] at h1
      split at h1
      · rename_i e; exact ⟨d, by simp [l', e]⟩
      · split at h1
        · cases h1
        · rename_i q1 q2
          obtain ⟨k, hk⟩ := hm.owobj b' h1
          refine ⟨k, ?_⟩
          simp only [l']
          rw [if_neg (fun e => q2 (by rw [← e]; exact hk))]
          exact hk
    · intro b' h1
      simp only [l']
      rw [if_neg (by omega)]
      split
      · rfl
      · exact hm.owfree b' (by omega)
    · intro b' h1
      simp only [l']
      rw [if_neg (by omega)]
      split
      · rfl
      · exact hm.owold b' h1
    · intro k b' c hk
      obtain ⟨n, z1, a1, a2, a3, a4, a5, cv1, T1, a6, a7⟩ := hm.tokd k b' c hk
      have hno : l.ow b' ≠ .obj := by rw [a2]; simp
      refine ⟨n, z1, ?_, by rw [how b' a4 hno]; exact a2, a3, Nat.lt_of_lt_of_le a4 hsz, a5, cv1, T1, (hold b' a4 (hlow b' a4 hno)).trans a6, a7⟩
      show upd st.tok (XK d) (0, z) k = some (n, z1)
      by_cases e : k = XK d
      · subst e
        rcases htk with h | h
        · rw [h] at a1; cases a1
        · rw [h] at a1; cases a1; simp [upd]
      · simp [upd, e, a1]
    · intro k c z1 hk
      simp only [l'] at hk
      split at hk
      · rename_i e
        cases hk
        exact ⟨by show (upd st.tok (XK d) (0, z) (XK k)).isSome = true; simp only [upd]; rw [if_pos (by rw [e])]; rfl, b, by simp [l', e], cv, T, hb, hcap⟩
      · rename_i e
        obtain ⟨a1, b1, q1, cv1, T1, q2, q3⟩ := hm.xtd k c z1 hk
        have hne : Ref.own k ≠ .own d := fun e2 => e (by cases e2; rfl)
        exact ⟨by show (upd st.tok (XK d) (0, z) (XK k)).isSome = true; simp only [upd]; split; rfl; exact a1, b1, by simp only [l', if_neg hne]; exact q1, cv1, T1, (hold b1 (hm.rblt _ _ q1) (hrne _ b1 hne q1)).trans q2, q3⟩
  refine ⟨l', ⟨hmr, he.1, fun e x hx => ?_⟩, by simp [l'], by simp [l'], rfl, rfl⟩
  have hx' : (st.env e).map (purgeAV d) = some x := hx
  rw [Option.map_eq_some_iff] at hx'
  obtain ⟨y, hy, rfl⟩ := hx'
  exact ⟨(he.2 e y hy).1, hpur y _ (he.2 e y hy).2⟩
end Go.Ev
end

section
set_option linter.all false
set_option linter.unusedVariables false
set_option linter.unusedSimpArgs false
namespace Go.Ev
variable {w0 w : World} {l : Lay} {st : St} {P : Program}

theorem noMen_get {d : Nat} {xs : List AV} (h : noMen d xs = true) {j : Nat} {x : AV} (hj : xs[j]? = some x) : Ref.own d ∉ x.refs := by
  have := List.all_eq_true.1 h x (List.mem_of_getElem? hj)
  exact mentions_false (by simpa using this)
/-- An object without a block. -/
theorem Good.regrow0 {a : Act} (h : Good w0 w l st a) (d z : Nat) (hno : l.rb (.own d) = none) (htk : st.tok (XK d) = none ∨ st.tok (XK d) = some (0, z)) :
    Good w0 w l { st.purge d with own := upd (st.purge d).own d [], tok := upd st.tok (XK d) (0, z) } a ∧ l.xt d = none := by
  obtain ⟨hm, he⟩ := h
  let tk' := upd st.tok (XK d) (0, z)
  let st' : St := { st.purge d with own := upd (st.purge d).own d [], tok := tk' }
  have hxt : l.xt d = none := by
    cases hx : l.xt d with
    | none => rfl
    | some q => obtain ⟨_, b, q1, _⟩ := hm.xtd d q.1 q.2 hx; rw [hno] at q1; cases q1
  have htc : ∀ k n a cap, (cx w0 w l st.tok).tc k n a cap → (cx w0 w l tk').tc k n a cap := fun k n a cap ⟨n', z', h1, h2, h3⟩ => by
    by_cases e : k = XK d
    · subst e
      rcases htk with h | h
      · rw [h] at h1; cases h1
      · rw [h] at h1; cases h1; exact ⟨0, z, by simp [tk', upd], h2, h3⟩
    · exact ⟨n', z', by simp [tk', upd, e, h1], h2, h3⟩
  have hle : Cx.le w (cx w0 w l st.tok) w (cx w0 w l tk') := ⟨fun _ _ _ h => h, fun _ _ _ _ => rfl, fun _ _ h => h, htc, fun _ h => h, fun _ _ => rfl, fun _ _ _ h => h⟩
  have hpur : ∀ x v, RV w (cx w0 w l st.tok) x v → RV w (cx w0 w l tk') (purgeAV d x) v := fun x v hv => by
    unfold purgeAV
    split
    · simp [RV]
    · exact RV.mono hle x v hv
  have hmem : ∀ r, r ≠ .own d → st'.mem r = (st.mem r).map (List.map (purgeAV d)) := fun r hr => by
    cases r with
    | own k => have : k ≠ d := fun e => hr (by rw [e]); simp [St.mem, st', upd, this, St.purge]
    | ext i => simp [St.mem, st', St.purge]
  have hself : st'.mem (.own d) = some [] := by simp [St.mem, st', upd]
  refine ⟨⟨⟨hm.os, hm.tape, hm.output, hm.size, hm.old, hm.bel, hm.ext, by simp [St.purge, hm.extn], hm.inj, fun r b hr => ?_, fun r cs hr => ?_, hm.rblt, hm.rbow, hm.owobj, hm.owfree, hm.owold, hm.rdok, fun k b c hk => ?_, hm.tokinj, hm.fzs, fun k c z1 hk => ?_⟩, he.1, fun e x hx => ?_⟩, hxt⟩
  · show ∃ cs, st'.mem r = some cs
    by_cases e : r = .own d
    · subst e; exact ⟨_, hself⟩
    · obtain ⟨cs1, h2⟩ := hm.dom r b hr
      exact ⟨_, by rw [hmem r e, h2]; rfl⟩
  · have hr : st'.mem r = some cs := hr
    by_cases e : r = .own d
    · subst e; rw [hself] at hr; cases hr; exact .inl ⟨rfl, hno⟩
    · rw [hmem r e, Option.map_eq_some_iff] at hr
      obtain ⟨cs1, h2, rfl⟩ := hr
      rcases hm.obj r cs1 h2 with ⟨q1, q2⟩ | ⟨b1, q1, cv1, T1, q2, q3, q4⟩
      · exact .inl ⟨by rw [q1]; rfl, q2⟩
      · refine .inr ⟨b1, q1, cv1, T1, q2, by simpa using q3, fun j x hj => ?_⟩
        rw [List.getElem?_map, Option.map_eq_some_iff] at hj
        obtain ⟨y, hy, rfl⟩ := hj
        obtain ⟨v, a1, a2, a3⟩ := q4 j y hy
        exact ⟨v, a1, a2, hpur y v a3⟩
  · obtain ⟨n, z1, a1, a2⟩ := hm.tokd k b c hk
    refine ⟨n, z1, ?_, a2⟩
    show upd st.tok (XK d) (0, z) k = some (n, z1)
    by_cases e : k = XK d
    · subst e
      rcases htk with h | h
      · rw [h] at a1; cases a1
      · rw [h] at a1; cases a1; simp [upd]
    · simp [upd, e, a1]
  · obtain ⟨a1, q⟩ := hm.xtd k c z1 hk
    exact ⟨by show (upd st.tok (XK d) (0, z) (XK k)).isSome = true; simp only [upd]; split; rfl; exact a1, q⟩
  · have hx' : (st.env e).map (purgeAV d) = some x := hx
    rw [Option.map_eq_some_iff] at hx'
    obtain ⟨y, hy, rfl⟩ := hx'
    exact ⟨(he.2 e y hy).1, hpur y _ (he.2 e y hy).2⟩

theorem first0 (w' : World) (size : Nat) (a : Option Addr) (cap : Nat) : (Builtin.firstCells size 0 (.slice a 0 cap)).run P w' = .ok #[] w' := by
  cases a <;> simp [Builtin.firstCells, loadCells, loadCellsFrom]
/-- The cells of what is appended. -/
theorem new_cells {y : AV} {m size : Nat} {new : List AV} {v2 : Value} (hm : MR w0 w l st) (h : newCells st.own y = some (m, new)) (hl : new.length = m * size) (hv : RV w (cx w0 w l st.tok) y v2) :
    ∃ (a2 : Option Addr) (cap2 : Nat) (news : List Value), v2 = .slice a2 m cap2 ∧ news.length = m * size ∧ (∀ w', w'.heap = w.heap → (Builtin.firstCells size m (.slice a2 m cap2)).run P w' = .ok news.toArray w') ∧
      (∀ (j : Nat) (x : AV), new[j]? = some x → ∃ v, news[j]? = some v ∧ v.oneCell' = true ∧ RV w (cx w0 w l st.tok) x v) ∧ ∀ u ∈ news, u.oneCell' = true := by
  unfold newCells at h
  split at h
  · rename_i f g k o m' ds
    cases h
    simp only [RV] at hv
    obtain ⟨a2, cap2, rfl, h2, h3, h4⟩ := hv
    obtain ⟨us, q1, q2, q3, q4, _⟩ := slice_cells (P := P) (size := size) ⟨a2, cap2, rfl, h2, h3, h4⟩ (by simpa using hl)
    refine ⟨a2, cap2, us, rfl, q1, q2, fun j x hj => ?_, q4⟩
    rw [List.getElem?_map, Option.map_eq_some_iff] at hj
    obtain ⟨d, hd, rfl⟩ := hj
    obtain ⟨v, a1, a2, a3⟩ := q3 j d hd
    exact ⟨v, a1, a2, av_of_D a3⟩
  · rename_i k m' o
    obtain ⟨cs, h1, h2⟩ := bnd_eq h
    cases h2
    simp only [RV] at hv
    obtain ⟨a2, cap2, rfl, h2, h3, _⟩ := hv
    rcases hm.obj (.own k) new h1 with ⟨e0, e1⟩ | ⟨b, e1, cv, T, q2, q3, q4⟩
    · subst e0
      simp only [List.length_nil] at hl
      refine ⟨a2, cap2, [], rfl, by simpa using hl, fun w' _ => ?_, fun j x hj => by simp at hj, by simp⟩
      rcases h3 with ⟨b, hb, rfl⟩ | ⟨rfl, rfl⟩
      · rw [show (cx w0 w l st.tok).rb (.own k) = l.rb (.own k) from rfl, e1] at hb; cases hb
      · exact first0 w' size a2 0
    · rcases h3 with ⟨b', hb, rfl⟩ | ⟨rfl, rfl⟩
      · rw [show (cx w0 w l st.tok).rb (.own k) = l.rb (.own k) from rfl, e1] at hb
        cases hb
        have hlen : (cv.toList.take (m * size)).length = m * size := by simp; omega
        refine ⟨_, cap2, cv.toList.take (m * size), rfl, hlen, fun w' hw => ?_, fun j x hj => ?_, fun u hu => ?_⟩
        · refine run_firstCells_some w' size m ⟨b, 0, none⟩ m cap2 _ hlen (fun j v hj => ?_)
          rw [Addr.add_lit, Nat.zero_add]
          have : j < m * size := by have := (List.getElem?_eq_some_iff.1 hj).1; omega
          rw [List.getElem?_take, if_pos this, Array.getElem?_toList] at hj
          simpa [World.cell?, hw, q2] using hj
        · obtain ⟨v, a1, a2, a3⟩ := q4 j x hj
          have : j < m * size := by have := (List.getElem?_eq_some_iff.1 hj).1; omega
          exact ⟨v, by rw [List.getElem?_take, if_pos this, Array.getElem?_toList]; exact a1, a2, a3⟩
        · obtain ⟨j, hj⟩ := List.getElem?_of_mem hu
          have hlt : j < m * size := by have := (List.getElem?_eq_some_iff.1 hj).1; omega
          rw [List.getElem?_take, if_pos hlt, Array.getElem?_toList] at hj
          obtain ⟨v, a1, a2, a3⟩ := q4 j (new[j]'(by omega)) (List.getElem?_eq_getElem (by omega))
          rw [hj] at a1; cases a1; exact a2
      · simp only [Nat.zero_mul] at hl
        have : new = [] := List.length_eq_zero_iff.1 hl
        subst this
        exact ⟨a2, 0, [], rfl, by simp, fun w' _ => first0 w' size a2 0, fun j x hj => by simp at hj, by simp⟩
  · cases h
end Go.Ev
end

section
set_option linter.all false
set_option linter.unusedVariables false
set_option linter.unusedSimpArgs false
namespace Go.Ev
variable {w0 w : World} {l : Lay} {st : St} {P : Program}

/-- The state with an object that has grown. -/
abbrev St.grown (st : St) (d : Nat) (cs : List AV) (z : Nat) : St := { st.purge d with own := upd (st.purge d).own d cs, tok := upd st.tok (XK d) (0, z) }
/-- What an operation leaves that lets an object grow. -/
def GrowDone (P : Program) (w0 w : World) (l : Lay) (st : St) (a : Act) (s : Sem Value) (d n z : Nat) (cs : List AV) : Prop :=
  ∃ v w' l', s.run P w = .ok v w' ∧ Good w0 w' l' (st.grown d cs z) a ∧ RV w' (cx w0 w' l' (upd st.tok (XK d) (0, z))) (.sm (.own d) n (.grw d z)) v ∧ l'.rd = l.rd ∧ l'.be = l.be

theorem grown_rv {w' : World} {l' : Lay} {tk : Nat → Option (Nat × Nat)} {d b n cap z : Nat} (h1 : l'.rb (.own d) = some b) (h2 : l'.xt d = some (cap, z)) (hn : n ≤ cap) : RV w' (cx w0 w' l' tk) (.sm (.own d) n (.grw d z)) (.slice (some ⟨b, 0, none⟩) n cap) := by
  simp only [RV]
  refine ⟨_, cap, rfl, hn, .inl ⟨b, h1, rfl⟩, rfl, ?_⟩
  show (match l'.xt d with | some (c, z') => cap = c ∧ z = z' | none => cap = 0)
  rw [h2]; exact ⟨rfl, rfl⟩

/-- What is known of the old slice. -/
def OldR (w0 w : World) (l : Lay) (st : St) (d n z : Nat) (old : List AV) (a : Option Addr) (cap : Nat) : Prop :=
  (n = 0 ∧ cap = 0 ∧ old = []) ∨
  (∃ (b : Nat) (cv : Array Value) (T : TypeId), a = some ⟨b, 0, none⟩ ∧ l.rb (.own d) = some b ∧ w.heap[b]? = some (.cells cv T (0, 0)) ∧ cap * z ≤ cv.size ∧ n ≤ cap ∧
    ∀ (j : Nat) (x : AV), old[j]? = some x → ∃ v, cv[j]? = some v ∧ v.oneCell' = true ∧ RV w (cx w0 w l st.tok) x v)

theorem grow_append {ts : Array TypeId} {ty d n m : Nat} {e e2 : TypeId} {new old : List AV} {X' : X} {a : Act} {ad a2 : Option Addr} {cap cap2 : Nat} {news : List Value} (h : Good w0 w l st a)
    (he : fAppendX P st.own st.tok d e n m new old = some X') (ht1 : tdesc P ts[0]? = some (.slice e)) (ht2 : tdesc P ts[1]? = some (.slice e2)) (hold : OldR w0 w l st d n (P.cellsOf e) old ad cap)
    (hn1 : news.length = m * P.cellsOf e) (hn2 : ∀ w', w'.heap = w.heap → (Builtin.firstCells (P.cellsOf e) m (.slice a2 m cap2)).run P w' = .ok news.toArray w')
    (hn3 : ∀ (j : Nat) (x : AV), new[j]? = some x → ∃ v, news[j]? = some v ∧ v.oneCell' = true ∧ RV w (cx w0 w l st.tok) x v) (hn4 : ∀ u ∈ news, u.oneCell' = true) :
    X' = .grow (.sm (.own d) (n + m) (.grw d (P.cellsOf e))) d (old ++ new) (0, P.cellsOf e) ∧ GrowDone P w0 w l st a (Builtin.append_ ts ty #[.slice ad n cap, .slice a2 m cap2]) d (n + m) (P.cellsOf e) (old ++ new) := by
  obtain ⟨t1, hts1, hu1⟩ := tdesc_some ht1
  obtain ⟨t2, hts2, hu2⟩ := tdesc_some ht2
  unfold fAppendX at he
  split at he
  case isFalse => cases he
  rename_i hc
  cases he
  refine ⟨rfl, ?_⟩
  obtain ⟨c1, c2, c3, c4, c5, c6, c7, c8, c9⟩ := hc
  obtain ⟨i, zv, hi, hz, hzs, his, hib⟩ := zeroOk_spec c6
  rw [← his] at hn2
  have hcellsO : ∀ (cvs : Array Value), (∀ (j : Nat) (x : AV), old[j]? = some x → ∃ v, cvs[j]? = some v ∧ v.oneCell' = true ∧ RV w (cx w0 w l st.tok) x v) → (∀ (j : Nat) (v : Value), news[j]? = some v → cvs[n * P.cellsOf e + j]? = some v) →
      ∀ (j : Nat) (x : AV), (old ++ new)[j]? = some x → ∃ v, cvs[j]? = some v ∧ v.oneCell' = true ∧ Ref.own d ∉ x.refs ∧ RV w (cx w0 w l st.tok) x v := by
    intro cvs h1 h2 j x hj
    rw [List.getElem?_append] at hj
    split at hj
    · obtain ⟨v, q1, q2, q3⟩ := h1 j x hj
      exact ⟨v, q1, q2, noMen_get c7 hj, q3⟩
    · rename_i hlt
      obtain ⟨v, q1, q2, q3⟩ := hn3 _ x hj
      refine ⟨v, ?_, q2, noMen_get c8 hj, q3⟩
      have := h2 _ v q1
      rw [c2] at this hlt
      rwa [show n * P.cellsOf e + (j - n * P.cellsOf e) = j by omega] at this
  by_cases hm0 : m = 0
  · subst hm0
    have hne : new = [] := List.length_eq_zero_iff.1 (by simpa using c3)
    have hnz : news = [] := List.length_eq_zero_iff.1 (by simpa using hn1)
    subst hne hnz
    rcases hold with ⟨rfl, rfl, rfl⟩ | ⟨b, cv, T, rfl, hb, hh, hsz, hle, hcs⟩
    · cases hrb : l.rb (.own d) with
      | none =>
        obtain ⟨g1, g2⟩ := h.regrow0 d (P.cellsOf e) hrb c9
        refine ⟨_, w, l, run_append_none hts1 hts2 hu1 hu2 hi (Nat.le_refl _), by simpa using g1, ?_, rfl, rfl⟩
        simp only [RV]
        refine ⟨_, 0, rfl, Nat.le_refl _, .inr (by simp), rfl, ?_⟩
        show (match l.xt d with | some (c, z') => 0 = c ∧ P.cellsOf e = z' | none => 0 = 0)
        rw [g2]
      | some b =>
        obtain ⟨cs0, hcs0⟩ := h.1.dom _ _ hrb
        obtain ⟨b', hb', cv, T, hh, _⟩ := (h.1.obj _ cs0 hcs0).resolve_left fun x => by rw [hrb] at x; cases x.2
        rw [hrb] at hb'
        cases hb'
        obtain ⟨l', g1, g2, g3, g4, g5⟩ := h.regrow d b 0 (P.cellsOf e) ([] ++ []) cv T w rfl rfl rfl (Nat.le_refl _) (fun _ _ _ => rfl) (fun k h1 h2 => by omega) hh (.inr hrb) (by simp) (fun j x hj => by simp at hj) (by simp) c9
        refine ⟨_, w, l', run_append_none hts1 hts2 hu1 hu2 hi (Nat.le_refl _), g1, ?_, g4, g5⟩
        simp only [RV]
        refine ⟨_, 0, rfl, Nat.le_refl _, .inr (by simp), rfl, ?_⟩
        show (match l'.xt d with | some (c, z') => 0 = c ∧ P.cellsOf e = z' | none => 0 = 0)
        rw [g3]; exact ⟨rfl, rfl⟩
    · obtain ⟨l', g1, g2, g3, g4, g5⟩ := h.regrow d b cap (P.cellsOf e) (old ++ []) cv T w rfl rfl rfl (Nat.le_refl _) (fun _ _ _ => rfl) (fun k h1 h2 => by omega) hh (.inr hb) (by
          rw [List.append_nil, c2]; exact Nat.le_trans (Nat.mul_le_mul_right _ hle) hsz) (hcellsO cv hcs (fun j v hj => by simp at hj)) hsz c9
      exact ⟨_, w, l', run_append_none hts1 hts2 hu1 hu2 hi hle, g1, grown_rv g2 g3 hle, g4, g5⟩
  have hmpos : 0 < m := Nat.pos_of_ne_zero hm0
  -- a new row
  have big : ∀ (olds : List Value), olds.length = n * P.cellsOf e → cap < n + m → (∀ w', w'.heap = w.heap → (Builtin.firstCells i.size n (.slice ad n cap)).run P w' = .ok olds.toArray w') →
      (∀ (j : Nat) (x : AV), old[j]? = some x → ∃ v, olds[j]? = some v ∧ v.oneCell' = true ∧ RV w (cx w0 w l st.tok) x v) →
      GrowDone P w0 w l st a (Builtin.append_ ts ty #[.slice ad n cap, .slice a2 m cap2]) d (n + m) (P.cellsOf e) (old ++ new) := by
    intro olds o1 hg o2 o3
    have hr := run_append_big (P := P) (w := w) (ty := ty) hts1 hts2 hu1 hu2 hi hz o2 hn2 hg (by rw [hib]; exact c1) (by rw [hib]; exact c5)
    have hge := grownCap_ge w (n + m) cap e
    let us := olds ++ news ++ (Builtin.zeroCells zv.cells (grownCap w (n + m) cap e - (n + m))).toList
    have hus : us.length = grownCap w (n + m) cap e * P.cellsOf e := by
      simp only [us, List.length_append, o1, hn1, Array.length_toList, size_zeroCells, hzs, ← Nat.add_mul]
      congr 1; omega
    have hh : (w.drew.alloc (.cells us.toArray e)).heap[w.heap.size]? = some (.cells us.toArray e (0, 0)) := heap_alloc_new w.drew _
    have hs : (w.drew.alloc (.cells us.toArray e)).heap.size = w.heap.size + 1 := by simp
    obtain ⟨l', g1, g2, g3, g4, g5⟩ := h.regrow d w.heap.size (grownCap w (n + m) cap e) (P.cellsOf e) (old ++ new) us.toArray e (w.drew.alloc (.cells us.toArray e)) rfl rfl rfl (by rw [hs]; exact Nat.le_succ _)
      (fun k h1 _ => Go.RowKit.Below.heap_alloc w.drew _ k h1) (fun k h1 h2 => by omega) hh (.inl (Nat.le_refl _)) (by
        simp only [List.size_toArray, hus, List.length_append, c2, c3, ← Nat.add_mul]
        exact Nat.mul_le_mul_right _ hge) (hcellsO us.toArray (fun j x hj => by
          obtain ⟨v, q1, q2, q3⟩ := o3 j x hj
          have := (List.getElem?_eq_some_iff.1 q1).1
          exact ⟨v, by simp only [List.getElem?_toArray, us]; rw [List.append_assoc, List.getElem?_append_left this]; exact q1, q2, q3⟩) (fun j v hj => by
          have := (List.getElem?_eq_some_iff.1 hj).1
          simp only [List.getElem?_toArray, us]
          rw [List.append_assoc, List.getElem?_append_right (by omega), o1, Nat.add_sub_cancel_left, List.getElem?_append_left this]
          exact hj)) (by simp [hus]) c9
    exact ⟨_, _, l', hr, g1, grown_rv g2 g3 hge, g4, g5⟩
  rcases hold with ⟨rfl, rfl, rfl⟩ | ⟨b, cv, T, rfl, hb, hh, hsz, hle, hcs⟩
  · exact big [] (by simp) (by omega) (fun w' _ => first0 w' i.size ad 0) (fun j x hj => by simp at hj)
  · have hlen : (cv.toList.take (n * P.cellsOf e)).length = n * P.cellsOf e := by
      have := Nat.mul_le_mul_right (P.cellsOf e) hle
      simp; omega
    by_cases hroom : n + m ≤ cap
    · have hfit : n * P.cellsOf e + news.length ≤ cv.size := by
        rw [hn1, ← Nat.add_mul]
        exact Nat.le_trans (Nat.mul_le_mul_right _ hroom) hsz
      have hr := run_append_fits' (P := P) (w := w) (ty := ty) hts1 hts2 hu1 hu2 hi (hn2 w rfl) hh hroom (by rw [his]; exact hfit) hn4
      rw [his] at hr
      have hpl : (putL cv.toList (n * P.cellsOf e) news).length = cv.size := by simp [putL]; omega
      have hnew := setRow_heap w b cv (putL cv.toList (n * P.cellsOf e) news).toArray T _ hh
      obtain ⟨l', g1, g2, g3, g4, g5⟩ := h.regrow d b cap (P.cellsOf e) (old ++ new) (putL cv.toList (n * P.cellsOf e) news).toArray T (w.setRow b (putL cv.toList (n * P.cellsOf e) news).toArray) (by simp) (by simp) (by simp) (by simp)
        (fun k _ h2 => setRow_other w b k _ h2) (fun k h1 h2 => by simp at h2; omega) hnew (.inr hb) (by
          simp only [List.size_toArray, hpl, List.length_append, c2, c3, ← Nat.add_mul]
          exact Nat.le_trans (Nat.mul_le_mul_right _ hroom) hsz) (hcellsO _ (fun j x hj => by
          obtain ⟨v, q1, q2, q3⟩ := hcs j x hj
          refine ⟨v, ?_, q2, q3⟩
          have hlt := (List.getElem?_eq_some_iff.1 hj).1
          rw [c2] at hlt
          simp only [List.getElem?_toArray, putL]
          rw [List.append_assoc, List.getElem?_append_left (by omega), List.getElem?_take, if_pos hlt, Array.getElem?_toList]
          exact q1) (fun j v hj => by
          have hlt := (List.getElem?_eq_some_iff.1 hj).1
          simp only [List.getElem?_toArray, putL]
          rw [List.append_assoc, List.getElem?_append_right (by omega), hlen, Nat.add_sub_cancel_left, List.getElem?_append_left hlt]
          exact hj)) (by simp [hpl]; exact hsz) c9
      exact ⟨_, _, l', hr, g1, grown_rv g2 g3 hroom, g4, g5⟩
    · refine big (cv.toList.take (n * P.cellsOf e)) hlen (by omega) (fun w' hw => ?_) (fun j x hj => ?_)
      · rw [his]
        refine run_firstCells_some w' (P.cellsOf e) n ⟨b, 0, none⟩ n cap _ hlen (fun j v hj => ?_)
        rw [Addr.add_lit, Nat.zero_add]
        have : j < n * P.cellsOf e := by have := (List.getElem?_eq_some_iff.1 hj).1; omega
        rw [List.getElem?_take, if_pos this, Array.getElem?_toList] at hj
        simpa [World.cell?, hw, hh] using hj
      · obtain ⟨v, q1, q2, q3⟩ := hcs j x hj
        have hlt := (List.getElem?_eq_some_iff.1 hj).1
        rw [c2] at hlt
        exact ⟨v, by rw [List.getElem?_take, if_pos hlt, Array.getElem?_toList]; exact q1, q2, q3⟩

theorem grow_done {o : Oper} {a : Act} {c : Call} {xs : List AV} {X' : X} {F : List Ref} (h : Good w0 w l st a) (hop : o.op = .call c) (hc : c.callee = .builtin .append) (hd : dstOk st.nt o.dst = true)
    (hx : st.opds o.op.operands.toList = some xs) (he : fAppendM P st.own st.tok (tdesc P c.argTypes[0]?) (tdesc P c.argTypes[1]?) o.dst xs = some X') : ∃ st', X'.run st o F = .go st' ∧ OpDone P w0 w l o a st' := by
  have hv := opds_sound h.2 hx
  obtain ⟨callee, args, argTypes⟩ := c
  simp only at hc he
  subst hc
  rw [hop] at hv
  have fin : ∀ (v1 v2 : Value) (d n z : Nat) (cs : List AV), args.map a.eval = #[v1, v2] → GrowDone P w0 w l st a (Builtin.append_ argTypes o.type #[v1, v2]) d n z cs → o.dst = some d →
      ∃ st', (X.grow (.sm (.own d) n (.grw d z)) d cs (0, z)).run st o F = .go st' ∧ OpDone P w0 w l o a st' := by
    intro v1 v2 d n z cs hargs ⟨v, w', l', q1, q2, q3, q4, q5⟩ hdst
    refine ⟨_, rfl, v, .value v, w', l', .inl rfl, ?_, ?_, q4, q5⟩
    · simp [execOp, hop, resolve, invoke, builtin, hargs, q1]
    · exact q2.put hd q3
  unfold fAppendM at he
  split at he
  · rename_i e e2 d f g k y hd1 hd2 hdst
    split at he
    case isFalse => cases he
    rename_i hown
    obtain ⟨⟨m, new⟩, h1, h2⟩ := bnd_eq he
    have hv' : RVs w (cx w0 w l st.tok) [.sl f g k .full 0 [], y] (args.map a.eval).toList := by simpa [Op.operands, Call.operands] using hv
    obtain ⟨v1, v2, e3, r1, r2⟩ := RVs_two hv'
    have hargs : args.map a.eval = #[v1, v2] := by apply Array.ext'; simpa using e3
    simp only [RV] at r1
    obtain ⟨a1, cap, rfl, hcap, hsh, hfull⟩ := r1
    have hfull : cap = 0 := hfull
    subst hfull
    have hl : new.length = m * P.cellsOf e := by
      unfold fAppendX at h2
      split at h2
      · rename_i hc; exact hc.2.2.1
      · cases h2
    obtain ⟨a2, cap2, news, rfl, n1, n2, n3, n4⟩ := new_cells (P := P) h.1 h1 hl r2
    obtain ⟨rfl, hg⟩ := grow_append (ty := o.type) (ad := a1) h h2 hd1 hd2 (.inl ⟨rfl, rfl, rfl⟩) n1 n2 n3 n4
    exact fin _ _ _ _ _ _ hargs hg hdst
  · rename_i e e2 d d' n d'' z y hd1 hd2 hdst
    split at he
    case isFalse => cases he
    rename_i hcc
    obtain ⟨rfl, rfl, rfl⟩ := hcc
    obtain ⟨⟨m, new⟩, h1, h2⟩ := bnd_eq he
    obtain ⟨old, h3, h4⟩ := bnd_eq h2
    have hv' : RVs w (cx w0 w l st.tok) [.sm (.own d'') n (.grw d'' (P.cellsOf e)), y] (args.map a.eval).toList := by simpa [Op.operands, Call.operands] using hv
    obtain ⟨v1, v2, e3, r1, r2⟩ := RVs_two hv'
    have hargs : args.map a.eval = #[v1, v2] := by apply Array.ext'; simpa using e3
    simp only [RV] at r1
    obtain ⟨a1, cap, rfl, hcap, hsh, _, hxc⟩ := r1
    have hcond : old.length = n * P.cellsOf e ∧ new.length = m * P.cellsOf e ∧ 0 < P.cellsOf e := by
      unfold fAppendX at h4
      split at h4
      · rename_i hc; exact ⟨hc.2.1, hc.2.2.1, hc.2.2.2.1⟩
      · cases h4
    obtain ⟨a2, cap2, news, rfl, n1, n2, n3, n4⟩ := new_cells (P := P) h.1 h1 hcond.2.1 r2
    have hO : OldR w0 w l st d'' n (P.cellsOf e) old a1 cap := by
      rcases hsh with ⟨b, hb, rfl⟩ | ⟨rfl, rfl⟩
      · have hb : l.rb (.own d'') = some b := hb
        obtain ⟨b', q1, cv, T, q2, q3, q4⟩ := (h.1.obj (.own d'') old h3).resolve_left fun x => by rw [hb] at x; cases x.2
        rw [hb] at q1
        cases q1
        refine .inr ⟨b, cv, T, rfl, hb, q2, ?_, hcap, q4⟩
        have hxc : (match l.xt d'' with | some (c, z') => cap = c ∧ P.cellsOf e = z' | none => cap = 0) := hxc
        cases hx : l.xt d'' with
        | none => rw [hx] at hxc; simp only at hxc; rw [hxc]; simp
        | some q =>
          obtain ⟨c', z'⟩ := q
          rw [hx] at hxc
          obtain ⟨r1, r2⟩ := hxc
          obtain ⟨_, b', s1, cv', T', s2, s3⟩ := h.1.xtd d'' c' z' hx
          rw [hb] at s1
          cases s1
          rw [q2] at s2
          cases s2
          rw [r1, r2]; exact s3
      · exact .inl ⟨rfl, rfl, List.length_eq_zero_iff.1 (by simpa using hcond.1)⟩
    obtain ⟨rfl, hg⟩ := grow_append (ty := o.type) (ad := a1) h h4 hd1 hd2 hO n1 n2 n3 n4
    exact fin _ _ _ _ _ _ hargs hg hdst
  · cases he
theorem Good.newObjP {a : Act} (h : Good w0 w l st a) (k : Nat) (hk : st.own k = none) (cells : List AV) (vs : List Value) (T : TypeId) (hl : cells.length ≤ vs.length) (hv : ∀ (j : Nat) (x : AV), cells[j]? = some x → ∃ v, vs[j]? = some v ∧ v.oneCell' = true ∧ RV w (cx w0 w l st.tok) x v) :
    ∃ l', Good w0 (w.alloc (.cells vs.toArray T)) l' { st with own := upd st.own k cells } a ∧ l'.rb (.own k) = some w.heap.size ∧ l'.rd = l.rd ∧ l'.be = l.be := by
  obtain ⟨l', m1, m2, m3, m4, m5⟩ := h.1.newObjP k hk cells vs T hl hv
  exact ⟨l', ⟨m1, (h.2.mono m2)⟩, m3, m4, m5⟩
theorem copy_done {o : Oper} {a : Act} {c : Call} {xs : List AV} {X' : X} {F : List Ref} (h : Good w0 w l st a) (hop : o.op = .call c) (hc : c.callee = .builtin .append) (hd : dstOk st.nt o.dst = true)
    (hx : st.opds o.op.operands.toList = some xs) (he : fAppendC P st.own (tdesc P c.argTypes[0]?) (tdesc P c.argTypes[1]?) o.dst xs = some X') : ∃ st', X'.run st o F = .go st' ∧ OpDone P w0 w l o a st' := by
  have hv := opds_sound h.2 hx
  obtain ⟨callee, args, argTypes⟩ := c
  simp only at hc he
  subst hc
  rw [hop] at hv
  unfold fAppendC at he
  split at he
  · rename_i e e2 d f g0 k f2 g k2 o2 m ds hd1 hd2 hdst
    split at he
    case isFalse => cases he
    rename_i hcc
    cases he
    obtain ⟨c1, c3, c5, c6, c7, hown⟩ := hcc
    obtain ⟨t1, hts1, hu1⟩ := tdesc_some hd1
    obtain ⟨t2, hts2, hu2⟩ := tdesc_some hd2
    obtain ⟨i, zv, hi, hz, hzs, his, hib⟩ := zeroOk_spec c6
    have hv' : RVs w (cx w0 w l st.tok) [.sl f g0 k .full 0 [], .sl f2 g k2 o2 m ds] (args.map a.eval).toList := by simpa [Op.operands, Call.operands] using hv
    obtain ⟨v1, v2, e3, r1, r2⟩ := RVs_two hv'
    have hargs : args.map a.eval = #[v1, v2] := by apply Array.ext'; simpa using e3
    simp only [RV] at r1
    obtain ⟨a1, cap, rfl, hcap, hsh, hfull⟩ := r1
    have hfull : cap = 0 := hfull
    subst hfull
    obtain ⟨a2, cap2, news, rfl, n1, n2, n3, n4⟩ := new_cells (P := P) (size := P.cellsOf e) (new := ds.map (D.av g g)) h.1 rfl (by simpa using c3) r2
    rw [← his] at n2
    have hr := run_append_big (P := P) (w := w) (ty := o.type) (a := a1) (olds := []) hts1 hts2 hu1 hu2 hi hz (fun w' _ => first0 w' i.size a1 0) n2 (by omega : 0 < 0 + m) (by rw [hib]; simpa using c1) (by rw [hib]; exact c5)
    have hge := grownCap_ge w (0 + m) 0 e
    have hgd : Good w0 w.drew l st a := ⟨h.1.drew.1, h.2.mono h.1.drew.2⟩
    have hdle := h.1.drew.2
    obtain ⟨l', g1, g2, g3, g4⟩ := hgd.newObjP d hown (ds.map (D.av g g)) ([] ++ news ++ (Builtin.zeroCells zv.cells (grownCap w (0 + m) 0 e - (0 + m))).toList) e (by simp [n1, c3]) (fun j x hj => by
      obtain ⟨v, q1, q2, q3⟩ := n3 j x hj
      have := (List.getElem?_eq_some_iff.1 q1).1
      exact ⟨v, by rw [List.nil_append, List.getElem?_append_left this]; exact q1, q2, RV.mono hdle x v q3⟩)
    refine ⟨_, rfl, .slice (some ⟨w.heap.size, 0, none⟩) (0 + m) (grownCap w (0 + m) 0 e), .value (.slice (some ⟨w.heap.size, 0, none⟩) (0 + m) (grownCap w (0 + m) 0 e)), w.drew.alloc (.cells ([] ++ news ++ (Builtin.zeroCells zv.cells (grownCap w (0 + m) 0 e - (0 + m))).toList).toArray e), l', .inl rfl, ?_, ?_, g3, g4⟩
    · simp [-List.append_assoc, -List.nil_append, execOp, hop, resolve, invoke, builtin, hargs, hr]
    · have := g1.put (d := o.dst) (x := .sm (.own d) m .no) (v := .slice (some ⟨w.heap.size, 0, none⟩) (0 + m) (grownCap w (0 + m) 0 e)) hd (by
        simp only [RV, Nat.zero_add]
        exact ⟨_, _, rfl, by simpa using hge, .inl ⟨_, g2, rfl⟩, trivial⟩)
      have e0 : ∀ F : List Ref, st.setAll F [] = st := fun F => by cases F <;> rfl
      simpa [e0] using this
  · cases he
/-- A slice that is written out. -/
theorem buildSlice_run {t e : TypeId} {len : Nat} {parts : List (Nat × Operand)} {ρ : Operand → Value} (hu : P.underlying t = some (.slice e)) (c1 : parts.map (·.1) = List.range len) (c3 : len * P.cellsOf e ≤ 16777216) (hlen : (parts.map fun p => ρ p.2).length = len)
    (c5 : (zeroCells P e).isSome = true) (k2 : ∀ v ∈ (parts.map fun p => ρ p.2), v.cells.size = P.cellsOf e) :
    ∃ r : Array Value, (Instr.buildSlice t len (parts.toArray.map fun (i, x) => (i, ρ x))).run P w = .ok (.slice (some ⟨w.heap.size, 0, none⟩) len len) (w.alloc (.cells r e)) ∧ r.toList = (parts.map fun p => ρ p.2).flatMap (fun v => v.cells.toList) ∧ r.size = len * P.cellsOf e := by
  obtain ⟨z, hz⟩ := Option.isSome_iff_exists.1 c5
  obtain ⟨zv, hz1, hz2⟩ := zeroCells_run hz w
  have hinfo : ∃ i, P.info? e = some i := by
    cases hi : P.info? e with
    | none => simp [zeroCells, hi] at hz
    | some i => exact ⟨i, rfl⟩
  obtain ⟨i, hi⟩ := hinfo
  let Z : Array Value := if len * P.cellsOf e = 0 then #[] else zv.cells
  have hzr : (if len * P.cellsOf e = 0 then (pure #[] : Sem (Array Value)) else do pure (← zeroValue e).cells).run P w = .ok Z w := by
    by_cases h0 : len * P.cellsOf e = 0
    · simp [Z, h0]
    · simp [Z, h0, hz1]
  obtain ⟨r, hr1, hr2⟩ := fill_range (P.cellsOf e) (parts.map fun p => ρ p.2) 0 ((Array.range (len * P.cellsOf e)).map (Z[· % Z.size]!)) k2 (by simp [hlen])
  have hzip : (List.range' 0 (parts.map fun p => ρ p.2).length).zip (parts.map fun p => ρ p.2) = (parts.toArray.map fun (i, x) => (i, ρ x)).toList := by
    rw [hlen, ← List.range_eq_range', ← c1, List.zip_map']; simp
  rw [hzip] at hr1
  have hflat : ((parts.map fun p => ρ p.2).flatMap fun v => v.cells.toList).length = len * P.cellsOf e := by
    have : ∀ (us : List Value), (∀ v ∈ us, v.cells.size = P.cellsOf e) → (us.flatMap fun v => v.cells.toList).length = us.length * P.cellsOf e := by
      intro us
      induction us with
      | nil => intro _; simp
      | cons u us ih => intro hu; simp only [List.flatMap_cons, List.length_append, List.length_cons, ih (fun v hv => hu v (by simp [hv])), Array.length_toList, hu u (by simp), Nat.add_mul]; omega
    rw [this _ k2, hlen]
  have hr3 : r.toList = (parts.map fun p => ρ p.2).flatMap fun v => v.cells.toList := by
    rw [hr2]
    simp only [putL, Nat.zero_mul, List.take_zero, List.nil_append, Nat.zero_add]
    rw [hflat, List.drop_of_length_le (by simp)]
    simp
  refine ⟨r, ?_, hr3, by rw [← Array.length_toList, hr3, hflat]⟩
  · unfold Instr.buildSlice
    simp only [Sem.run_bind, run_underlying hu, Result.andThen_ok, run_sizeOf' hi]
    rw [if_neg (by omega)]
    by_cases h0 : len * P.cellsOf e = 0
    · have hZ : Z = #[] := by simp [Z, h0]
      rw [hZ] at hr1
      rw [if_pos h0]
      simp only [Sem.run_bind, Sem.run_pure, Result.andThen_ok]
      simp only [hr1]
      simp [newRow]
    · have hZ : Z = zv.cells := by simp [Z, h0]
      rw [hZ] at hr1
      rw [if_neg h0]
      simp only [Sem.run_bind, Sem.run_pure, Result.andThen_ok, hz1]
      simp only [hr1]
      simp [newRow]

theorem refs_D (f g : Bool) : ∀ dd : D, (dd.av f g).refs = []
  | .sl n cs => rfl
  | .s v => by
    simp only [D.av]
    unfold AV.ofFn
    split
    · unfold AV.ofFnAs
      split <;> rfl
    · rfl
theorem hint_done {Γ : Gam} {o : Oper} {a : Act} {xs : List AV} {X' : X} {F : List Ref} (h : Good w0 w l st a) (hd : dstOk st.nt o.dst = true) (hx : st.opds o.op.operands.toList = some xs)
    (he : execH P o.op o.dst xs st.own st.tok = some X') : ∃ st', X'.run st o F = .go st' ∧ OpDone P w0 w l o a st' := by
  have hv := opds_sound h.2 hx
  have fin : ∀ (d n z : Nat) (cs : List AV) (cv : Array Value) (e : TypeId), (execOp a.eval o).run P w = .ok (.value (.slice (some ⟨w.heap.size, 0, none⟩) n n)) (w.alloc (.cells cv e)) → o.dst = some d → cs.length = n * z → cv.size = n * z →
      (∀ (j : Nat) (x : AV), cs[j]? = some x → ∃ v, cv[j]? = some v ∧ v.oneCell' = true ∧ Ref.own d ∉ x.refs ∧ RV w (cx w0 w l st.tok) x v) → (st.tok (XK d) = none ∨ st.tok (XK d) = some (0, z)) →
      ∃ st', (X.grow (.sm (.own d) n (.grw d z)) d cs (0, z)).run st o F = .go st' ∧ OpDone P w0 w l o a st' := by
    intro d n z cs cv e hrun hdst hl hs hcells htk
    have hh : (w.alloc (.cells cv e)).heap[w.heap.size]? = some (.cells cv e (0, 0)) := heap_alloc_new w _
    have hsz : (w.alloc (.cells cv e)).heap.size = w.heap.size + 1 := by simp
    obtain ⟨l', g1, g2, g3, g4, g5⟩ := h.regrow d w.heap.size n z cs cv e (w.alloc (.cells cv e)) rfl rfl rfl (by rw [hsz]; exact Nat.le_succ _) (fun k h1 _ => heap_alloc_lt w _ k h1) (fun k h1 h2 => by omega) hh (.inl (Nat.le_refl _)) (by omega) hcells (by omega) htk
    refine ⟨_, rfl, _, .value _, _, l', .inl rfl, hrun, ?_, g4, g5⟩
    exact g1.put hd (grown_rv g2 g3 (Nat.le_refl _))
  unfold execH at he
  split at he
  · rename_i t len parts hop
    rw [hop] at hv
    unfold hBuild at he
    split at he
    · rename_i e d hu hdst
      split at he
      case isFalse => cases he
      rename_i hc
      cases he
      obtain ⟨c1, c2, c3, c4, c5, c6, c7, c8, c9⟩ := hc
      have hv' : RVs w (cx w0 w l st.tok) xs (parts.toList.map fun p => a.eval p.2) := by simpa [Op.operands, Function.comp_def] using hv
      obtain ⟨k1, k2, k3⟩ := RVs_flat (P.cellsOf e) c2 hv'
      have hlen : (parts.toList.map fun p => a.eval p.2).length = len := by have := hv'.length; rw [this, c4]
      obtain ⟨r, r1, r2, r3⟩ := buildSlice_run (P := P) (w := w) (ρ := a.eval) hu c1 c3 hlen c5 k2
      refine fin d len (P.cellsOf e) _ r e ?_ hdst ?_ r3 (fun j x hj => ?_) c9
      · simp only [Array.toArray_toList] at r1
        simp [execOp, hop, r1]
      · rw [← k1.length, ← r2, Array.length_toList, r3]
      · obtain ⟨v, q1, q2⟩ := k1.get j x hj
        exact ⟨v, by rw [← Array.getElem?_toList, r2]; exact q1, k3 v (List.mem_of_getElem? q1), noMen_get c7 hj, q2⟩
    · cases he
  · rename_i t y z hop
    rw [hop] at hv
    unfold hMake at he
    split at he
    · rename_i e k n k' m d hu hdst
      split at he
      case isFalse => cases he
      rename_i hc
      obtain ⟨rfl, c1, c2, c3, c4, c5, c6⟩ := hc
      obtain ⟨zds, h1, h2⟩ := bnd_eq he
      cases h2
      have hv' : RVs w (cx w0 w l st.tok) [.s (.int k m), .s (.int k' m)] [a.eval y, a.eval z] := by simpa [Op.operands] using hv
      obtain ⟨u1, u2, e3, r1, r2⟩ := RVs_two hv'
      simp only [List.cons.injEq, and_true] at e3
      simp only [RV] at r1 r2
      subst r1 r2
      obtain ⟨cv, m1, m2, m3, m4⟩ := make_run (P := P) (k := k) (k' := k') hu c1 c2 c3 c4 h1 (cx w0 w l st.tok) (cx_down st.tok true)
      refine fin d m.toNat (P.cellsOf e) _ cv e ?_ hdst ?_ m2 (fun j x hj => ?_) c6
      · simp only [execOp, hop, e3.1, e3.2, Sem.run_bind]
        rw [m1]
        rfl
      · rw [List.length_map, flat_rep_len, m3]
      · rw [List.getElem?_map, Option.map_eq_some_iff] at hj
        obtain ⟨dd, hd, rfl⟩ := hj
        obtain ⟨v, q1, q2, q3⟩ := m4 j dd hd
        exact ⟨v, by rw [← Array.getElem?_toList]; exact q1, q2, by rw [refs_D]; simp, av_of_D q3⟩
    · cases he
  · cases he

end Go.Ev
end
