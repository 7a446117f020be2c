/- Lemmas for the claims of this seat: an evaluator over abstract values, its soundness, and the contracts of the functions of melt that it walks; no premise beyond what each theorem states. -/
import Derived.Laws.MakeOwn
import Derived.RangeFuncRecord
import Derived.Test.YtdcelpomnboeoaaKA

section
set_option linter.all false
set_option linter.unusedVariables false
set_option linter.unusedSimpArgs false
namespace Go.Ev
variable {w0 w : World} {l : Lay} {st : St} {P : Program}

/-- An operation that yields what is told. -/
def NOk (P : Program) (w0 w : World) (l : Lay) (st : St) (s : Sem Next) (x : AV) : Prop :=
  ∃ v w', s.run P w = .ok (.value v) w' ∧ (w' = w ∨ ∃ ob, w' = w.alloc ob) ∧ RV w' (cx w0 w' l st.tok) x v

theorem NOk.of {s : Sem Value} {x : AV} (h : QOk P w0 w l st s x) : NOk P w0 w l st (do pure (.value (← s))) x := by
  obtain ⟨v, w', h1, h2, h3⟩ := h
  exact ⟨v, w', by simp [h1], h2, h3⟩

theorem one_of {c : Cx} {xs : List AV} {v : Value} {vs : List Value} (e : vs = [v]) (h : RVs w c xs vs) : RVs w c xs [v] := e ▸ h

theorem zeroOk_spec {e : TypeId} (h : zeroOk P e = true) : ∃ i z, P.info? e = some i ∧ i.zero = some z ∧ z.cells.size = P.cellsOf e ∧ i.size = P.cellsOf e ∧ i.bytes = P.bytesOf e := by
  unfold zeroOk zeroCells at h
  cases hi : P.info? e with
  | none => simp [hi] at h
  | some i =>
    cases hz : i.zero with
    | none => simp [hi, hz] at h
    | some z =>
      simp [hi, hz] at h
      exact ⟨i, z, rfl, hz, h, by simp [Program.cellsOf, hi], by simp [Program.bytesOf, hi]⟩


theorem flat_rep {α : Type} (l : List α) : ∀ (n j : Nat), j < n * l.length → ((List.replicate n l).flatten)[j]? = l[j % l.length]?
  | 0, j, h => by simp at h
  | n + 1, j, h => by
    rw [List.replicate_succ, List.flatten_cons]
    by_cases hj : j < l.length
    · rw [List.getElem?_append_left hj, Nat.mod_eq_of_lt hj]
    · rw [List.getElem?_append_right (by omega), flat_rep l n (j - l.length) (by rw [Nat.succ_mul] at h; omega), ← Nat.mod_eq_sub_mod (by omega)]
theorem made_get (z : Array Value) (n j : Nat) (h : j < n) : (madeCells z n).toList[j]? = some z[j % z.size]! := by
  simp [madeCells, h]
theorem flat_rep_len {α : Type} (l : List α) (n : Nat) : ((List.replicate n l).flatten).length = n * l.length := by
  induction n with
  | zero => simp
  | succ n ih => rw [List.replicate_succ, List.flatten_cons, List.length_append, ih, Nat.succ_mul]; omega

theorem make_run {t e : TypeId} {k k' : IntKind} {n : Int} {zds : List D × Bool} (hu : P.underlying t = some (.slice e)) (h0 : 0 ≤ n) (hb : P.bytesOf e * n ≤ 140737488355328) (hn : n ≤ 140737488355328) (hz : zeroOk P e = true) (hd : zeroDs P e = some zds) (c : Cx) (hi : ∀ b o, c.im true b o → c.im false b o) :
    ∃ cv : Array Value, (Instr.makeSlice t (.int k n) (.int k' n)).run P w = .ok (.slice (some ⟨w.heap.size, 0, none⟩) n.toNat n.toNat) (w.alloc (.cells cv e)) ∧ cv.size = n.toNat * P.cellsOf e ∧ zds.1.length = P.cellsOf e ∧
      ∀ (j : Nat) (d : D), ((List.replicate n.toNat zds.1).flatten)[j]? = some d → ∃ v, cv.toList[j]? = some v ∧ v.oneCell' = true ∧ RD w (c.im zds.2) d v := by
  obtain ⟨i, zv, q1, q2, q3, q4, q5⟩ := zeroOk_spec hz
  have hr := run_make (P := P) w t e i zv hu q1 q2 k k' n n h0 (Int.le_refl _) (by rw [q5]; omega) (by omega)
  unfold zeroDs at hd
  obtain ⟨za, z1, z2⟩ := bnd_eq hd
  obtain ⟨zv', z3, z4⟩ := zeroCells_run (P := P) z1 w
  have ezv : zv' = zv := by simpa [zeroValue, typeInfo, q1, q2] using z3.symm
  subst ezv
  obtain ⟨ds, g⟩ := zds
  have hv : RVs w c za zv'.cells.toList := by rw [z4]; exact RVs.ofCells _
  obtain ⟨k1, k2⟩ := toDs?_sound hi z2 hv
  have hlen : ds.length = P.cellsOf e := by rw [k1, Array.length_toList, q3]
  refine ⟨madeCells zv'.cells (n.toNat * i.size), hr, by rw [size_madeCells, q4], hlen, fun j d hj => ?_⟩
  have hlt := (List.getElem?_eq_some_iff.1 hj).1
  rw [flat_rep_len, hlen] at hlt
  rw [flat_rep _ _ _ (by rw [hlen]; exact hlt)] at hj
  obtain ⟨v, a1, a2, a3⟩ := k2 _ d hj
  refine ⟨v, ?_, a2, a3⟩
  rw [made_get _ _ _ (by rw [q4]; exact hlt)]
  simp only [hlen] at a1
  rw [← q3, Array.getElem?_toList] at a1
  rw [getElem!_def, a1]

theorem make_ok {t : TypeId} {xs : List AV} {x : AV} {v1 v2 : Value} (hm : MR w0 w l st) (h : qMake P (P.underlying t) xs = some x) (hv : RVs w (cx w0 w l st.tok) xs [v1, v2]) : QOk P w0 w l st (Instr.makeSlice t v1 v2) x := by
  unfold qMake at h
  split at h
  · rename_i e k n k' m hu
    split at h
    · rename_i hc
      obtain ⟨rfl, c1, c2, c3, c4⟩ := hc
      obtain ⟨zds, h1, h2⟩ := bnd_eq h
      cases h2
      obtain ⟨u1, u2, e3, r1, r2⟩ := RVs_two hv
      cases e3
      simp only [RV] at r1 r2
      subst r1 r2
      obtain ⟨cv, m1, m2, m3, m4⟩ := make_run (P := P) (k := k) (k' := k') hu c1 c2 c3 c4 h1 (cx w0 w l st.tok) (cx_down st.tok true)
      refine ⟨_, _, m1, .inr ⟨_, rfl⟩, ?_⟩
      simp only [RV, RS]
      have hle := (hm.alloc (.cells cv e)).2
      refine ⟨_, _, rfl, Nat.le_refl _, ⟨.inl rfl, by simp, ?_⟩, rfl⟩
      refine RDs.of_get fun j d hj => ?_
      obtain ⟨v, a1, a2, a3⟩ := m4 j d hj
      refine ⟨.inl ⟨hm.size, by simp, by simp only [hm.owfree _ (Nat.le_refl _)]; trivial⟩, v, ?_, a2, RD.mono (hle.im _) (hle.cell _) d v a3⟩
      rw [cell_in (heap_alloc_new w _), Nat.zero_add, ← Array.getElem?_toList]
      exact a1
    · cases h
  · cases h

theorem execQ_sound {ρ : Operand → Value} {o : Oper} {xs : List AV} {os : List (List AV)} {x : AV} (hm : MR w0 w l st) (hq : quiet o.op = true)
    (h : execQ P o.op xs os = some x) (hos : st.mems (foot st o.op xs) = some os) (hv : RVs w (cx w0 w l st.tok) xs (o.op.operands.toList.map ρ)) : NOk P w0 w l st (execOp ρ o) x := by
  obtain ⟨dst, op, type, pos, after, guard⟩ := o
  simp only at h hos hv hq
  cases op <;> simp only [execQ] at h <;> try (cases h; done)
  case move y =>
    simp only [Op.operands, List.map_cons, List.map_nil] at hv
    unfold qOne at h
    split at h
    · cases h
      obtain ⟨v, e, h1⟩ := RVs_one hv
      simp at e
      exact ⟨v, w, by simp [execOp, e], .inl rfl, h1⟩
    · cases h
  case pick c a b =>
    simp only [Op.operands, List.map_cons, List.map_nil] at hv
    have h' := h
    unfold qPick at h'
    split at h'
    · obtain ⟨v, u, t, e, h1, h2, h3⟩ := RVs_three hv
      simp at e
      obtain ⟨e1, e2, e3⟩ := e
      have := pick_ok (P := P) h h1 h2 h3
      obtain ⟨r, w', a1, a2, a3⟩ := this
      refine ⟨r, w', ?_, a2, a3⟩
      simp only [execOp, e1, e2, e3]
      cases hb : (asBool v).run P w with
      | ok t' w2 =>
        simp [hb] at a1 ⊢
        exact a1
      | halt hh w2 => simp [hb] at a1
    · cases h'
  case build t parts =>
    have hv' : RVs w (cx w0 w l st.tok) xs (parts.toList.map fun p => ρ p.2) := by simpa [Op.operands, Function.comp_def] using hv
    have := build_ok (P := P) (parts := parts.toList) (ρ := ρ) h hv'
    exact NOk.of (by simpa using this)
  case buildSlice t len parts =>
    have hv' : RVs w (cx w0 w l st.tok) xs (parts.toList.map fun p => ρ p.2) := by simpa [Op.operands, Function.comp_def] using hv
    have := buildSlice_ok (P := P) (parts := parts.toList) (ρ := ρ) hm h hv'
    exact NOk.of (by simpa using this)
  case makeSlice t y z =>
    have hv' : RVs w (cx w0 w l st.tok) xs [ρ y, ρ z] := by simpa [Op.operands] using hv
    exact NOk.of (by simpa using make_ok (P := P) hm h hv')
  case load t y =>
    simp only [Op.operands, List.map_cons, List.map_nil, foot] at hv hos
    exact NOk.of (load_ok hm h hos hv)
  case nilCheck y =>
    simp only [Op.operands, List.map_cons, List.map_nil] at hv
    obtain ⟨h1, a, h2⟩ := nilCheck_ok h hv
    exact ⟨ρ y, w, by simp [execOp, h2], .inl rfl, h1⟩
  case binOp op t y z t' =>
    simp only [Op.operands, List.map_cons, List.map_nil] at hv
    exact NOk.of (bin_ok h hv)
  case unOp op t y =>
    simp only [Op.operands, List.map_cons, List.map_nil] at hv
    exact NOk.of (un_ok h hv)
  case typeAssert y t a ok =>
    simp only [Op.operands, List.map_cons, List.map_nil] at hv
    exact NOk.of (ta_ok h hv)
  case convert a b y =>
    simp only [Op.operands, List.map_cons, List.map_nil] at hv
    exact NOk.of (conv_ok h hv)
  case makeInterface t y =>
    simp only [Op.operands, List.map_cons, List.map_nil] at hv
    exact NOk.of (iface_ok h hv)
  case makeFunc fn first captured =>
    unfold qFunc at h
    split at h
    · rename_i f hf
      cases h
      have e1 : first = #[] := by simpa using hf
      subst e1
      refine ⟨.func (.func f) #[] (captured.map ρ), w, by simp [execOp, Instr.makeFunc], .inl rfl, ?_⟩
      simp only [RV]
      refine ⟨(captured.map ρ).toList, by rw [Array.toArray_toList], ?_⟩
      simpa [Op.operands] using hv
    · cases h
  case slice t y lo hi mx =>
    cases mx with
    | some m => simp at h
    | none =>
      simp only at h
      have hv' : RVs w (cx w0 w l st.tok) xs (ρ y :: ((lo.toList ++ hi.toList).map ρ)) := by
        cases lo <;> cases hi <;> simpa [Op.operands] using hv
      exact NOk.of (slice_ok h hv')
  case fieldAddr t y i =>
    simp only [Op.operands, List.map_cons, List.map_nil] at hv
    exact NOk.of (field_ok h hv)
  case indexAddr t y z =>
    simp only [Op.operands, List.map_cons, List.map_nil] at hv
    exact NOk.of (index_ok h hv)
  case extract y i =>
    simp only [Op.operands, List.map_cons, List.map_nil] at hv
    exact NOk.of (extract_ok h hv)
  case call c =>
    obtain ⟨callee, args, argTypes⟩ := c
    simp only [quiet] at hq
    cases callee with
    | value f => cases hq
    | invoke r m => cases hq
    | builtin b =>
      have hv' : RVs w (cx w0 w l st.tok) xs (args.map ρ).toList := by simpa [Op.operands, Call.operands] using hv
      cases b <;> first | (cases hq; done) | skip
      · simp only [qBuiltin] at h
        have := len_ok (P := P) type h hv'
        obtain ⟨r, w', a1, a2, a3⟩ := this
        exact ⟨r, w', by simp [execOp, resolve, invoke, builtin, a1], a2, a3⟩
      · simp only [qBuiltin] at h
        unfold qMax at h
        split at h
        · rename_i k x k' y
          cases h
          obtain ⟨v, u, e, h1, h2⟩ := RVs_two hv'
          simp only [RV] at h1 h2
          subst h1 h2
          rw [Array.toList_map] at e
          refine ⟨.int k (maxI x y), w, ?_, .inl rfl, by simp only [RV]⟩
          simp [execOp, resolve, invoke, builtin, Builtin.max_, e, Builtin.max2, maxI]
        · cases h
      · simp only [qBuiltin] at h
        unfold qMin at h
        split at h
        · rename_i k x k' y
          cases h
          obtain ⟨v, u, e, h1, h2⟩ := RVs_two hv'
          simp only [RV] at h1 h2
          subst h1 h2
          rw [Array.toList_map] at e
          refine ⟨.int k (minI x y), w, ?_, .inl rfl, by simp only [RV]⟩
          simp [execOp, resolve, invoke, builtin, Builtin.min_, e, Builtin.min2, minI]
        · cases h
end Go.Ev
end

section
set_option linter.all false
set_option linter.unusedVariables false
set_option linter.unusedSimpArgs false
namespace Go.Ev
variable {w0 w : World} {l : Lay} {st : St} {P : Program}

/-! ### append -/
def cellList (w : World) (b o n : Nat) : List Value := (List.range n).map fun j => (w.cell? ⟨b, o + j, none⟩).getD undef
theorem cellList_len (w : World) (b o n : Nat) : (cellList w b o n).length = n := by simp [cellList]
theorem cellList_get (w : World) (b o n j : Nat) (h : j < n) : (cellList w b o n)[j]? = some ((w.cell? ⟨b, o + j, none⟩).getD undef) := by simp [cellList, h]

/-- The cells of a slice, and that they are read. -/
theorem slice_cells {c : Cx} {f g : Bool} {k : Knd} {o : Own} {n size : Nat} {cs : List D} {a : Option Addr} {cap : Nat} (h : RS w c f g k o n cs (.slice a n cap)) (hl : cs.length = n * size) :
    ∃ us : List Value, us.length = n * size ∧ (∀ w', w'.heap = w.heap → (Builtin.firstCells size n (.slice a n cap)).run P w' = .ok us.toArray w') ∧
      (∀ (j : Nat) (d : D), cs[j]? = some d → ∃ v, us[j]? = some v ∧ v.oneCell' = true ∧ RD w (c.im g) d v) ∧ (∀ u ∈ us, u.oneCell' = true) ∧
      (∀ ad, a = some ad → ∀ j v, us[j]? = some v → w.cell? ⟨ad.block, ad.off + j, none⟩ = some v) := by
  obtain ⟨a', cap', e, h2, h3, h4⟩ := h
  cases e
  cases a with
  | none =>
    obtain ⟨rfl, rfl, rfl, _⟩ := h3
    exact ⟨[], by simp, fun w' _ => by simp [Builtin.firstCells], fun j d hj => by simp at hj, by simp, by simp⟩
  | some ad =>
    obtain ⟨b, off, sp⟩ := ad
    obtain ⟨hs, _, h6⟩ := h3
    simp only at hs h6
    rcases hs with hs | ⟨rfl, rfl⟩
    rotate_left
    · exact ⟨[], by simp, fun w' _ => run_firstCells_some w' size 0 ⟨b, off, sp⟩ 0 cap [] (by simp) (fun j v hj => by simp at hj), fun j d hj => by simp at hj, by simp, by simp⟩
    subst hs
    have key : ∀ j, j < cs.length → ∃ v, w.cell? ⟨b, off + j, none⟩ = some v ∧ v.oneCell' = true ∧ RD w (c.im g) (cs.getD j (.s undef)) v := fun j hj => by
      obtain ⟨_, v, a1, a2, a3⟩ := h6.get j (cs[j]) (by simp [hj])
      exact ⟨v, a1, a2, by simpa [List.getD, hj] using a3⟩
    have val : ∀ j v, (cellList w b off cs.length)[j]? = some v → w.cell? ⟨b, off + j, none⟩ = some v := fun j v hj => by
      by_cases hlt : j < cs.length
      · rw [cellList_get _ _ _ _ _ hlt] at hj
        obtain ⟨u, a1, _⟩ := key j hlt
        rw [a1] at hj ⊢
        simpa using hj
      · rw [List.getElem?_eq_none (by rw [cellList_len]; omega)] at hj; cases hj
    refine ⟨cellList w b off cs.length, by rw [cellList_len, hl], fun w' hw => ?_, fun j d hj => ?_, fun u hu => ?_, fun ad e j v hj => by cases e; exact val j v hj⟩
    · exact run_firstCells_some w' size n ⟨b, off, none⟩ n cap _ (by rw [cellList_len, hl]) (fun j v hj => by
        rw [Addr.add_lit]
        have := val j v hj
        simpa [World.cell?, hw] using this)
    · have hlt : j < cs.length := (List.getElem?_eq_some_iff.1 hj).1
      obtain ⟨v, a1, a2, a3⟩ := key j hlt
      refine ⟨v, by rw [cellList_get _ _ _ _ _ hlt, a1]; rfl, a2, ?_⟩
      simpa [List.getD, hj] using a3
    · obtain ⟨j, hj, rfl⟩ := List.mem_iff_getElem.1 hu
      have hlt : j < cs.length := by simpa [cellList_len] using hj
      obtain ⟨v, a1, a2, _⟩ := key j hlt
      have := cellList_get w b off cs.length j hlt
      rw [List.getElem?_eq_getElem hj, a1] at this
      simp at this
      rw [this]; exact a2

theorem run_append_big {t1 t2 ty e e2 : TypeId} {ts : Array TypeId} {i : TypeInfo} {z : Value} (hts1 : ts[0]? = some t1) (hts2 : ts[1]? = some t2) (ht : P.underlying t1 = some (.slice e)) (ht2 : P.underlying t2 = some (.slice e2)) (hi : P.info? e = some i) (hz : i.zero = some z)
    {a a2 : Option Addr} {n m cap cap2 : Nat} {olds news : List Value}
    (ho : ∀ w', w'.heap = w.heap → (Builtin.firstCells i.size n (.slice a n cap)).run P w' = .ok olds.toArray w') (hn : ∀ w', w'.heap = w.heap → (Builtin.firstCells i.size m (.slice a2 m cap2)).run P w' = .ok news.toArray w')
    (hg : cap < n + m) (hb : (n + m) * i.bytes ≤ 140737488355328) (hby : 0 < i.bytes) :
    (Builtin.append_ ts ty #[.slice a n cap, .slice a2 m cap2]).run P w =
      .ok (.slice (some ⟨w.heap.size, 0, none⟩) (n + m) (grownCap w (n + m) cap e))
        (w.drew.alloc (.cells (olds ++ news ++ (Builtin.zeroCells z.cells (grownCap w (n + m) cap e - (n + m))).toList).toArray e)) := by
  have hn' : ¬ (n + m ≤ cap) := by omega
  have hfit := growslice_fits hg hb
  have h48' : ¬ (281474976710656 < Builtin.nextslicecap (n + m) cap * i.bytes) := by omega
  have hf := ho w.drew rfl
  have hf2 := hn w.drew rfl
  have h63' : ¬ (9223372036854775807 < ((n : Int) + (m : Int))) := by
    have : 1 ≤ i.bytes := by omega
    have := Nat.mul_le_mul_left (n + m) this
    omega
  simp [Builtin.append_, hts1, hts2, run_underlying ht, run_underlying ht2, sizeOf, typeInfo, zeroValue, hi, hz, Builtin.lenOf, hn', h63', h48', Question.forced, hf, hf2, newRow, grownCap]
  congr 2
  apply Array.ext'
  simp

theorem run_append_fits' {t1 t2 ty e e2 : TypeId} {ts : Array TypeId} {i : TypeInfo} (hts1 : ts[0]? = some t1) (hts2 : ts[1]? = some t2) (ht : P.underlying t1 = some (.slice e)) (ht2 : P.underlying t2 = some (.slice e2)) (hi : P.info? e = some i)
    {b : Nat} {a2 : Option Addr} {n m cap cap2 : Nat} {news : List Value} {cv : Array Value} {T : TypeId}
    (hn : (Builtin.firstCells i.size m (.slice a2 m cap2)).run P w = .ok news.toArray w) (hw : w.heap[b]? = some (.cells cv T (0, 0)))
    (hg : n + m ≤ cap) (hfit : n * i.size + news.length ≤ cv.size) (h1 : ∀ u ∈ news, u.oneCell' = true) :
    (Builtin.append_ ts ty #[.slice (some ⟨b, 0, none⟩) n cap, .slice a2 m cap2]).run P w =
      .ok (.slice (some ⟨b, 0, none⟩) (n + m) cap) (w.setRow b (putL cv.toList (n * i.size) news).toArray) := by
  have hst := run_storeCells_at P b (n * i.size) T news 0 cv w hw (by simpa using hfit) h1
  simp only [Nat.add_zero] at hst
  simp [Builtin.append_, hts1, hts2, run_underlying ht, run_underlying ht2, sizeOf, typeInfo, hi, Builtin.lenOf, hg, hn, Addr.add_lit, hst, putL]

/-- Nothing is appended. -/
theorem run_append_none {t1 t2 ty e e2 : TypeId} {ts : Array TypeId} {i : TypeInfo} (hts1 : ts[0]? = some t1) (hts2 : ts[1]? = some t2) (ht : P.underlying t1 = some (.slice e)) (ht2 : P.underlying t2 = some (.slice e2)) (hi : P.info? e = some i)
    {a a2 : Option Addr} {n cap cap2 : Nat} (hg : n ≤ cap) :
    (Builtin.append_ ts ty #[.slice a n cap, .slice a2 0 cap2]).run P w = .ok (.slice a n cap) w := by
  have hz : (Builtin.firstCells i.size 0 (.slice a2 0 cap2)).run P w = .ok #[] w := by
    cases a2 <;> simp [Builtin.firstCells, loadCells, loadCellsFrom]
  cases a <;> simp [Builtin.append_, hts1, hts2, run_underlying ht, run_underlying ht2, sizeOf, typeInfo, hi, Builtin.lenOf, hg, hz, storeCells]

/-- What an append leaves. -/
def AppDone (P : Program) (w0 w : World) (l : Lay) (st : St) (s : Sem Value) (key n z : Nat) (x : AV) : Prop :=
  ∃ v w' l', s.run P w = .ok v w' ∧ MR w0 w' l' { st with tok := upd st.tok key (n, z) } ∧ Cx.le w (cx w0 w l st.tok) w' (cx w0 w' l' (upd st.tok key (n, z))) ∧
    RV w' (cx w0 w' l' (upd st.tok key (n, z))) x v ∧ l'.rd = l.rd ∧ l'.be = l.be

/-- A new row for a token. -/
theorem app_big {key n m z cap : Nat} {us : List Value} {T : TypeId} (hm : MR w0 w l st) (hkey : st.tok key = none ∨ ∃ n0, st.tok key = some (n0, z) ∧ n0 < n + m) (hcap : n + m ≤ cap) (hus : us.length = cap * z) :
    ∃ l', MR w0 (w.drew.alloc (.cells us.toArray T)) l' { st with tok := upd st.tok key (n + m, z) } ∧
      Cx.le w (cx w0 w l st.tok) (w.drew.alloc (.cells us.toArray T)) (cx w0 (w.drew.alloc (.cells us.toArray T)) l' (upd st.tok key (n + m, z))) ∧ l'.rd = l.rd ∧ l'.be = l.be ∧
      l'.bt key = some (w.heap.size, cap) ∧ l'.ow w.heap.size = .tok ((n + m) * z) := by
  let w' := w.drew.alloc (.cells us.toArray T)
  have hs : w'.heap.size = w.heap.size + 1 := by simp [w']
  have hlt : ∀ i, i < w.heap.size → w'.heap[i]? = w.heap[i]? := fun i hi => Go.RowKit.Below.heap_alloc w.drew _ i hi
  let l' : Lay := { l with ow := fun b => if b = w.heap.size then .tok ((n + m) * z) else l.ow b, bt := fun k => if k = key then some (w.heap.size, cap) else l.bt k }
  have hle : Cx.le w (cx w0 w l st.tok) w' (cx w0 w' l' (upd st.tok key (n + m, z))) := by
    refine cxle_of hm rfl (fun b hb hn => (hlt b (Nat.lt_of_lt_of_le hb hm.size)).trans (hm.old b hb hn))
      (fun b o hb => ⟨⟨hb.1, by rw [hs]; exact Nat.lt_succ_of_lt hb.2.1, by simp only [l']; rw [if_neg (Nat.ne_of_lt hb.2.1)]; exact hb.2.2⟩, cell_of_heap (hlt b hb.2.1)⟩) (fun _ _ h => h) (fun k n' a c htc => ?_) (fun D hD => hlt D (hm.fzs.de D hD).2.1)
    obtain ⟨n2, z2, h1, h2, h3⟩ := htc
    by_cases hk : k = key
    · subst hk
      rcases hkey with h0 | ⟨n0, h0, h0'⟩
      · rw [h0] at h1; cases h1
      · rw [h0] at h1
        cases h1
        exact ⟨n + m, z, by simp [upd], by omega, fun e => by omega⟩
    · refine ⟨n2, z2, by simp [upd, hk, h1], h2, fun e => ?_⟩
      have := h3 e
      simpa [l', hk] using this
  refine ⟨l', ⟨hm.os, hm.tape, hm.output, by rw [hs]; exact Nat.le_succ_of_le hm.size, fun b hb hn => (hlt b (Nat.lt_of_lt_of_le hb hm.size)).trans (hm.old b hb hn), hm.bel, hm.ext, hm.extn, hm.inj, ?_, ?_, ?_, ?_, ?_, ?_, ?_, hm.rdok, ?_, ?_, hm.fzs.step (by rw [hs]; exact Nat.le_succ _) (fun D hD => hlt D (hm.fzs.de D hD).2.1) (fun D hD ho => by simp only [l']; rw [if_neg (Nat.ne_of_lt hD)]; exact ho) rfl rfl, fun k c z' hk => (by
    obtain ⟨a, b, q1, cv, T', q2, q3⟩ := hm.xtd k c z' hk
    exact ⟨by simp only [upd]; split; rfl; exact a, b, q1, cv, T', (hlt b (hm.rblt _ _ q1)).trans q2, q3⟩)⟩, hle, rfl, rfl, by simp [l'], by simp [l']⟩
  · intro r b hr
    obtain ⟨cs, h⟩ := hm.dom r b hr
    exact ⟨cs, by cases r <;> exact h⟩
  · intro r cs hr
    rcases hm.obj r cs (by cases r <;> exact hr) with e | ⟨b, h1, h2⟩
    · exact .inl e
    · exact .inr ⟨b, h1, h2.mono hle (hlt b (hm.rblt r b h1))⟩
  · intro r b hr; rw [hs]; exact Nat.lt_succ_of_lt (hm.rblt r b hr)
  · intro k b hr
    have := hm.rbow k b hr
    exact ⟨this.1, by simp only [l']; rw [if_neg (Nat.ne_of_lt (hm.rblt _ _ hr))]; exact this.2⟩
  · intro b hb
    simp only [l'] at hb
    split at hb
    · cases hb
    · exact hm.owobj b hb
  · intro b hb
    rw [hs] at hb
    simp only [l']
    rw [if_neg (by omega)]
    exact hm.owfree b (by omega)
  · intro b hb
    simp only [l']
    rw [if_neg (by have := hm.size; omega)]
    exact hm.owold b hb
  · intro k b c hk
    simp only [l'] at hk
    split at hk
    · rename_i e
      cases hk
      refine ⟨n + m, z, by simp [upd, e], by simp [l'], hm.size, by rw [hs]; exact Nat.lt_succ_self _, hcap, us.toArray, T, heap_alloc_new w.drew _, by simp [hus]⟩
    · rename_i e
      obtain ⟨n2, z2, a1, a2, a3, a4, a5, cv, T', a6, a7⟩ := hm.tokd k b c hk
      exact ⟨n2, z2, by simp [upd, e, a1], by simp only [l']; rw [if_neg (Nat.ne_of_lt a4)]; exact a2, a3, by rw [hs]; exact Nat.lt_succ_of_lt a4, a5, cv, T', (hlt b a4).trans a6, a7⟩
  · intro k k' b c c' hk hk'
    simp only [l'] at hk hk'
    split at hk <;> split at hk'
    · rename_i e e'; rw [e, e']
    · cases hk
      obtain ⟨_, _, _, _, _, h, _⟩ := hm.tokd _ _ _ hk'
      exact absurd h (Nat.lt_irrefl _)
    · cases hk'
      obtain ⟨_, _, _, _, _, h, _⟩ := hm.tokd _ _ _ hk
      exact absurd h (Nat.lt_irrefl _)
    · exact hm.tokinj _ _ _ _ _ hk hk'

/-- Into the room behind. -/
theorem app_fits {key n m z cap b : Nat} {news : List Value} {cv : Array Value} {T : TypeId} (hm : MR w0 w l st) (hkey : st.tok key = some (n, z)) (hbt : l.bt key = some (b, cap)) (hm0 : 0 < m) (hcap : n + m ≤ cap)
    (hcv : w.heap[b]? = some (.cells cv T (0, 0))) (hsz : cap * z ≤ cv.size) (hnews : news.length = m * z) :
    ∃ l', MR w0 (w.setRow b (putL cv.toList (n * z) news).toArray) l' { st with tok := upd st.tok key (n + m, z) } ∧
      Cx.le w (cx w0 w l st.tok) (w.setRow b (putL cv.toList (n * z) news).toArray) (cx w0 (w.setRow b (putL cv.toList (n * z) news).toArray) l' (upd st.tok key (n + m, z))) ∧ l'.rd = l.rd ∧ l'.be = l.be ∧
      l'.bt key = some (b, cap) ∧ l'.ow b = .tok ((n + m) * z) := by
  obtain ⟨n0, z0, t1, t2, t3, t4, t5, cv0, T0, t6, t7⟩ := hm.tokd key b cap hbt
  rw [hkey] at t1
  cases t1
  rw [hcv] at t6
  cases t6
  have hfit : n * z + news.length ≤ cv.size := by
    have := Nat.mul_le_mul_right z hcap
    rw [hnews, ← Nat.add_mul]; omega
  have hplen : (putL cv.toList (n * z) news).length = cv.size := by simp [putL]; omega
  let w' := w.setRow b (putL cv.toList (n * z) news).toArray
  have hs : w'.heap.size = w.heap.size := by simp [w']
  have hob : ∀ k, k ≠ b → w'.heap[k]? = w.heap[k]? := fun k hk => setRow_other w b k _ hk
  have hnew : w'.heap[b]? = some (.cells (putL cv.toList (n * z) news).toArray T (0, 0)) := setRow_heap w b cv _ T _ hcv
  have hold : ∀ b', b' < w0.heap.size → b' ∉ l.be → w'.heap[b']? = w0.heap[b']? := fun b' h1 h2 => by
    rw [hob b' (by omega)]; exact hm.old b' h1 h2
  let l' : Lay := { l with ow := fun b' => if b' = b then .tok ((n + m) * z) else l.ow b' }
  have hcell : ∀ o, o < n * z → w'.cell? ⟨b, o, none⟩ = w.cell? ⟨b, o, none⟩ := fun o ho => by
    rw [cell_in hnew, cell_in hcv]
    rw [← Array.getElem?_toList]
    simp only [putL]
    rw [List.getElem?_append_left (by simp; omega), List.getElem?_append_left (by simp; omega), List.getElem?_take, if_pos ho, Array.getElem?_toList]
  have hdn : ∀ D, D ∈ l.rd.d ++ l.rd.e → D ≠ b := fun D hD e => by
    subst e
    have h4 := (hm.fzs.de D hD).2.2
    rw [t2] at h4
    cases h4
  have hle : Cx.le w (cx w0 w l st.tok) w' (cx w0 w' l' (upd st.tok key (n + m, z))) := by
    refine cxle_of hm rfl hold (fun b' o hb => ?_) (fun _ _ h => h) (fun k n' a c htc => ?_) (fun D hD => hob D (hdn D hD))
    · by_cases e : b' = b
      · subst e
        have h3 : o < n * z := by have := hb.2.2; rw [t2] at this; exact this
        refine ⟨⟨hb.1, by rw [hs]; exact hb.2.1, ?_⟩, hcell o h3⟩
        simp only [l', if_true, whoLets]
        rw [Nat.add_mul]; omega
      · exact ⟨⟨hb.1, by rw [hs]; exact hb.2.1, by simp only [l']; rw [if_neg e]; exact hb.2.2⟩, cell_of_heap (hob b' e)⟩
    · obtain ⟨n2, z2, h1, h2, h3⟩ := htc
      by_cases hk : k = key
      · subst hk
        rw [hkey] at h1
        cases h1
        exact ⟨n + m, z, by simp [upd], by omega, fun e => by omega⟩
      · exact ⟨n2, z2, by simp [upd, hk, h1], h2, h3⟩
  have hnobj : ∀ r b', l.rb r = some b' → b' ≠ b := fun r b' hr e => by
    subst e
    cases r with
    | own k => rw [(hm.rbow k _ hr).2] at t2; cases t2
    | ext i => have h1 := hm.ext i; rw [hr] at h1; exact absurd (hm.bel _ (List.mem_of_getElem? h1.symm)) (Nat.not_lt.2 t3)
  refine ⟨l', ⟨hm.os, hm.tape, hm.output, by rw [hs]; exact hm.size, hold, hm.bel, hm.ext, hm.extn, hm.inj, ?_, ?_, ?_, ?_, ?_, ?_, ?_, hm.rdok, ?_, hm.tokinj, hm.fzs.step (by rw [hs]; exact Nat.le_refl _) (fun D hD => hob D (hdn D hD)) (fun D hD ho => by simp only [l']; rw [if_neg]; exact ho; intro e; subst e; rw [t2] at ho; cases ho) rfl rfl, fun k c z' hk => (by
    obtain ⟨a, b', q1, cv', T', q2, q3⟩ := hm.xtd k c z' hk
    exact ⟨by simp only [upd]; split; rfl; exact a, b', q1, cv', T', (hob b' (hnobj _ _ q1)).trans q2, q3⟩)⟩, hle, rfl, rfl, hbt, by simp [l']⟩
  · intro r b' hr
    obtain ⟨cs, h⟩ := hm.dom r b' hr
    exact ⟨cs, by cases r <;> exact h⟩
  · intro r cs hr
    rcases hm.obj r cs (by cases r <;> exact hr) with e | ⟨b', h1, h2⟩
    · exact .inl e
    · exact .inr ⟨b', h1, h2.mono hle (hob b' (hnobj r b' h1))⟩
  · intro r b' hr; rw [hs]; exact hm.rblt r b' hr
  · intro k b' hr
    have := hm.rbow k b' hr
    exact ⟨this.1, by simp only [l']; rw [if_neg (hnobj _ _ hr)]; exact this.2⟩
  · intro b' hb
    simp only [l'] at hb
    split at hb
    · cases hb
    · exact hm.owobj b' hb
  · intro b' hb
    rw [hs] at hb
    simp only [l']
    rw [if_neg (by omega)]
    exact hm.owfree b' hb
  · intro b' hb
    simp only [l']
    rw [if_neg (by omega)]
    exact hm.owold b' hb
  · intro k b' c hk
    by_cases e : k = key
    · subst e
      have hk' : l.bt k = some (b', c) := hk
      rw [hbt] at hk'
      cases hk'
      exact ⟨n + m, z, by simp [upd], by simp [l'], t3, by rw [hs]; exact t4, hcap, _, T, hnew, by simpa [hplen] using hsz⟩
    · obtain ⟨n2, z2, a1, a2, a3, a4, a5, cv2, T', a6, a7⟩ := hm.tokd k b' c hk
      have hne : b' ≠ b := fun eb => e (hm.tokinj _ _ _ _ _ (eb ▸ hk) hbt)
      exact ⟨n2, z2, by simp [upd, e, a1], by simp only [l']; rw [if_neg hne]; exact a2, a3, by rw [hs]; exact a4, a5, cv2, T', (hob b' hne).trans a6, a7⟩
end Go.Ev
end

section
set_option linter.all false
set_option linter.unusedVariables false
set_option linter.unusedSimpArgs false
namespace Go.Ev
variable {w0 w : World} {l : Lay} {st : St} {P : Program}

theorem fresh_thr {w' : World} {l' : Lay} {b o thr : Nat} (h : w0.heap.size ≤ b) (h2 : b < w'.heap.size) (h3 : l'.ow b = .tok thr) (h4 : o < thr) : fresh w0 w' l' b o := ⟨h, h2, by rw [h3]; exact h4⟩

/-- The result of an append that has written a row: the cells lie at the begin of block b. -/
theorem app_result {w' : World} {l' : Lay} {tk' : Nat → Option (Nat × Nat)} {f g g' : Bool} {k : Knd} {key n m z cap b : Nat} {cs ds : List D} {olds news : List Value}
    (hle : Cx.le w (cx w0 w l st.tok) w' (cx w0 w' l' tk')) (htk : tk' key = some (n + m, z)) (hbt : l'.bt key = some (b, cap)) (how : l'.ow b = .tok ((n + m) * z)) (hb : w0.heap.size ≤ b) (hb2 : b < w'.heap.size)
    (hcap : n + m ≤ cap) (hm0 : 0 < m) (hcs : cs.length = n * z) (hds : ds.length = m * z) (ho : olds.length = n * z)
    (hold : ∀ (j : Nat) (d : D), cs[j]? = some d → ∃ v, olds[j]? = some v ∧ v.oneCell' = true ∧ RD w ((cx w0 w l st.tok).im g) d v)
    (hnew : ∀ (j : Nat) (d : D), ds[j]? = some d → ∃ v, news[j]? = some v ∧ v.oneCell' = true ∧ RD w ((cx w0 w l st.tok).im g') d v)
    (hcells : ∀ (j : Nat) (v : Value), (olds ++ news)[j]? = some v → w'.cell? ⟨b, j, none⟩ = some v) :
    RV w' (cx w0 w' l' tk') (.sl (f || m != 0) (g && g') (if k = .U ∧ m ≠ 0 then .E else k) (.tok key) (n + m) (cs ++ ds)) (.slice (some ⟨b, 0, none⟩) (n + m) cap) := by
  have hf : (f || m != 0) = true := by
    have : (m != 0) = true := by simp; omega
    rw [this, Bool.or_true]
  rw [hf]
  simp only [RV]
  refine ⟨_, _, rfl, hcap, ⟨.inl rfl, fun _ => by omega, RDs.of_get fun j d hj => ?_⟩, ⟨n + m, z, htk, Nat.le_refl _, fun _ => by rw [hbt]; exact ⟨rfl, rfl⟩⟩⟩
  have hlt : j < (n + m) * z := by
    have := (List.getElem?_eq_some_iff.1 hj).1
    rw [List.length_append, hcs, hds, ← Nat.add_mul] at this
    exact this
  refine ⟨.inl (by rw [Nat.zero_add]; exact fresh_thr hb hb2 how hlt), ?_⟩
  have down : ∀ (x : Bool) d v, (x = true → (g && g') = true) ∨ True → RD w ((cx w0 w l st.tok).im x) d v → (∀ b o, (cx w0 w l st.tok).im x b o → (cx w0 w l st.tok).im (g && g') b o) → RD w' ((cx w0 w' l' tk').im (g && g')) d v :=
    fun x d v _ hd hx => RD.mono (fun b o h => hle.im _ b o (hx b o h)) (fun b o h => hle.cell x b o h) d v hd
  rw [List.getElem?_append] at hj
  split at hj
  · rename_i hjl
    obtain ⟨v, a1, a2, a3⟩ := hold j d hj
    refine ⟨v, ?_, a2, down g d v (.inr trivial) a3 (by cases g <;> cases g' <;> simp <;> first | exact cx_down st.tok true | (intro b o h; exact h))⟩
    rw [Nat.zero_add]
    exact hcells j v (by rw [List.getElem?_append_left (by omega)]; exact a1)
  · rename_i hjl
    obtain ⟨v, a1, a2, a3⟩ := hnew _ d hj
    refine ⟨v, ?_, a2, down g' d v (.inr trivial) a3 (by cases g <;> cases g' <;> simp <;> first | exact cx_down st.tok true | (intro b o h; exact h))⟩
    rw [Nat.zero_add]
    exact hcells j v (by rw [List.getElem?_append_right (by omega), ho, ← hcs]; exact a1)

theorem append_ok {ts : Array TypeId} {ty d : Nat} {f g f' g' : Bool} {k k' : Knd} {o o' : Own} {n m : Nat} {cs ds : List D} {e e2 : TypeId} {v1 v2 : Value} {X' : X}
    (hm : MR w0 w l st) (h : fAppendAs P d st.tok f g k n cs f' g' m ds e o = some X') (ht1 : tdesc P ts[0]? = some (.slice e)) (ht2 : tdesc P ts[1]? = some (.slice e2))
    (hv1 : RS w (cx w0 w l st.tok) f g k o n cs v1) (hv2 : RS w (cx w0 w l st.tok) f' g' k' o' m ds v2) :
    ∃ key x, X' = .tok x (key, n + m, P.cellsOf e) ∧ AppDone P w0 w l st (Builtin.append_ ts ty #[v1, v2]) key (n + m) (P.cellsOf e) x := by
  obtain ⟨t1, hts1, hu1⟩ := tdesc_some ht1
  obtain ⟨t2, hts2, hu2⟩ := tdesc_some ht2
  have hv1' := hv1
  have hv2' := hv2
  obtain ⟨a, cap, rfl, hncap, hsh, hown⟩ := hv1
  obtain ⟨a2, cap2, rfl, hmcap, hsh2, _⟩ := hv2
  -- what both forms of the source give
  have main : ∀ key, (n + m) * P.bytesOf e ≤ 140737488355328 → cs.length = n * P.cellsOf e → ds.length = m * P.cellsOf e → 0 < P.bytesOf e → zeroOk P e = true →
      (st.tok key = none ∧ cap = n ∨ st.tok key = some (n, P.cellsOf e) ∧ l.live key n n a cap) →
      AppDone P w0 w l st (Builtin.append_ ts ty #[.slice a n cap, .slice a2 m cap2]) key (n + m) (P.cellsOf e)
        (.sl (f || m != 0) (g && g') (if k = .U ∧ m ≠ 0 then .E else k) (.tok key) (n + m) (cs ++ ds)) := by
    intro key c1 c2 c3 c5 c6 hkey
    obtain ⟨i, zv, hi, hz, hzs, his, hib⟩ := zeroOk_spec c6
    by_cases hm0 : m = 0
    · subst hm0
      have hds : ds = [] := List.eq_nil_of_length_eq_zero (by simpa using c3)
      subst hds
      refine ⟨_, w, l, run_append_none hts1 hts2 hu1 hu2 hi hncap, ?_, ?_, ?_, rfl, rfl⟩
      · have hmr : MR w0 w l { st with tok := upd st.tok key (n + 0, P.cellsOf e) } := by
          have htc : ∀ k2 n2 a2 c2, (cx w0 w l st.tok).tc k2 n2 a2 c2 → (cx w0 w l (upd st.tok key (n + 0, P.cellsOf e))).tc k2 n2 a2 c2 := by
            intro k2 n2 a2 c2 ⟨n3, z3, h1, h2, h3⟩
            by_cases hk : k2 = key
            · subst hk
              rcases hkey with ⟨h0, _⟩ | ⟨h0, _⟩
              · rw [h0] at h1; cases h1
              · rw [h0] at h1; cases h1; exact ⟨n, P.cellsOf e, by simp [upd], h2, h3⟩
            · exact ⟨n3, z3, by simp [upd, hk, h1], h2, h3⟩
          have hle : Cx.le w (cx w0 w l st.tok) w (cx w0 w l (upd st.tok key (n + 0, P.cellsOf e))) := ⟨fun _ _ _ h => h, fun _ _ _ _ => rfl, fun _ _ h => h, htc, fun _ h => h, fun _ _ => rfl, fun _ _ _ h => h⟩
          refine ⟨hm.os, hm.tape, hm.output, hm.size, hm.old, hm.bel, hm.ext, hm.extn, hm.inj, fun r b hr => ?_, fun r cs hr => ?_, hm.rblt, hm.rbow, hm.owobj, hm.owfree, hm.owold, hm.rdok, fun k2 b c hk => ?_, hm.tokinj, hm.fzs, fun k c z' hk => ⟨(by simp only [upd]; split; rfl; exact (hm.xtd k c z' hk).1), (hm.xtd k c z' hk).2⟩⟩
          · obtain ⟨cs, h⟩ := hm.dom r b hr; exact ⟨cs, by cases r <;> exact h⟩
          · rcases hm.obj r cs (by cases r <;> exact hr) with e | ⟨b, h1, h2⟩
            · exact .inl e
            · exact .inr ⟨b, h1, h2.mono hle rfl⟩
          · obtain ⟨n3, z3, a1, a2⟩ := hm.tokd k2 b c hk
            by_cases hk2 : k2 = key
            · subst hk2
              rcases hkey with ⟨h0, _⟩ | ⟨h0, _⟩
              · rw [h0] at a1; cases a1
              · rw [h0] at a1; cases a1; exact ⟨n, P.cellsOf e, by simp [upd], a2⟩
            · exact ⟨n3, z3, by simp [upd, hk2, a1], a2⟩
        exact hmr
      · refine ⟨fun _ _ _ h => h, fun _ _ _ _ => rfl, fun _ _ h => h, ?_, fun _ h => h, fun _ _ => rfl, fun _ _ _ h => h⟩
        intro k2 n2 a2 c2 ⟨n3, z3, h1, h2, h3⟩
        by_cases hk : k2 = key
        · subst hk
          rcases hkey with ⟨h0, _⟩ | ⟨h0, _⟩
          · rw [h0] at h1; cases h1
          · rw [h0] at h1; cases h1; exact ⟨n, P.cellsOf e, by simp [upd], h2, h3⟩
        · exact ⟨n3, z3, by simp [upd, hk, h1], h2, h3⟩
      · simp only [RV]
        refine ⟨a, cap, rfl, hncap, ?_, ⟨n, P.cellsOf e, by simp [upd], Nat.le_refl _, fun _ => ?_⟩⟩
        · have hg : ∀ b o, (cx w0 w l st.tok).im g b o → (cx w0 w l (upd st.tok key (n + 0, P.cellsOf e))).im (g && g') b o := by
            cases g <;> cases g' <;> simp <;> first | exact cx_down st.tok true | (intro b o h; exact h)
          cases a with
          | none => simpa using hsh
          | some ad =>
            refine ⟨by simpa using hsh.1, by simpa using hsh.2.1, ?_⟩
            have := RDs.mono (i1' := (cx w0 w l (upd st.tok key (n + 0, P.cellsOf e))).im (f || 0 != 0)) (w' := w) (by cases f <;> simp <;> (intro b o h; exact h)) (fun _ _ _ => rfl) hg (fun _ _ _ => rfl) cs _ _ hsh.2.2
            simpa using this
        · rcases hkey with ⟨h0, hc⟩ | ⟨h0, hl⟩
          · have : l.bt key = none := by
              cases hb : l.bt key with
              | none => rfl
              | some bc => obtain ⟨b, c⟩ := bc; obtain ⟨_, _, h, _⟩ := hm.tokd key b c hb; rw [h0] at h; cases h
            rw [this]; exact hc
          · exact hl rfl
    · have hmpos : 0 < m := Nat.pos_of_ne_zero hm0
      obtain ⟨olds, o1, o2, o3, o4, o5⟩ := slice_cells (P := P) hv1' (size := i.size) (by rw [his]; exact c2)
      obtain ⟨news, n1, n2, n3, n4, n5⟩ := slice_cells (P := P) hv2' (size := i.size) (by rw [his]; exact c3)
      by_cases hroom : n + m ≤ cap
      · -- room
        rcases hkey with ⟨_, hc⟩ | ⟨h0, hl⟩
        · omega
        · have hl' := hl rfl
          cases hbt : l.bt key with
          | none => rw [hbt] at hl'; simp only at hl'; omega
          | some bc =>
            obtain ⟨b, cap'⟩ := bc
            rw [hbt] at hl'
            obtain ⟨rfl, rfl⟩ := hl'
            obtain ⟨n9, z9, q1, q2, q3, q4, q5, cv, T, q6, q7⟩ := hm.tokd key b cap hbt
            rw [h0] at q1
            cases q1
            have hfit : n * i.size + news.length ≤ cv.size := by
              rw [n1, his, ← Nat.add_mul]
              exact Nat.le_trans (Nat.mul_le_mul_right _ hroom) q7
            have hr := run_append_fits' (P := P) (w := w) (ty := ty) hts1 hts2 hu1 hu2 hi (n2 w rfl) q6 hroom hfit n4
            rw [his] at hr n1 o1 hfit
            obtain ⟨l', m1, m2, m3, m4, m5, m6⟩ := app_fits (m := m) hm h0 hbt hmpos hroom q6 q7 n1
            refine ⟨_, _, l', hr, m1, m2, ?_, m3, m4⟩
            refine app_result m2 (by simp [upd]) m5 m6 q3 (by simpa using q4) hroom hmpos c2 c3 o1 o3 n3 (fun j v hj => ?_)
            rw [cell_in (setRow_heap w b cv _ T _ q6)]
            have ho : ∀ j v, olds[j]? = some v → cv[j]? = some v := fun j v hj => by
              have := o5 ⟨b, 0, none⟩ rfl j v hj
              rw [Nat.zero_add, cell_in q6] at this
              exact this
            simp only [putL]
            rw [List.getElem?_append] at hj
            split at hj
            · rename_i hjl
              have h9 := ho j v hj
              rw [← Array.getElem?_toList, List.getElem?_append_left (by simp; omega), List.getElem?_append_left (by simp; omega), List.getElem?_take, if_pos (by omega), Array.getElem?_toList]
              exact h9
            · rename_i hjl
              have hj2 : j - olds.length < news.length := (List.getElem?_eq_some_iff.1 hj).1
              rw [← Array.getElem?_toList, List.getElem?_append_left (by simp; omega), List.getElem?_append_right (by simp; omega)]
              have : (cv.toList.take (n * P.cellsOf e)).length = olds.length := by simp; omega
              rw [this]
              exact hj
      · -- a new row
        have hr := run_append_big (P := P) (w := w) (ty := ty) hts1 hts2 hu1 hu2 hi hz o2 n2 (by omega) (by rw [hib]; exact c1) (by rw [hib]; exact c5)
        have hge := grownCap_ge w (n + m) cap e
        let us := olds ++ news ++ (Builtin.zeroCells zv.cells (grownCap w (n + m) cap e - (n + m))).toList
        have hus : us.length = grownCap w (n + m) cap e * P.cellsOf e := by
          simp only [us, List.length_append, o1, n1, his, Array.length_toList, size_zeroCells, hzs, ← Nat.add_mul]
          congr 1; omega
        obtain ⟨l', m1, m2, m3, m4, m5, m6⟩ := app_big (T := e) (n := n) (m := m) (z := P.cellsOf e) (key := key) hm (by
          rcases hkey with ⟨h0, _⟩ | ⟨h0, _⟩
          · exact .inl h0
          · exact .inr ⟨n, h0, by omega⟩) hge hus
        refine ⟨_, _, l', hr, m1, m2, ?_, m3, m4⟩
        rw [his] at o1 n1
        refine app_result m2 (by simp [upd]) m5 m6 hm.size (by simp) hge hmpos c2 c3 o1 o3 n3 (fun j v hj => ?_)
        have hh : (w.drew.alloc (.cells us.toArray e)).heap[w.heap.size]? = some (.cells us.toArray e) := heap_alloc_new w.drew _
        rw [cell_in hh]
        have hlt := (List.getElem?_eq_some_iff.1 hj).1
        rw [← Array.getElem?_toList, List.getElem?_append_left hlt]
        exact hj
  cases o with
  | no => cases h
  | grw _ _ => cases h
  | full =>
    simp only [fAppendAs] at h
    split at h
    · rename_i hc
      cases h
      obtain ⟨c1, c2, c3, c4, c5, c6, c7⟩ := hc
      exact ⟨d, _, rfl, main d c1 c2 c3 c5 c6 (.inl ⟨c7, hown⟩)⟩
    · cases h
  | tok key =>
    simp only [fAppendAs] at h
    split at h
    · rename_i hc
      cases h
      obtain ⟨c1, c2, c3, c4, c5, c6, c7⟩ := hc
      obtain ⟨n', z', h1, h2, h3⟩ := hown
      rw [c7] at h1
      cases h1
      exact ⟨key, _, rfl, main key c1 c2 c3 c5 c6 (.inr ⟨c7, h3⟩)⟩
    · cases h
end Go.Ev
end

section
set_option linter.all false
set_option linter.unusedVariables false
set_option linter.unusedSimpArgs false
namespace Go.Ev
variable {w0 w : World} {l : Lay} {st : St} {P : Program}

/-- The state behind an operation. -/
def Good (w0 w : World) (l : Lay) (st : St) (a : Act) : Prop := MR w0 w l st ∧ ER w (cx w0 w l st.tok) st a.tmps

/-- An operation that is done, without a call. -/
def OpDone (P : Program) (w0 w : World) (l : Lay) (o : Oper) (a : Act) (st' : St) : Prop :=
  ∃ v n w' l', (n = .value v ∨ (n = .skip ∧ v = undef)) ∧ (execOp a.eval o).run P w = .ok n w' ∧ Good w0 w' l' st' (a.put o.dst v) ∧ l'.rd = l.rd ∧ l'.be = l.be

theorem MR.put {d : Option Nat} {x : AV} (h : MR w0 w l st) : MR w0 w l (st.put d x) := h.env _ (St.put_own ..) (St.put_ext ..) (St.put_tok ..)

theorem Good.put {a : Act} {d : Option Nat} {x : AV} {v : Value} (h : Good w0 w l st a) (hd : dstOk st.nt d = true) (hv : RV w (cx w0 w l st.tok) x v) : Good w0 w l (st.put d x) (a.put d v) :=
  ⟨h.1.put, by rw [St.put_tok]; exact h.2.put hd hv⟩

theorem Good.alloc {a : Act} (h : Good w0 w l st a) (o : Obj) : Good w0 (w.alloc o) l st a := ⟨(h.1.alloc o).1, h.2.mono (h.1.alloc o).2⟩

theorem quiet_done {o : Oper} {a : Act} {xs : List AV} {os : List (List AV)} {x : AV} (h : Good w0 w l st a) (hq : quiet o.op = true) (hd : dstOk st.nt o.dst = true)
    (hx : st.opds o.op.operands.toList = some xs) (hos : st.mems (foot st o.op xs) = some os) (he : execQ P o.op xs os = some x) : OpDone P w0 w l o a (st.put o.dst x) := by
  obtain ⟨v, w', h1, h2, h3⟩ := execQ_sound (P := P) h.1 hq he hos (opds_sound h.2 hx)
  refine ⟨v, _, w', l, .inl rfl, h1, ?_, rfl, rfl⟩
  rcases h2 with rfl | ⟨ob, rfl⟩
  · exact h.put hd h3
  · exact (h.alloc ob).put hd h3

/-! ### The effects that are no calls -/
theorem mem_one {r : Ref} {os : List (List AV)} (h : st.mems [r] = some os) : ∃ cs, os = [cs] ∧ st.mem r = some cs := by
  simp only [St.mems] at h
  obtain ⟨cs, h1, h⟩ := bnd_eq h
  simp at h
  exact ⟨cs, h.symm, h1⟩

theorem store_run {t : TypeId} {b off : Nat} {v : Value} {cv : Array Value} {T : TypeId} (hi : ∃ i, P.info? t = some i) (hsz : v.cells.size = P.cellsOf t) (hcv : w.heap[b]? = some (.cells cv T (0, 0)))
    (hfit : off + v.cells.size ≤ cv.size) (h1 : ∀ u ∈ v.cells.toList, u.oneCell' = true) :
    (Instr.storeAt t (.pointer (some ⟨b, off, none⟩)) v).run P w = .ok () (w.setRow b (putL cv.toList off v.cells.toList).toArray) := by
  obtain ⟨i, hi⟩ := hi
  have := run_storeCells_at P b off T v.cells.toList 0 cv w hcv (by simpa using hfit) h1
  simp only [Nat.add_zero] at this
  simp [Instr.storeAt, Instr.sureAddr, storeVar, run_sizeOf' hi, hsz, this, putL]

theorem putAt_len {cs xs : List AV} {off : Nat} (h : off + xs.length ≤ cs.length) : (putAt cs off xs).length = cs.length := by simp [putAt]; omega

theorem store_done {o : Oper} {a : Act} {t : TypeId} {y z : Operand} {xs : List AV} {os : List (List AV)} {X' : X} (h : Good w0 w l st a) (hop : o.op = .store t y z) (hd : dstOk st.nt o.dst = true)
    (hx : st.opds o.op.operands.toList = some xs) (hos : st.mems (foot st o.op xs) = some os) (he : fStore P t xs os = some X') : ∃ st', X'.run st o (foot st o.op xs) = .go st' ∧ OpDone P w0 w l o a st' := by
  have hv := opds_sound h.2 hx
  rw [hop] at hv hos ⊢
  simp only [Op.operands, List.map_cons, List.map_nil, foot] at hv hos ⊢
  unfold fStore at he
  split at he
  · rename_i r off x cs
    split at he
    · rename_i hc
      cases he
      obtain ⟨c0, c1, c2, c3⟩ := hc
      obtain ⟨v, u, e, h1, h2⟩ := RVs_two hv
      simp at e
      obtain ⟨e1, e2⟩ := e
      simp only [RV] at h1
      obtain ⟨b, hb, hvp⟩ := h1
      simp only [footP] at hos ⊢
      obtain ⟨cs', e3, hmem⟩ := mem_one hos
      cases e3
      have hb2 : l.rb r = some b := hb
      obtain ⟨b', hb', cv, T, q1, q2, q3⟩ := (h.1.obj r cs hmem).resolve_left fun x => by rw [hb2] at x; cases x.2
      rw [hb2] at hb'
      cases hb'
      obtain ⟨k1, k2⟩ := cells_sound c3 h2
      have hlen : u.cells.size = x.cells.length := by rw [← Array.length_toList]; exact k1.length
      have hinfo : ∃ i, P.info? t = some i := Option.isSome_iff_exists.1 c0
      have hrun := store_run (P := P) (w := w) (t := t) (v := u) (b := b) (off := off) hinfo (by rw [hlen, c1]) q1 (by omega) k2
      have hpl : (putL cv.toList off u.cells.toList).length = cv.size := by simp [putL]; omega
      obtain ⟨m1, m2⟩ := h.1.store r cs hmem b hb2 (putAt cs off x.cells) cv (putL cv.toList off u.cells.toList).toArray T q1 (by rw [putAt_len c2]; simp [hpl]; omega) (.inr trivial) (fun j y hj => by
        have hcvl : cv.toList.length = cv.size := by simp
        simp only [putAt, putL] at hj ⊢
        rw [← Array.getElem?_toList]
        rw [List.getElem?_append] at hj
        split at hj
        · rename_i hjl
          rw [List.getElem?_append] at hj
          split at hj
          · rename_i hj2
            rw [List.getElem?_take] at hj
            split at hj
            · rename_i hj3
              obtain ⟨v2, a1, a2, a3⟩ := q3 j y hj
              refine ⟨v2, ?_, a2, a3⟩
              rw [List.getElem?_append_left (by simp; omega), List.getElem?_append_left (by simp; omega), List.getElem?_take, if_pos hj3, Array.getElem?_toList]; exact a1
            · cases hj
          · rename_i hj2
            have hl2 : (cs.take off).length = off := by simp; omega
            have hl3 : (cv.toList.take off).length = off := by simp; omega
            obtain ⟨v2, a1, a3⟩ := k1.get _ _ hj
            refine ⟨v2, ?_, k2 v2 (List.mem_of_getElem? a1), a3⟩
            rw [hl2] at a1
            rw [List.getElem?_append_left (by simp at hjl ⊢; omega), List.getElem?_append_right (by omega), hl3]
            exact a1
        · rename_i hjl
          have hl2 : (cs.take off ++ x.cells).length = off + x.cells.length := by simp; omega
          have hl3 : (cv.toList.take off ++ u.cells.toList).length = off + x.cells.length := by simp; omega
          rw [hl2] at hj hjl
          rw [List.getElem?_drop] at hj
          obtain ⟨v2, a1, a2, a3⟩ := q3 _ y hj
          refine ⟨v2, ?_, a2, a3⟩
          rw [List.getElem?_append_right (by omega), hl3, List.getElem?_drop, Array.getElem?_toList, Array.length_toList, hlen]
          exact a1) (by simp [hpl])
      refine ⟨_, rfl, undef, .skip, w.setRow b (putL cv.toList off u.cells.toList).toArray, l, .inr ⟨rfl, rfl⟩, ?_, ?_, rfl, rfl⟩
      · have ey : a.eval y = .pointer (some ⟨b, off, none⟩) := by rw [e1]; exact hvp
        have ez : a.eval z = u := e2
        simp only [execOp, hop, ey, ez]
        simp [hrun]
      · have g1 : Good w0 (w.setRow b (putL cv.toList off u.cells.toList).toArray) l (st.setMem r (putAt cs off x.cells)) a := by
          refine ⟨m1, ?_⟩
          have et : (st.setMem r (putAt cs off x.cells)).tok = st.tok := by cases r <;> rfl
          have ee : (st.setMem r (putAt cs off x.cells)).env = st.env := by cases r <;> rfl
          have en : (st.setMem r (putAt cs off x.cells)).nt = st.nt := by cases r <;> rfl
          rw [et]
          have := h.2.mono m2
          exact ⟨by rw [en]; exact this.1, fun d x hdx => by rw [ee] at hdx; rw [en]; exact this.2 d x hdx⟩
        have := g1.put (d := o.dst) (x := .s (.tuple #[])) (v := undef) (by cases r <;> exact hd) (by simp [RV, undef])
        simpa [X.run, St.setAll] using this
    · cases he
  · cases he

theorem Good.newObj {a : Act} (h : Good w0 w l st a) (k : Nat) (hk : st.own k = none) (cells : List AV) (vs : List Value) (T : TypeId) (hv : RVs w (cx w0 w l st.tok) cells vs) (h1 : ∀ u ∈ vs, u.oneCell' = true) :
    ∃ l', Good w0 (w.alloc (.cells vs.toArray T)) l' { st with own := upd st.own k cells } a ∧ l'.rb (.own k) = some w.heap.size ∧ l'.rd = l.rd ∧ l'.be = l.be := by
  have hrb : l.rb (.own k) = none := by
    cases hh : l.rb (.own k) with
    | none => rfl
    | some b => obtain ⟨cs, hc⟩ := h.1.dom _ _ hh; simp [St.mem, hk] at hc
  obtain ⟨l', m1, m2, m3, m4, m5⟩ := h.1.newObj' k hk cells vs T hv h1
  exact ⟨l', ⟨m1, (h.2.mono m2)⟩, m3, m4, m5⟩

theorem alloc_done {o : Oper} {a : Act} {t : TypeId} {X' : X} (h : Good w0 w l st a) (hop : o.op = .alloc t) (hd : dstOk st.nt o.dst = true)
    (he : fAlloc st.own o.dst (zeroCells P t) = some X') : ∃ st', X'.run st o [] = .go st' ∧ OpDone P w0 w l o a st' := by
  unfold fAlloc at he
  split at he
  · rename_i d z hdst hz
    split at he
    · rename_i hc
      cases he
      obtain ⟨zv, z1, z2⟩ := zeroCells_run hz w
      have hv : RVs w (cx w0 w l st.tok) z zv.cells.toList := by rw [z2]; exact RVs.ofCells _
      obtain ⟨l', g1, g2, g3, g4⟩ := h.newObj d hc.2 z zv.cells.toList t hv (hv.all1 hc.1)
      refine ⟨_, rfl, .pointer (some ⟨w.heap.size, 0, none⟩), .value (.pointer (some ⟨w.heap.size, 0, none⟩)), w.alloc (.cells zv.cells.toList.toArray t), l', .inl rfl, ?_, ?_, g3, g4⟩
      · simp [execOp, hop, Instr.alloc, z1, newVar, newRow]
      · have := g1.put (d := o.dst) (x := .ptr (.own d) 0) (v := .pointer (some ⟨w.heap.size, 0, none⟩)) hd (by simp only [RV]; exact ⟨_, g2, rfl⟩)
        simpa [X.run, St.setAll] using this
    · cases he
  · cases he

theorem box_done {o : Oper} {a : Act} {t : TypeId} {y : Operand} {xs : List AV} {X' : X} (h : Good w0 w l st a) (hop : o.op = .box t y) (hd : dstOk st.nt o.dst = true)
    (hx : st.opds o.op.operands.toList = some xs) (he : fBox st.own o.dst xs = some X') : ∃ st', X'.run st o [] = .go st' ∧ OpDone P w0 w l o a st' := by
  have hv := opds_sound h.2 hx
  rw [hop] at hv
  simp only [Op.operands, List.map_cons, List.map_nil] at hv
  unfold fBox at he
  split at he
  · rename_i d x hdst
    split at he
    · rename_i hc
      cases he
      obtain ⟨v, e, h1⟩ := RVs_one hv
      simp at e
      obtain ⟨k1, k2⟩ := cells_sound hc.1 h1
      obtain ⟨l', g1, g2, g3, g4⟩ := h.newObj d hc.2 x.cells v.cells.toList t k1 k2
      refine ⟨_, rfl, .pointer (some ⟨w.heap.size, 0, none⟩), .value (.pointer (some ⟨w.heap.size, 0, none⟩)), w.alloc (.cells v.cells.toList.toArray t), l', .inl rfl, ?_, ?_, g3, g4⟩
      · simp [execOp, hop, Instr.box, newVar, newRow, e]
      · have := g1.put (d := o.dst) (x := .ptr (.own d) 0) (v := .pointer (some ⟨w.heap.size, 0, none⟩)) hd (by simp only [RV]; exact ⟨_, g2, rfl⟩)
        simpa [X.run, St.setAll] using this
    · cases he
  · cases he

theorem assign_done {o : Oper} {a : Act} {y : Operand} {xs : List AV} {X' : X} (h : Good w0 w l st a) (hop : o.op = .assign y) (hd : dstOk st.nt o.dst = true)
    (hx : st.opds o.op.operands.toList = some xs) (he : fAssign xs = some X') : ∃ st', X'.run st o [] = .go st' ∧ OpDone P w0 w l o a st' := by
  have hv := opds_sound h.2 hx
  rw [hop] at hv
  simp only [Op.operands, List.map_cons, List.map_nil] at hv
  unfold fAssign at he
  split at he
  · cases he
    obtain ⟨v, e, h1⟩ := RVs_one hv
    simp at e
    refine ⟨_, rfl, v, .value v, w, l, .inl rfl, by simp [execOp, hop, e], ?_, rfl, rfl⟩
    exact h.put hd h1
  · cases he

theorem append_done {o : Oper} {a : Act} {c : Call} {xs : List AV} {X' : X} (h : Good w0 w l st a) (hop : o.op = .call c) (hc : c.callee = .builtin .append) (hd : dstOk st.nt o.dst = true)
    (hx : st.opds o.op.operands.toList = some xs) (he : fAppend P st.tok (tdesc P c.argTypes[0]?) (tdesc P c.argTypes[1]?) o.dst xs = some X') : ∃ st', X'.run st o [] = .go st' ∧ OpDone P w0 w l o a st' := by
  have hv := opds_sound h.2 hx
  obtain ⟨callee, args, argTypes⟩ := c
  simp only at hc he
  subst hc
  rw [hop] at hv
  unfold fAppend at he
  split at he
  · rename_i e e2 d f g k ow n cs f' g' k' o' m ds hd1 hd2 hdst
    have hv' : RVs w (cx w0 w l st.tok) [.sl f g k ow n cs, .sl f' g' k' o' m ds] (args.map a.eval).toList := by simpa [Op.operands, Call.operands] using hv
    obtain ⟨v1, v2, e3, r1, r2⟩ := RVs_two hv'
    simp only [RV] at r1 r2
    have hargs : args.map a.eval = #[v1, v2] := by apply Array.ext'; simpa using e3
    obtain ⟨key, x, rfl, v, w', l', q1, q2, q3, q4, q5, q6⟩ := append_ok (ty := o.type) h.1 he hd1 hd2 r1 r2
    refine ⟨_, rfl, v, .value v, w', l', .inl rfl, ?_, ?_, q5, q6⟩
    · simp [execOp, hop, resolve, invoke, builtin, hargs, q1]
    · have g1 : Good w0 w' l' { st with tok := upd st.tok key (n + m, P.cellsOf e) } a := ⟨q2, h.2.mono q3⟩
      exact g1.put hd q4
  · cases he
end Go.Ev
end

section
set_option linter.all false
set_option linter.unusedVariables false
set_option linter.unusedSimpArgs false
namespace Go.Ev
variable {w0 w : World} {l : Lay} {st : St} {P : Program}

def c0 (rd : Rd) (be : List Nat) : Cx where
  im _ := rd.c
  fz := rd.z
  rb r := match r with | .ext i => be[i]? | .own _ => none
  tc _ _ _ _ := False
  xc _ _ _ := False
def c1 (w w' : World) (rd : Rd) (be : List Nat) (ob : Nat → Option Nat) : Cx where
  im f b o := (w.heap.size ≤ b ∧ b < w'.heap.size ∧ ∀ k, ob k ≠ some b) ∨ (f = false ∧ rd b o)
  rb r := match r with | .ext i => be[i]? | .own k => ob k
  tc _ _ _ _ := False
  xc _ _ _ := False
  fz := rd.z

/-- What lay there is as it was, but for the blocks 'be'. -/
structure Framed (w w' : World) (be : List Nat) : Prop where
  os : w'.os = w.os
  tape : w'.tape = w.tape
  output : w'.output = w.output
  size : w.heap.size ≤ w'.heap.size
  old : ∀ b, b < w.heap.size → b ∉ be → w'.heap[b]? = w.heap[b]?

structure RetR (w : World) (rd : Rd) (be : List Nat) (r : AV) (ext : List (List AV)) (own : List (Nat × List AV)) (v : Value) (w' : World) (ob : Nat → Option Nat) : Prop where
  fr : Framed w w' be
  len : ext.length = be.length
  inj : ∀ k k' b, ob k = some b → ob k' = some b → k = k'
  lt : ∀ k b, ob k = some b → w.heap.size ≤ b ∧ b < w'.heap.size
  dom : ∀ k b, ob k = some b → ∃ cs, (k, cs) ∈ own
  nodup : (own.map (·.1)).Nodup
  objs : ∀ p ∈ own, (p.2 = [] ∧ ob p.1 = none) ∨ ∃ b, ob p.1 = some b ∧ objR w' (c1 w w' rd be ob) b p.2
  exts : ∀ (i b : Nat) (cs : List AV), be[i]? = some b → ext[i]? = some cs → objR w' (c1 w w' rd be ob) b cs
  ret : RV w' (c1 w w' rd be ob) r v

/-- A slice in new memory, with the room behind it. -/
def TokR (w w' : World) (k : Knd) (n z : Nat) (cs : List D) (cap : Nat) : Option Addr → Prop
  | none => n = 0 ∧ cap = 0 ∧ cs = [] ∧ k ≠ .E
  | some ad => (ad.spot = none ∨ (n = 0 ∧ cs = [])) ∧ (k = .Z → n ≠ 0) ∧ cs.length ≤ n * z ∧ RDs w' (fun b _ => w.heap.size ≤ b ∧ b < w'.heap.size) (fun _ _ => False) cs ad.block ad.off ∧
      (cap = n ∨ (ad.spot = none ∧ ad.off = 0 ∧ w.heap.size ≤ ad.block ∧ ∃ (cv : Array Value) (T : TypeId), w'.heap[ad.block]? = some (Obj.cells cv T (0, 0)) ∧ cap * z ≤ cv.size))
def OutR (w : World) (rd : Rd) (be : List Nat) : Out → Ending → World → Prop
  | .ret r ext own, e, w' => ∃ v ob, e = .returned v ∧ RetR w rd be r ext own v w' ob
  | .rtok k n z cs, e, w' => ∃ a cap, e = .returned (.slice a n cap) ∧ Framed w w' be ∧ n ≤ cap ∧ TokR w w' k n z cs cap a
  | .pan x, e, w' => e = .panicked [{ v := x, recovered := false }] ∧ Framed w w' be

def Callable (P : Program) (f : FuncId) : Prop := ∃ fn c, P.funcs[f]? = some fn ∧ fn.body = some c ∧ (fn.name == "runtime.NumGoroutine") = false

structure Pre (w : World) (rd : Rd) (be : List Nat) (args : List AV) (ext : List (List AV)) (vs : List Value) : Prop where
  rdok : ∀ b o, rd b o → b < w.heap.size ∧ b ∉ be
  rdz : ∀ b, rd.z b → b < w.heap.size ∧ b ∉ be
  nodup : be.Nodup
  len : be.length = ext.length
  lt : ∀ b ∈ be, b < w.heap.size
  exts : ∀ (i b : Nat) (cs : List AV), be[i]? = some b → ext[i]? = some cs → objR w (c0 rd be) b cs
  args : RVs w (c0 rd be) args vs

/-- A call of what a loop over a function hands out. -/
def YieldWp (P : Program) (l : Nat) (vs : Array Value) (w : World) (R : Ending → World → Prop) : Prop :=
  ∃ fn tmps assign body, (Instr.yield l vs).run P w = .ok (.round l fn tmps assign body) w ∧ RoundIn Fence.wide 0 P l fn tmps assign body w R
/-- What is known of a round. -/
def ACallsY (P : Program) (args : List AV) (ext : List (List AV)) (out : Out) : Prop :=
  (∃ d : Int, args = [.s (.int .i64 d)]) ∨ ∃ xs l G rs, args = xs ++ [.yl l G rs] ∧ ∀ (w : World) (rd : Rd) (be : List Nat) (vs : List Value) (v : Value), Pre w rd be args ext (vs ++ [v]) → vs.length = xs.length → YieldWp P l vs.toArray w (OutR w rd be out)
/-- The contract of a function, over abstract values. -/
def ACalls (P : Program) (f : FuncId) (args : List AV) (ext : List (List AV)) (out : Out) : Prop :=
  if f = YID then ACallsY P args ext out else
  Callable P f ∧ ∀ (w : World) (rd : Rd) (be : List Nat) (vs : Array Value), Pre w rd be args ext vs.toList → Calls P f vs w (OutR w rd be out)

def Sound (P : Program) (Γ : Gam) : Prop := ∀ f args ext out, Γ f args ext = some out → ACalls P f args ext out

theorem bnd_eq' {α β : Type} {x : Option α} {f : α → Option β} {b : β} (h : bnd x f = some b) : ∃ a, x = some a ∧ f a = some b := by
  cases x with
  | none => cases h
  | some a => exact ⟨a, rfl, h⟩
theorem mapRs_sound {rb rb' : Ref → Option Nat} {ρ : Ref → Option Ref} (hρ : ∀ r r' b, ρ r = some r' → rb r = some b → rb' r' = some b) : ∀ {rs rs' : List Ref} {bs : List Nat}, mapRs ρ rs = some rs' → RefsB rb rs bs → RefsB rb' rs' bs
  | [], rs', [], h, _ => by simp [mapRs] at h; subst h; trivial
  | [], _, _ :: _, _, h => h.elim
  | _ :: _, _, [], _, h => h.elim
  | r :: rs, rs', b :: bs, h, hb => by
    simp only [mapRs] at h
    obtain ⟨r', h1, h⟩ := bnd_eq' h
    obtain ⟨rs2, h2, h⟩ := bnd_eq' h
    cases h
    exact ⟨hρ r r' b h1 hb.1, mapRs_sound hρ h2 hb.2⟩

/-! ### names of objects are turned -/
mutual
theorem RV.mapRef {c c' : Cx} {ρ : Ref → Option Ref} (him : ∀ f b o, c.im f b o → c'.im f b o) (htc : ∀ k n a cap, c.tc k n a cap → c'.tc k n a cap) (hρ : ∀ r r' b, ρ r = some r' → c.rb r = some b → c'.rb r' = some b) (hfz : ∀ b, c.fz b → c'.fz b) :
    ∀ (x : AV) (v : Value), RV w c x v → RV w c' (x.mapRef ρ) v
  | .s x, v, hv => by simpa [RV, AV.mapRef] using hv
  | .sl .., v, hv => by
    simp only [RV, AV.mapRef] at hv ⊢
    obtain ⟨a, cap, h1, h2, h3, h4⟩ := hv
    refine ⟨a, cap, h1, h2, ?_, ?_⟩
    · cases a with
      | none => exact h3
      | some ad => exact ⟨h3.1, h3.2.1, RDs.mono (him _) (fun _ _ _ => rfl) (him _) (fun _ _ _ => rfl) _ _ _ h3.2.2⟩
    · rename_i o _ _
      cases o with
      | no => trivial
      | full => exact h4
      | tok key => exact htc _ _ _ _ h4
      | grw _ _ => exact h4.elim
  | .sm r n o, v, hv => by
    simp only [RV, AV.mapRef] at hv ⊢
    obtain ⟨a, cap, h1, h2, h3, h4⟩ := hv
    cases h : ρ r with
    | none => simp [RV]
    | some r' => simp only [RV]; exact ⟨a, cap, h1, h2, h3.imp (fun ⟨b, x, y⟩ => ⟨b, hρ _ _ _ h x, y⟩) id, trivial⟩
  | .ptr r off, v, hv => by
    simp only [RV, AV.mapRef] at hv ⊢
    obtain ⟨b, h1, h2⟩ := hv
    cases h : ρ r with
    | none => simp [RV]
    | some r' => simp only [RV]; exact ⟨b, hρ _ _ _ h h1, h2⟩
  | .pv f g cs, v, hv => by
    simp only [RV, AV.mapRef] at hv ⊢
    obtain ⟨b, o, h1, h2⟩ := hv
    exact ⟨b, o, h1, RDs.mono (him _) (fun _ _ _ => rfl) (him _) (fun _ _ _ => rfl) _ _ _ h2⟩
  | .fn f cap, v, hv => by simp only [RV, AV.mapRef] at hv ⊢; obtain ⟨vs, h1, h2⟩ := hv; exact ⟨vs, h1, RVs.mapRef him htc hρ hfz cap vs h2⟩
  | .ifc t x, v, hv => by simp only [RV, AV.mapRef] at hv ⊢; obtain ⟨y, h1, h2⟩ := hv; exact ⟨y, h1, RV.mapRef him htc hρ hfz x y h2⟩
  | .agg cs, v, hv => by simp only [RV, AV.mapRef] at hv ⊢; obtain ⟨vs, h1, h2⟩ := hv; exact ⟨vs, h1, RVs.mapRef him htc hρ hfz cs vs h2⟩
  | .tup xs, v, hv => by simp only [RV, AV.mapRef] at hv ⊢; obtain ⟨vs, h1, h2⟩ := hv; exact ⟨vs, h1, RVs.mapRef him htc hρ hfz xs vs h2⟩
  | .junk, _, _ => by simp [RV, AV.mapRef]
  | .yl l G rs, v, hv => by
    simp only [RV, AV.mapRef] at hv ⊢
    cases h : mapRs ρ rs with
    | none => simp [ylOf, RV]
    | some rs' =>
      simp only [ylOf, RV]
      exact ⟨hv.1, hfz _ hv.2.fz, hv.2.lp, fun b o hb => ⟨him _ _ _ (hv.2.rd b o hb).1, (hv.2.rd b o hb).2⟩, mapRs_sound hρ h hv.2.rs⟩
theorem RVs.mapRef {c c' : Cx} {ρ : Ref → Option Ref} (him : ∀ f b o, c.im f b o → c'.im f b o) (htc : ∀ k n a cap, c.tc k n a cap → c'.tc k n a cap) (hρ : ∀ r r' b, ρ r = some r' → c.rb r = some b → c'.rb r' = some b) (hfz : ∀ b, c.fz b → c'.fz b) :
    ∀ (xs : List AV) (vs : List Value), RVs w c xs vs → RVs w c' (mapRefL ρ xs) vs
  | [], vs, hv => by simpa [RVs, mapRefL] using hv
  | x :: xs, vs, hv => by
    simp only [RVs, mapRefL] at hv ⊢
    obtain ⟨v, r, h1, h2, h3⟩ := hv
    exact ⟨v, r, h1, RV.mapRef him htc hρ hfz x v h2, RVs.mapRef him htc hρ hfz xs r h3⟩
end

mutual
theorem RV.asArg {c c' : Cx} (him : ∀ f b o, c.im f b o → c'.im false b o) (hrb : ∀ r b, c.rb r = some b → c'.rb r = some b) (hfz : ∀ b, c.fz b → c'.fz b) :
    ∀ (x : AV) (v : Value), RV w c x v → RV w c' x.asArg v
  | .s x, v, hv => by simpa [RV, AV.asArg] using hv
  | .sl .., v, hv => by
    simp only [RV, AV.asArg] at hv ⊢
    obtain ⟨a, cap, h1, h2, h3, h4⟩ := hv
    refine ⟨a, cap, h1, h2, ?_, trivial⟩
    cases a with
    | none => exact ⟨h3.1, h3.2.1, h3.2.2.1, by simp⟩
    | some ad => exact ⟨h3.1, by simp, RDs.mono (him _) (fun _ _ _ => rfl) (him _) (fun _ _ _ => rfl) _ _ _ h3.2.2⟩
  | .sm r n o, v, hv => by simp only [RV, AV.asArg] at hv ⊢; obtain ⟨a, cap, h1, h2, h3, h4⟩ := hv; exact ⟨a, cap, h1, h2, h3.imp (fun ⟨b, x, y⟩ => ⟨b, hrb _ _ x, y⟩) id, trivial⟩
  | .ptr r off, v, hv => by simp only [RV, AV.asArg] at hv ⊢; obtain ⟨b, h1, h2⟩ := hv; exact ⟨b, hrb _ _ h1, h2⟩
  | .pv f g cs, v, hv => by
    simp only [RV, AV.asArg] at hv ⊢
    obtain ⟨b, o, h1, h2⟩ := hv
    exact ⟨b, o, h1, RDs.mono (him _) (fun _ _ _ => rfl) (him _) (fun _ _ _ => rfl) _ _ _ h2⟩
  | .fn f cap, v, hv => by simp only [RV, AV.asArg] at hv ⊢; obtain ⟨vs, h1, h2⟩ := hv; exact ⟨vs, h1, RVs.asArg him hrb hfz cap vs h2⟩
  | .ifc t x, v, hv => by simp only [RV, AV.asArg] at hv ⊢; obtain ⟨y, h1, h2⟩ := hv; exact ⟨y, h1, RV.asArg him hrb hfz x y h2⟩
  | .agg cs, v, hv => by simp only [RV, AV.asArg] at hv ⊢; obtain ⟨vs, h1, h2⟩ := hv; exact ⟨vs, h1, RVs.asArg him hrb hfz cs vs h2⟩
  | .tup xs, v, hv => by simp only [RV, AV.asArg] at hv ⊢; obtain ⟨vs, h1, h2⟩ := hv; exact ⟨vs, h1, RVs.asArg him hrb hfz xs vs h2⟩
  | .junk, _, _ => by simp [RV, AV.asArg]
  | .yl l G rs, v, hv => by
    simp only [RV, AV.asArg] at hv ⊢
    exact ⟨hv.1, hfz _ hv.2.fz, hv.2.lp, fun b o hb => ⟨him _ _ _ (hv.2.rd b o hb).1, (hv.2.rd b o hb).2⟩, hv.2.rs.imp fun r _ b => hrb r b⟩
theorem RVs.asArg {c c' : Cx} (him : ∀ f b o, c.im f b o → c'.im false b o) (hrb : ∀ r b, c.rb r = some b → c'.rb r = some b) (hfz : ∀ b, c.fz b → c'.fz b) :
    ∀ (xs : List AV) (vs : List Value), RVs w c xs vs → RVs w c' (asArgL xs) vs
  | [], vs, hv => by simpa [RVs, asArgL] using hv
  | x :: xs, vs, hv => by
    simp only [RVs, asArgL] at hv ⊢
    obtain ⟨v, r, h1, h2, h3⟩ := hv
    exact ⟨v, r, h1, RV.asArg him hrb hfz x v h2, RVs.asArg him hrb hfz xs r h3⟩
end

mutual
theorem RV.asObj {c c' : Cx} (him : ∀ f b o, c.im f b o → c'.im false b o) (hrb : ∀ r b, c.rb r = some b → c'.rb r = some b) (hfz : ∀ b, c.fz b → c'.fz b) :
    ∀ (x : AV) (v : Value), RV w c x v → RV w c' x.asObj v
  | .s x, v, hv => by simpa [RV, AV.asObj] using hv
  | .sl .., v, hv => by
    simp only [RV, AV.asObj] at hv ⊢
    obtain ⟨a, cap, h1, h2, h3, h4⟩ := hv
    refine ⟨a, cap, h1, h2, ?_, trivial⟩
    cases a with
    | none => exact h3
    | some ad => exact ⟨h3.1, h3.2.1, RDs.mono (him _) (fun _ _ _ => rfl) (him _) (fun _ _ _ => rfl) _ _ _ h3.2.2⟩
  | .sm r n o, v, hv => by simp only [RV, AV.asObj] at hv ⊢; obtain ⟨a, cap, h1, h2, h3, h4⟩ := hv; exact ⟨a, cap, h1, h2, h3.imp (fun ⟨b, x, y⟩ => ⟨b, hrb _ _ x, y⟩) id, trivial⟩
  | .ptr r off, v, hv => by simp only [RV, AV.asObj] at hv ⊢; obtain ⟨b, h1, h2⟩ := hv; exact ⟨b, hrb _ _ h1, h2⟩
  | .pv f g cs, v, hv => by
    simp only [RV, AV.asObj] at hv ⊢
    obtain ⟨b, o, h1, h2⟩ := hv
    exact ⟨b, o, h1, RDs.mono (him _) (fun _ _ _ => rfl) (him _) (fun _ _ _ => rfl) _ _ _ h2⟩
  | .fn f cap, v, hv => by simp only [RV, AV.asObj] at hv ⊢; obtain ⟨vs, h1, h2⟩ := hv; exact ⟨vs, h1, RVs.asObj him hrb hfz cap vs h2⟩
  | .ifc t x, v, hv => by simp only [RV, AV.asObj] at hv ⊢; obtain ⟨y, h1, h2⟩ := hv; exact ⟨y, h1, RV.asObj him hrb hfz x y h2⟩
  | .agg cs, v, hv => by simp only [RV, AV.asObj] at hv ⊢; obtain ⟨vs, h1, h2⟩ := hv; exact ⟨vs, h1, RVs.asObj him hrb hfz cs vs h2⟩
  | .tup xs, v, hv => by simp only [RV, AV.asObj] at hv ⊢; obtain ⟨vs, h1, h2⟩ := hv; exact ⟨vs, h1, RVs.asObj him hrb hfz xs vs h2⟩
  | .junk, _, _ => by simp [RV, AV.asObj]
  | .yl l G rs, v, hv => by
    simp only [RV, AV.asObj] at hv ⊢
    exact ⟨hv.1, hfz _ hv.2.fz, hv.2.lp, fun b o hb => ⟨him _ _ _ (hv.2.rd b o hb).1, (hv.2.rd b o hb).2⟩, hv.2.rs.imp fun r _ b => hrb r b⟩
theorem RVs.asObj {c c' : Cx} (him : ∀ f b o, c.im f b o → c'.im false b o) (hrb : ∀ r b, c.rb r = some b → c'.rb r = some b) (hfz : ∀ b, c.fz b → c'.fz b) :
    ∀ (xs : List AV) (vs : List Value), RVs w c xs vs → RVs w c' (asObjL xs) vs
  | [], vs, hv => by simpa [RVs, asObjL] using hv
  | x :: xs, vs, hv => by
    simp only [RVs, asObjL] at hv ⊢
    obtain ⟨v, r, h1, h2, h3⟩ := hv
    exact ⟨v, r, h1, RV.asObj him hrb hfz x v h2, RVs.asObj him hrb hfz xs r h3⟩
end

theorem asObjL_eq : ∀ xs, asObjL xs = xs.map AV.asObj
  | [] => rfl
  | x :: xs => by simp [asObjL, asObjL_eq xs]
theorem mapRefL_eq (ρ : Ref → Option Ref) : ∀ xs, mapRefL ρ xs = xs.map (AV.mapRef ρ)
  | [] => rfl
  | x :: xs => by simp [mapRefL, mapRefL_eq ρ xs]
theorem asArgL_eq : ∀ xs, asArgL xs = xs.map AV.asArg
  | [] => rfl
  | x :: xs => by simp [asArgL, asArgL_eq xs]

theorem objR.map {c c' : Cx} {b : Nat} {cs : List AV} (F : AV → AV) (hF : ∀ x v, RV w c x v → RV w c' (F x) v) (h : objR w c b cs) : objR w c' b (cs.map F) := by
  obtain ⟨cv, T, h1, h2, h3⟩ := h
  refine ⟨cv, T, h1, by simpa using h2, fun j x hj => ?_⟩
  rw [List.getElem?_map, Option.map_eq_some_iff] at hj
  obtain ⟨y, hy, rfl⟩ := hj
  obtain ⟨v, a1, a2, a3⟩ := h3 j y hy
  exact ⟨v, a1, a2, hF y v a3⟩

theorem refsDedup_nodup : ∀ rs, (refsDedup rs).Nodup
  | [] => by simp [refsDedup]
  | r :: rs => by
    simp only [refsDedup]
    split
    · exact refsDedup_nodup rs
    · rename_i h
      refine List.nodup_cons.2 ⟨fun hm => h ?_, refsDedup_nodup rs⟩
      have sub : ∀ rs r, r ∈ refsDedup rs → r ∈ rs := by
        intro rs
        induction rs with
        | nil => simp [refsDedup]
        | cons a rs ih =>
          intro r hr
          simp only [refsDedup] at hr
          split at hr
          · exact List.mem_cons_of_mem _ (ih r hr)
          · rcases List.mem_cons.1 hr with rfl | hr
            · simp
            · exact List.mem_cons_of_mem _ (ih r hr)
      exact sub rs r hm

theorem without_nodup {F : List Ref} {rs : List Ref} : ∀ r ∈ without F rs, r ∉ F := by
  induction rs with
  | nil => intro r h; cases h
  | cons a rs ih =>
    intro r h
    simp only [without] at h
    split at h
    · exact ih r h
    · rename_i hn
      rcases List.mem_cons.1 h with rfl | h
      · exact hn
      · exact ih r h
theorem dedup_mem : ∀ (rs : List Ref) (r : Ref), r ∈ refsDedup rs → r ∈ rs := by
  intro rs
  induction rs with
  | nil => simp [refsDedup]
  | cons a rs ih =>
    intro r hr
    simp only [refsDedup] at hr
    split at hr
    · exact List.mem_cons_of_mem _ (ih r hr)
    · rcases List.mem_cons.1 hr with rfl | hr
      · simp
      · exact List.mem_cons_of_mem _ (ih r hr)
theorem reach_nodup {st : St} {F : List Ref} (h : F.Nodup) : (st.reach F).Nodup := by
  unfold St.reach
  refine List.nodup_append.2 ⟨h, refsDedup_nodup _, fun a ha b hb e => ?_⟩
  subst e
  exact without_nodup a (dedup_mem _ a hb) ha
theorem footC_nodup {st : St} {xs : List AV} : (st.footC xs).Nodup := by
  unfold St.footC
  split
  · exact reach_nodup (refsDedup_nodup _)
  · exact reach_nodup (refsDedup_nodup _)
  · exact List.nodup_nil

theorem mems_get : ∀ {rs : List Ref} {os : List (List AV)}, st.mems rs = some os → os.length = rs.length ∧ ∀ (i : Nat) (r : Ref), rs[i]? = some r → ∃ cs, os[i]? = some cs ∧ st.mem r = some cs
  | [], os, h => by simp [St.mems] at h; subst h; simp
  | r :: rs, os, h => by
    simp only [St.mems] at h
    obtain ⟨c, h1, h⟩ := bnd_eq h
    obtain ⟨cs, h2, h⟩ := bnd_eq h
    cases h
    obtain ⟨k1, k2⟩ := mems_get h2
    refine ⟨by simp [k1], fun i r' hi => ?_⟩
    cases i with
    | zero => simp at hi; subst hi; exact ⟨c, by simp, h1⟩
    | succ i => simpa using k2 i r' (by simpa using hi)
end Go.Ev
end

section
set_option linter.all false
set_option linter.unusedVariables false
set_option linter.unusedSimpArgs false
namespace Go.Ev
variable {w0 w : World} {l : Lay} {st : St} {P : Program}

theorem setMem_mem_other {r r' : Ref} {cs : List AV} (h : r' ≠ r) : (st.setMem r cs).mem r' = st.mem r' := by
  cases r with
  | own k =>
    cases r' with
    | own j => have : j ≠ k := fun e => h (by rw [e]); simp [St.mem, St.setMem, upd, this]
    | ext i => rfl
  | ext i =>
    cases r' with
    | own j => rfl
    | ext j => have : i ≠ j := fun e => h (by rw [e]); simp [St.mem, St.setMem, List.getElem?_set, this]
theorem setMem_mem_self {r : Ref} {cs old : List AV} (h : st.mem r = some old) : (st.setMem r cs).mem r = some cs := by
  cases r with
  | own k => simp [St.mem, St.setMem, upd]
  | ext i =>
    simp only [St.mem] at h
    have : i < st.ext.length := (List.getElem?_eq_some_iff.1 h).1
    simp [St.mem, St.setMem, this]

theorem setAll_spec : ∀ (rs : List Ref) (os : List (List AV)) (st : St), rs.Nodup → os.length = rs.length → (∀ r ∈ rs, ∃ old, st.mem r = some old) →
    (∀ r, r ∉ rs → (st.setAll rs os).mem r = st.mem r) ∧ (∀ (i : Nat) (r : Ref), rs[i]? = some r → (st.setAll rs os).mem r = os[i]?) ∧
    (st.setAll rs os).env = st.env ∧ (st.setAll rs os).tok = st.tok ∧ (st.setAll rs os).nt = st.nt ∧ (st.setAll rs os).ext.length = st.ext.length
  | [], os, st, _, _, _ => by cases os <;> simp [St.setAll]
  | r :: rs, [], st, _, h, _ => by simp at h
  | r :: rs, c :: os, st, hn, hl, hm => by
    have hn' := List.nodup_cons.1 hn
    obtain ⟨old, ho⟩ := hm r (by simp)
    have ih := setAll_spec rs os (st.setMem r c) hn'.2 (by simpa using hl) (fun r' hr' => by
      obtain ⟨o2, h2⟩ := hm r' (by simp [hr'])
      exact ⟨o2, by rw [setMem_mem_other (fun e => hn'.1 (by rw [← e]; exact hr'))]; exact h2⟩)
    obtain ⟨i1, i2, i3, i4, i5, i6⟩ := ih
    simp only [St.setAll]
    refine ⟨fun r' hr' => ?_, fun i r' hi => ?_, ?_, ?_, ?_, ?_⟩
    · rw [i1 r' (fun h => hr' (by simp [h])), setMem_mem_other (fun e => hr' (by simp [e]))]
    · cases i with
      | zero =>
        simp at hi
        subst hi
        rw [i1 r hn'.1, setMem_mem_self ho]
        simp
      | succ i => simpa using i2 i r' (by simpa using hi)
    · rw [i3]; cases r <;> rfl
    · rw [i4]; cases r <;> rfl
    · rw [i5]; cases r <;> rfl
    · rw [i6]; cases r <;> simp [St.setMem]

theorem foldl_upd : ∀ (own : List (Nat × List AV)) (f : Nat → Option (List AV)), (own.map (·.1)).Nodup →
    (∀ p ∈ own, (own.foldl (fun f (p : Nat × List AV) => upd f p.1 p.2) f) p.1 = some p.2) ∧ (∀ k, k ∉ own.map (·.1) → (own.foldl (fun f (p : Nat × List AV) => upd f p.1 p.2) f) k = f k)
  | [], f, _ => by simp
  | p :: own, f, h => by
    simp only [List.map_cons, List.nodup_cons] at h
    obtain ⟨i1, i2⟩ := foldl_upd own (upd f p.1 p.2) h.2
    simp only [List.foldl_cons]
    refine ⟨fun q hq => ?_, fun k hk => ?_⟩
    · rcases List.mem_cons.1 hq with rfl | hq
      · rw [i2 _ h.1]; simp [upd]
      · exact i1 q hq
    · simp only [List.map_cons, List.mem_cons, not_or] at hk
      rw [i2 k hk.2]
      simp [upd, hk.1]

theorem findIdx_get : ∀ {rs : List Ref} {r : Ref} {i : Nat}, rs.findIdx? (· == r) = some i → rs[i]? = some r := by
  intro rs r i h
  rw [List.findIdx?_eq_some_iff_getElem] at h
  obtain ⟨hlt, h1, _⟩ := h
  rw [List.getElem?_eq_getElem hlt]
  simpa using h1

/-- What the callee may read. -/
def rdAt (w0 w : World) (l : Lay) (tk : Nat → Option (Nat × Nat)) : Rd := ⟨(cx w0 w l tk).im false, fun b => l.rd.z b ∨ b ∈ l.rd.d ++ l.rd.e, [], []⟩
/-- The world at a call, as the callee is handed it. -/
theorem call_pre {args : List AV} {vs : List Value} {rs : List Ref} {os : List (List AV)} (hm : MR w0 w l st) (hn : rs.Nodup) (hos : st.mems rs = some os) (hv : RVs w (cx w0 w l st.tok) args vs) (hne : ∀ cs ∈ os, cs ≠ []) :
    ∃ be : List Nat, (∀ (i b : Nat), be[i]? = some b ↔ ∃ r, rs[i]? = some r ∧ l.rb r = some b) ∧
      Pre w (rdAt w0 w l st.tok) be (mapRefL (refIdx rs) (asArgL args)) (os.map fun cs => mapRefL (refIdx rs) (asObjL cs)) vs := by
  obtain ⟨hol, hog⟩ := mems_get hos
  have hrb : ∀ r ∈ rs, ∃ b, l.rb r = some b := fun r hr => by
    obtain ⟨i, hi, rfl⟩ := List.mem_iff_getElem.1 hr
    obtain ⟨cs, h1, h2⟩ := hog i _ (List.getElem?_eq_getElem hi)
    obtain ⟨b, h3, _⟩ := (hm.obj _ cs h2).resolve_left fun x => hne cs (List.mem_of_getElem? h1) x.1
    exact ⟨b, h3⟩
  let be := rs.map fun r => (l.rb r).getD 0
  have hbe : ∀ (i b : Nat), be[i]? = some b ↔ ∃ r, rs[i]? = some r ∧ l.rb r = some b := fun i b => by
    simp only [be, List.getElem?_map, Option.map_eq_some_iff]
    constructor
    · rintro ⟨r, hr, rfl⟩
      obtain ⟨b, hb⟩ := hrb r (List.mem_of_getElem? hr)
      exact ⟨r, hr, by simp [hb]⟩
    · rintro ⟨r, hr, hb⟩
      exact ⟨r, hr, by simp [hb]⟩
  have hnd : be.Nodup := by
    refine List.pairwise_iff_getElem.2 fun i j hi hj hij => ?_
    have hi' : i < rs.length := by simpa [be] using hi
    have hj' : j < rs.length := by simpa [be] using hj
    obtain ⟨bi, hbi⟩ := hrb rs[i] (List.getElem_mem _)
    obtain ⟨bj, hbj⟩ := hrb rs[j] (List.getElem_mem _)
    simp only [be, List.getElem_map, hbi, hbj, Option.getD_some]
    intro e
    have hrr := hm.inj _ _ _ hbi (e ▸ hbj)
    have := (List.pairwise_iff_getElem.1 hn) i j hi' hj' hij
    exact this hrr
  have harg : ∀ x v, RV w (cx w0 w l st.tok) x v → RV w (c0 (rdAt w0 w l st.tok) be) ((x.asArg).mapRef (refIdx rs)) v := fun x v h => by
    have h1 := RV.asArg (c' := { cx w0 w l st.tok with im := fun _ => (cx w0 w l st.tok).im false, tc := fun _ _ _ _ => False }) (fun f b o => cx_down st.tok f b o) (fun _ _ h => h) (fun _ h => h) x v h
    refine RV.mapRef (c := { cx w0 w l st.tok with im := fun _ => (cx w0 w l st.tok).im false, tc := fun _ _ _ _ => False }) (c' := c0 (rdAt w0 w l st.tok) be) (fun _ _ _ h => h) (fun _ _ _ _ h => h.elim) (fun r r' b hr hb => ?_) (fun _ h => h) _ _ h1
    simp only [refIdx, Option.map_eq_some_iff] at hr
    obtain ⟨i, hi, rfl⟩ := hr
    exact (hbe i b).2 ⟨r, findIdx_get hi, hb⟩
  have hobjs : ∀ x v, RV w (cx w0 w l st.tok) x v → RV w (c0 (rdAt w0 w l st.tok) be) ((x.asObj).mapRef (refIdx rs)) v := fun x v h => by
    have h1 := RV.asObj (c' := { cx w0 w l st.tok with im := fun _ => (cx w0 w l st.tok).im false, tc := fun _ _ _ _ => False }) (fun f b o => cx_down st.tok f b o) (fun _ _ h => h) (fun _ h => h) x v h
    refine RV.mapRef (c := { cx w0 w l st.tok with im := fun _ => (cx w0 w l st.tok).im false, tc := fun _ _ _ _ => False }) (c' := c0 (rdAt w0 w l st.tok) be) (fun _ _ _ h => h) (fun _ _ _ _ h => h.elim) (fun r r' b hr hb => ?_) (fun _ h => h) _ _ h1
    simp only [refIdx, Option.map_eq_some_iff] at hr
    obtain ⟨i, hi, rfl⟩ := hr
    exact (hbe i b).2 ⟨r, findIdx_get hi, hb⟩
  have hargs : ∀ xs vs, RVs w (cx w0 w l st.tok) xs vs → RVs w (c0 (rdAt w0 w l st.tok) be) (mapRefL (refIdx rs) (asArgL xs)) vs := by
    intro xs
    induction xs with
    | nil => intro vs h; simpa [asArgL, mapRefL, RVs] using h
    | cons x xs ih =>
      intro vs h
      simp only [RVs] at h
      obtain ⟨v, r, rfl, h1, h2⟩ := h
      simp only [asArgL, mapRefL, RVs]
      exact ⟨v, r, rfl, harg x v h1, ih r h2⟩
  refine ⟨be, hbe, ?_, ?_, hnd, by simp [be, hol], ?_, ?_, hargs _ _ hv⟩
  · intro b o h
    rcases h with h | ⟨_, h⟩
    · refine ⟨h.2.1, fun hb => ?_⟩
      obtain ⟨i, hi, hib⟩ := List.mem_iff_getElem.1 hb
      obtain ⟨r, hr, hrb'⟩ := (hbe i b).1 (by rw [List.getElem?_eq_getElem hi, hib])
      cases r with
      | own k => have := (hm.rbow k b hrb').2; have h3 := h.2.2; rw [this] at h3; exact h3
      | ext j => have := hm.ext j; rw [hrb'] at this; exact absurd (hm.bel _ (List.mem_of_getElem? this.symm)) (Nat.not_lt.2 h.1)
    · have h2 := hm.rdok b o h
      refine ⟨Nat.lt_of_lt_of_le h2.1 hm.size, fun hb => ?_⟩
      obtain ⟨i, hi, hib⟩ := List.mem_iff_getElem.1 hb
      obtain ⟨r, hr, hrb'⟩ := (hbe i b).1 (by rw [List.getElem?_eq_getElem hi, hib])
      cases r with
      | own k => exact absurd (hm.rbow k b hrb').1 (Nat.not_le.2 h2.1)
      | ext j => have := hm.ext j; rw [hrb'] at this; exact h2.2 (List.mem_of_getElem? this.symm)
  · intro b h
    rcases h with h | h
    · have h2 := hm.fzs.z b h
      refine ⟨Nat.lt_of_lt_of_le h2.1 hm.size, fun hb => ?_⟩
      obtain ⟨i, hi, hib⟩ := List.mem_iff_getElem.1 hb
      obtain ⟨r, hr, hrb'⟩ := (hbe i b).1 (by rw [List.getElem?_eq_getElem hi, hib])
      cases r with
      | own k => exact absurd (hm.rbow k b hrb').1 (Nat.not_le.2 h2.1)
      | ext j => have := hm.ext j; rw [hrb'] at this; exact h2.2 (List.mem_of_getElem? this.symm)
    · have h2 := hm.fzs.de b h
      refine ⟨h2.2.1, fun hb => ?_⟩
      obtain ⟨i, hi, hib⟩ := List.mem_iff_getElem.1 hb
      obtain ⟨r, hr, hrb'⟩ := (hbe i b).1 (by rw [List.getElem?_eq_getElem hi, hib])
      cases r with
      | own k => have := (hm.rbow k b hrb').2; rw [h2.2.2] at this; cases this
      | ext j => have := hm.ext j; rw [hrb'] at this; exact absurd (hm.bel _ (List.mem_of_getElem? this.symm)) (Nat.not_lt.2 h2.1)
  · intro b hb
    obtain ⟨i, hi, hib⟩ := List.mem_iff_getElem.1 hb
    obtain ⟨r, hr, hrb'⟩ := (hbe i b).1 (by rw [List.getElem?_eq_getElem hi, hib])
    exact hm.rblt r b hrb'
  · intro i b cs hb hcs
    obtain ⟨r, hr, hrb'⟩ := (hbe i b).1 hb
    obtain ⟨cs0, h1, h2⟩ := hog i r hr
    rw [List.getElem?_map, h1] at hcs
    simp only [Option.map_some, Option.some.injEq] at hcs
    subst hcs
    obtain ⟨b', h3, h4⟩ := (hm.obj r cs0 h2).resolve_left fun x => by rw [hrb'] at x; cases x.2
    rw [hrb'] at h3
    cases h3
    rw [mapRefL_eq, asObjL_eq, List.map_map]
    exact h4.map _ hobjs

/-- The state behind a call. -/
theorem call_post {rs : List Ref} {be : List Nat} {os ext : List (List AV)} {own : List (Nat × List AV)} {r : AV} {v : Value} {w' : World} {ob : Nat → Option Nat} {d : Nat} {a : Act}
    (hg : Good w0 w l st a) (hn : rs.Nodup) (hos : st.mems rs = some os) (hbe : ∀ (i b : Nat), be[i]? = some b ↔ ∃ r, rs[i]? = some r ∧ l.rb r = some b)
    (hR : RetR w (rdAt w0 w l st.tok) be r ext own v w' ob) (hfree : ∀ p ∈ own, st.own (1000 * (d + 1) + p.1) = none) (hne : ∀ cs ∈ os, cs ≠ []) (hxk : ∀ k, Ref.own k ∈ rs → st.tok (XK k) = none) :
    ∃ l', Good w0 w' l' { (st.setAll rs (ext.map (mapRefL (refBack rs (d + 1))))) with
        own := (own.map fun (k, cs) => (1000 * (d + 1) + k, mapRefL (refBack rs (d + 1)) cs)).foldl (fun f (p : Nat × List AV) => upd f p.1 p.2) (st.setAll rs (ext.map (mapRefL (refBack rs (d + 1))))).own } a ∧
      RV w' (cx w0 w' l' st.tok) (r.mapRef (refBack rs (d + 1))) v ∧ l'.rd = l.rd ∧ l'.be = l.be := by
  classical
  obtain ⟨hm, he⟩ := hg
  obtain ⟨hol, hog⟩ := mems_get hos
  obtain ⟨f1, f2, f3, f4, f5⟩ := hR.fr
  have hbl : be.length = rs.length := by
    rcases Nat.lt_trichotomy be.length rs.length with h | h | h
    · exfalso
      have hr := List.getElem?_eq_getElem h
      obtain ⟨cs, h1, h2⟩ := hog _ _ hr
      obtain ⟨b, h3, _⟩ := (hm.obj _ cs h2).resolve_left fun x => hne cs (List.mem_of_getElem? h1) x.1
      have := (hbe be.length b).2 ⟨_, hr, h3⟩
      simp at this
    · exact h
    · exfalso
      obtain ⟨r', hr, _⟩ := (hbe rs.length _).1 (List.getElem?_eq_getElem h)
      simp at hr
  have hxl : (ext.map (mapRefL (refBack rs (d + 1)))).length = rs.length := by rw [List.length_map, hR.len, hbl]
  obtain ⟨s1, s2, s3, s4, s5, s6⟩ := setAll_spec rs (ext.map (mapRefL (refBack rs (d + 1)))) st hn hxl (fun r' hr' => by
    obtain ⟨i, hi, rfl⟩ := List.mem_iff_getElem.1 hr'
    obtain ⟨cs, _, h2⟩ := hog i _ (List.getElem?_eq_getElem hi)
    exact ⟨cs, h2⟩)
  -- blocks of 'be' are objects
  have hbobj : ∀ b ∈ be, ∃ r' ∈ rs, l.rb r' = some b := fun b hb => by
    obtain ⟨i, hi, hib⟩ := List.mem_iff_getElem.1 hb
    obtain ⟨r', hr, hrb⟩ := (hbe i b).1 (by rw [List.getElem?_eq_getElem hi, hib])
    exact ⟨r', List.mem_of_getElem? hr, hrb⟩
  have hnotbe : ∀ r' b, r' ∉ rs → l.rb r' = some b → b ∉ be := fun r' b hr hb hmem => by
    obtain ⟨r2, h1, h2⟩ := hbobj b hmem
    exact hr (hm.inj _ _ _ hb h2 ▸ h1)
  let K := 1000 * (d + 1)
  let l' : Lay := { l with
    rb := fun r' => match r' with | .own k => (match l.rb (.own k) with | some b => some b | none => if K ≤ k then ob (k - K) else none) | .ext i => l.rb (.ext i)
    ow := fun b => if w.heap.size ≤ b ∧ (∃ k, ob k = some b) then .obj else l.ow b }
  have howold : ∀ b, b < w.heap.size → l'.ow b = l.ow b := fun b hb => by simp only [l']; rw [if_neg (by omega)]
  have hobfree : ∀ k b, ob k = some b → l.rb (.own (K + k)) = none := fun k b hk => by
    obtain ⟨cs, hcs⟩ := hR.dom k b hk
    have := hfree _ hcs
    cases hh : l.rb (.own (K + k)) with
    | none => rfl
    | some b2 => obtain ⟨cs2, h2⟩ := hm.dom _ _ hh; simp only [St.mem] at h2; rw [this] at h2; cases h2
  have hrbnew : ∀ k b, ob k = some b → l'.rb (.own (K + k)) = some b := fun k b hk => by
    simp only [l', hobfree k b hk]
    rw [if_pos (Nat.le_add_right K k), Nat.add_sub_cancel_left]
    exact hk
  have hrbold : ∀ r' b, l.rb r' = some b → l'.rb r' = some b := fun r' b hr => by
    cases r' with
    | own k => simp [l', hr]
    | ext i => exact hr
  have hrbinv : ∀ r' b, l'.rb r' = some b → l.rb r' = some b ∨ ∃ k, r' = .own (K + k) ∧ ob k = some b ∧ w.heap.size ≤ b := fun r' b hr => by
    cases r' with
    | ext i => exact .inl hr
    | own k =>
      simp only [l'] at hr
      split at hr
      · rename_i b2 h2; cases hr; exact .inl h2
      · split at hr
        · rename_i hk; exact .inr ⟨k - K, by rw [Nat.add_sub_cancel' hk], hr, (hR.lt _ _ hr).1⟩
        · cases hr
  have hold0 : ∀ b, b < w0.heap.size → b ∉ l.be → w'.heap[b]? = w0.heap[b]? := fun b h1 h2 => by
    rw [f5 b (Nat.lt_of_lt_of_le h1 hm.size) (fun hb => ?_)]
    · exact hm.old b h1 h2
    · obtain ⟨r', _, hr⟩ := hbobj b hb
      cases r' with
      | own k => exact absurd (hm.rbow k b hr).1 (Nat.not_le.2 h1)
      | ext i => have := hm.ext i; rw [hr] at this; exact h2 (List.mem_of_getElem? this.symm)
  have hfr : ∀ b o, fresh w0 w l b o → b ∉ be := fun b o hf hb => by
    obtain ⟨r', _, hr⟩ := hbobj b hb
    cases r' with
    | own k => have := (hm.rbow k b hr).2; have h3 := hf.2.2; rw [this] at h3; exact h3
    | ext i => have := hm.ext i; rw [hr] at this; exact absurd (hm.bel _ (List.mem_of_getElem? this.symm)) (Nat.not_lt.2 hf.1)
  have hdn : ∀ D, D ∈ l.rd.d ++ l.rd.e → w'.heap[D]? = w.heap[D]? := fun D hD => by
    have h4 := hm.fzs.de D hD
    exact f5 D h4.2.1 (hfr D 0 ⟨h4.1, h4.2.1, by rw [h4.2.2]; trivial⟩)
  have hle : Cx.le w (cx w0 w l st.tok) w' (cx w0 w' l' st.tok) := cxle_of hm rfl hold0
    (fun b o hf => ⟨⟨hf.1, Nat.lt_of_lt_of_le hf.2.1 f4, by rw [howold b hf.2.1]; exact hf.2.2⟩, cell_of_heap (f5 b hf.2.1 (hfr b o hf))⟩) hrbold (fun _ _ _ _ h => h) hdn
  -- what the callee tells, in the caller's names
  have hback : ∀ x u, RV w' (c1 w w' (rdAt w0 w l st.tok) be ob) x u → RV w' (cx w0 w' l' st.tok) (x.mapRef (refBack rs (d + 1))) u := fun x u h => by
    refine RV.mapRef (c := c1 w w' (rdAt w0 w l st.tok) be ob) (c' := cx w0 w' l' st.tok) (fun f b o hi => ?_) (fun _ _ _ _ h => h.elim) (fun r1 r2 b hr hb => ?_) (fun _ h => h) x u h
    · rcases hi with ⟨h1, h2, h3⟩ | ⟨h1, h2⟩
      · refine .inl ⟨Nat.le_trans hm.size h1, h2, ?_⟩
        have : l'.ow b = .free := by
          simp only [l']
          rw [if_neg (fun h => by obtain ⟨_, k, hk⟩ := h; exact h3 k hk)]
          exact hm.owfree b h1
        rw [this]; trivial
      · subst h1; exact hle.im false b o h2
    · cases r1 with
      | ext i =>
        simp only [refBack] at hr
        obtain ⟨r3, hr3, hb3⟩ := (hbe i b).1 hb
        rw [hr] at hr3
        cases hr3
        exact hrbold r2 b hb3
      | own k =>
        simp only [refBack, Option.some.injEq] at hr
        subst hr
        exact hrbnew k b hb
  have hmapown : ((own.map fun (p : Nat × List AV) => (K + p.1, mapRefL (refBack rs (d + 1)) p.2)).map (·.1)).Nodup := by
    rw [List.map_map]
    have e : ((fun x : Nat × List AV => x.1) ∘ fun (p : Nat × List AV) => (K + p.1, mapRefL (refBack rs (d + 1)) p.2)) = (fun k => K + k) ∘ (fun p : Nat × List AV => p.1) := rfl
    rw [e, ← List.map_map]
    exact List.Pairwise.map _ (fun a b hab h => hab (by omega)) hR.nodup
  obtain ⟨u1, u2⟩ := foldl_upd (own.map fun (p : Nat × List AV) => (K + p.1, mapRefL (refBack rs (d + 1)) p.2)) (st.setAll rs (ext.map (mapRefL (refBack rs (d + 1))))).own hmapown
  let st2 : St := { (st.setAll rs (ext.map (mapRefL (refBack rs (d + 1))))) with own := (own.map fun (p : Nat × List AV) => (K + p.1, mapRefL (refBack rs (d + 1)) p.2)).foldl (fun f (p : Nat × List AV) => upd f p.1 p.2) (st.setAll rs (ext.map (mapRefL (refBack rs (d + 1))))).own }
  have hst2 : ∀ r', (∀ p ∈ own, r' ≠ .own (K + p.1)) → st2.mem r' = (st.setAll rs (ext.map (mapRefL (refBack rs (d + 1))))).mem r' := fun r' hr' => by
    cases r' with
    | ext i => rfl
    | own k =>
      simp only [St.mem, st2]
      refine u2 k (fun hk => ?_)
      simp only [List.map_map, List.mem_map, Function.comp_def] at hk
      obtain ⟨p, hp, rfl⟩ := hk
      exact hr' p hp rfl
  have hnewmem : ∀ p ∈ own, st2.mem (.own (K + p.1)) = some (mapRefL (refBack rs (d + 1)) p.2) := fun p hp => by
    simp only [St.mem, st2]
    exact u1 (K + p.1, mapRefL (refBack rs (d + 1)) p.2) (List.mem_map.2 ⟨p, hp, rfl⟩)
  have holdkey : ∀ r' b, l.rb r' = some b → ∀ p ∈ own, r' ≠ .own (K + p.1) := fun r' b hr p hp e => by
    subst e
    obtain ⟨cs, hc⟩ := hm.dom _ _ hr
    have := hfree p hp
    simp only [St.mem] at hc
    rw [this] at hc; cases hc
  have hmr : MR w0 w' l' st2 := by
    refine ⟨f1.trans hm.os, f2.trans hm.tape, f3.trans hm.output, Nat.le_trans hm.size f4, hold0, hm.bel, hm.ext, by show st2.ext.length = _; simp only [st2]; rw [s6]; exact hm.extn, ?_, ?_, ?_, ?_, ?_, ?_, ?_, ?_, hm.rdok, ?_, hm.tokinj, hm.fzs.step f4 hdn (fun D hD ho => by rw [howold D hD]; exact ho) rfl rfl, ?_⟩
    · -- inj
      intro r1 r2 b h1 h2
      rcases hrbinv r1 b h1 with h1 | ⟨k1, rfl, h1, h1'⟩ <;> rcases hrbinv r2 b h2 with h2 | ⟨k2, rfl, h2, h2'⟩
      · exact hm.inj _ _ _ h1 h2
      · exact absurd (hm.rblt _ _ h1) (Nat.not_lt.2 h2')
      · exact absurd (hm.rblt _ _ h2) (Nat.not_lt.2 h1')
      · rw [hR.inj _ _ _ h1 h2]
    · -- dom
      intro r1 b h1
      rcases hrbinv r1 b h1 with h1 | ⟨k1, rfl, h1, h1'⟩
      · rw [hst2 r1 (holdkey r1 b h1)]
        by_cases hr : r1 ∈ rs
        · obtain ⟨i, hi, rfl⟩ := List.mem_iff_getElem.1 hr
          rw [s2 i _ (List.getElem?_eq_getElem hi)]
          exact ⟨_, List.getElem?_eq_getElem (by omega)⟩
        · rw [s1 r1 hr]; exact hm.dom r1 b h1
      · obtain ⟨cs, hcs⟩ := hR.dom k1 b h1
        exact ⟨_, hnewmem _ hcs⟩
    · -- obj
      intro r1 cs h1
      show (cs = [] ∧ l'.rb r1 = none) ∨ ∃ b, l'.rb r1 = some b ∧ objR w' (cx w0 w' l' st2.tok) b cs
      have htok : st2.tok = st.tok := s4
      rw [htok]
      by_cases hnew : ∃ p ∈ own, r1 = .own (K + p.1)
      · obtain ⟨p, hp, rfl⟩ := hnew
        rw [hnewmem p hp] at h1
        cases h1
        rcases hR.objs p hp with ⟨e0, e1⟩ | ⟨b, hb, ho⟩
        · refine .inl ⟨by rw [e0]; rfl, ?_⟩
          have hn : l.rb (.own (K + p.1)) = none := by
            cases hh : l.rb (.own (K + p.1)) with
            | none => rfl
            | some b2 => exact absurd rfl (holdkey _ b2 hh p hp)
          simp only [l', hn]
          rw [if_pos (Nat.le_add_right K p.1), Nat.add_sub_cancel_left]
          exact e1
        refine .inr ⟨b, hrbnew _ _ hb, ?_⟩
        rw [mapRefL_eq]
        exact ho.map _ hback
      · rw [hst2 r1 (fun p hp e => hnew ⟨p, hp, e⟩)] at h1
        by_cases hr : r1 ∈ rs
        · obtain ⟨i, hi, rfl⟩ := List.mem_iff_getElem.1 hr
          have hir := List.getElem?_eq_getElem hi
          rw [s2 i _ hir] at h1
          rw [List.getElem?_map, Option.map_eq_some_iff] at h1
          obtain ⟨cs0, hcs0, rfl⟩ := h1
          obtain ⟨cso, _, h2⟩ := hog i _ hir
          obtain ⟨b, h3, _⟩ := (hm.obj _ cso h2).resolve_left fun x => by
            obtain ⟨cso', q1, q2⟩ := hog i _ hir
            rw [h2] at q2; cases q2
            exact hne cso (List.mem_of_getElem? q1) x.1
          refine .inr ⟨b, hrbold _ _ h3, ?_⟩
          rw [mapRefL_eq]
          exact (hR.exts i b cs0 ((hbe i b).2 ⟨_, hir, h3⟩) hcs0).map _ hback
        · rw [s1 r1 hr] at h1
          rcases hm.obj r1 cs h1 with ⟨e0, e1⟩ | ⟨b, h2, h3⟩
          · refine .inl ⟨e0, ?_⟩
            cases hh : l'.rb r1 with
            | none => rfl
            | some b2 =>
              rcases hrbinv r1 b2 hh with h5 | ⟨k, rfl, h5, _⟩
              · rw [e1] at h5; cases h5
              · obtain ⟨cs5, h6⟩ := hR.dom k b2 h5
                exact absurd ⟨_, h6, rfl⟩ hnew
          · exact .inr ⟨b, hrbold _ _ h2, h3.mono hle (f5 b (hm.rblt _ _ h2) (hnotbe r1 b hr h2))⟩
    · intro r1 b h1
      rcases hrbinv r1 b h1 with h1 | ⟨k1, rfl, h1, _⟩
      · exact Nat.lt_of_lt_of_le (hm.rblt _ _ h1) f4
      · exact (hR.lt _ _ h1).2
    · intro k b h1
      rcases hrbinv _ b h1 with h1 | ⟨k1, _, h1, h1'⟩
      · have := hm.rbow k b h1
        exact ⟨this.1, by rw [howold b (hm.rblt _ _ h1)]; exact this.2⟩
      · exact ⟨Nat.le_trans hm.size h1', by simp only [l']; rw [if_pos ⟨h1', k1, h1⟩]⟩
    · intro b hb
      simp only [l'] at hb
      split at hb
      · rename_i hc; obtain ⟨_, k, hk⟩ := hc; exact ⟨K + k, hrbnew k b hk⟩
      · obtain ⟨k, hk⟩ := hm.owobj b hb; exact ⟨k, hrbold _ _ hk⟩
    · intro b hb
      simp only [l']
      rw [if_neg (fun h => by obtain ⟨_, k, hk⟩ := h; exact absurd (hR.lt _ _ hk).2 (Nat.not_lt.2 hb))]
      exact hm.owfree b (Nat.le_trans f4 hb)
    · intro b hb
      rw [howold b (Nat.lt_of_lt_of_le hb hm.size)]
      exact hm.owold b hb
    · intro k b cap hk
      obtain ⟨n, z, a1, a2, a3, a4, a5, cv, T, a6, a7⟩ := hm.tokd k b cap hk
      refine ⟨n, z, by show st2.tok k = _; simp only [st2]; rw [s4]; exact a1, by rw [howold b a4]; exact a2, a3, Nat.lt_of_lt_of_le a4 f4, a5, cv, T, ?_, a7⟩
      rw [f5 b a4 (fun hb => ?_)]
      · exact a6
      · obtain ⟨r', _, hr⟩ := hbobj b hb
        cases r' with
        | own k2 => rw [(hm.rbow k2 b hr).2] at a2; cases a2
        | ext i => have := hm.ext i; rw [hr] at this; exact absurd (hm.bel _ (List.mem_of_getElem? this.symm)) (Nat.not_lt.2 a3)
    · intro k c z hk
      obtain ⟨a', b, q1, cv, T, q2, q3⟩ := hm.xtd k c z hk
      refine ⟨by show (st2.tok (XK k)).isSome = true; simp only [st2]; rw [s4]; exact a', b, hrbold _ _ q1, cv, T, ?_, q3⟩
      have hnr : Ref.own k ∉ rs := fun h => by rw [hxk k h] at a'; cases a'
      rw [f5 b (hm.rblt _ _ q1) (hnotbe _ b hnr q1)]
      exact q2
  refine ⟨l', ⟨hmr, ?_⟩, hback _ _ hR.ret, rfl, rfl⟩
  have h2 := he.mono hle
  show ER w' (cx w0 w' l' st2.tok) st2 a.tmps
  have htok : st2.tok = st.tok := s4
  rw [htok]
  exact ⟨by show _ = st2.nt; simp only [st2]; rw [s5]; exact h2.1, fun e x hx => by
    simp only [st2] at hx ⊢
    rw [s3] at hx
    rw [s5]
    exact h2.2 e x hx⟩

/-- The state behind a call that hands back a slice with the room behind it. -/
theorem call_tok {k : Knd} {n z : Nat} {cs : List D} {ad : Option Addr} {cap : Nat} {w' : World} {d : Nat} {a : Act} (hg : Good w0 w l st a) (hd : st.tok d = none) (hF : Framed w w' []) (hcap : n ≤ cap) (hT : TokR w w' k n z cs cap ad) :
    ∃ l', Good w0 w' l' { st with tok := upd st.tok d (n, z) } a ∧ RV w' (cx w0 w' l' (upd st.tok d (n, z))) (.sl true true k (.tok d) n cs) (.slice ad n cap) ∧ l'.rd = l.rd ∧ l'.be = l.be := by
  classical
  obtain ⟨hm, he⟩ := hg
  obtain ⟨f1, f2, f3, f4, f5⟩ := hF
  have f5 : ∀ b, b < w.heap.size → w'.heap[b]? = w.heap[b]? := fun b hb => f5 b hb (by simp)
  -- is the block ours?
  let ob : Option Nat := match ad with | none => none | some x => if cap = n then none else some x.block
  have hob : ∀ b, ob = some b → ad = some ⟨b, 0, none⟩ ∧ w.heap.size ≤ b ∧ ∃ (cv : Array Value) (T : TypeId), w'.heap[b]? = some (Obj.cells cv T (0, 0)) ∧ cap * z ≤ cv.size := fun b hb => by
    cases ad with
    | none => simp [ob] at hb
    | some x =>
      simp only [ob] at hb
      split at hb
      · cases hb
      · rename_i hne
        have hb := Option.some.inj hb
        subst hb
        simp only [TokR] at hT
        obtain ⟨t1, t2, t3, t4, t5⟩ := hT
        rcases t5 with t5 | ⟨t0, t5, t6⟩
        · exact absurd t5 hne
        · refine ⟨?_, t6⟩
          obtain ⟨bk, of, sp⟩ := x
          simp only at t0 t5
          subst t0 t5
          rfl
  let l' : Lay := { l with ow := fun b => if ob = some b then .tok (n * z) else l.ow b, bt := fun key => if key = d then ob.map (fun b => (b, cap)) else l.bt key }
  have howold : ∀ b, b < w.heap.size → l'.ow b = l.ow b := fun b hb => by
    simp only [l']
    rw [if_neg (fun h => absurd (hob b h).2.1 (Nat.not_le.2 hb))]
  have hbtd : l.bt d = none := by
    cases hb : l.bt d with
    | none => rfl
    | some q => obtain ⟨_, _, h, _⟩ := hm.tokd d q.1 q.2 hb; rw [hd] at h; cases h
  have hdn : ∀ D, D ∈ l.rd.d ++ l.rd.e → w'.heap[D]? = w.heap[D]? := fun D hD => f5 D (hm.fzs.de D hD).2.1
  have hle : Cx.le w (cx w0 w l st.tok) w' (cx w0 w' l' (upd st.tok d (n, z))) := by
    refine cxle_of hm rfl (fun b hb _ => (f5 b (Nat.lt_of_lt_of_le hb hm.size)).trans (hm.old b hb ‹_›)) (fun b o hb => ⟨⟨hb.1, Nat.lt_of_lt_of_le hb.2.1 f4, by rw [howold b hb.2.1]; exact hb.2.2⟩, cell_of_heap (f5 b hb.2.1)⟩) (fun _ _ h => h) (fun key n' a' c htc => ?_) hdn
    obtain ⟨n2, z2, h1, h2, h3⟩ := htc
    have hk : key ≠ d := fun e => by subst e; rw [hd] at h1; cases h1
    exact ⟨n2, z2, by simp [upd, hk, h1], h2, fun e => by have := h3 e; simpa [l', hk, Lay.live] using this⟩
  have hmr : MR w0 w' l' { st with tok := upd st.tok d (n, z) } := by
    refine ⟨f1.trans hm.os, f2.trans hm.tape, f3.trans hm.output, Nat.le_trans hm.size f4, fun b hb hn => (f5 b (Nat.lt_of_lt_of_le hb hm.size)).trans (hm.old b hb hn), hm.bel, hm.ext, hm.extn, hm.inj, ?_, ?_, fun r b hr => Nat.lt_of_lt_of_le (hm.rblt r b hr) f4, ?_, ?_, ?_, ?_, hm.rdok, ?_, ?_, hm.fzs.step f4 hdn (fun D hD ho => by rw [howold D hD]; exact ho) rfl rfl, fun k c z' hk => (by
      obtain ⟨a, b, q1, cv, T', q2, q3⟩ := hm.xtd k c z' hk
      exact ⟨by simp only [upd]; split; rfl; exact a, b, q1, cv, T', (f5 b (hm.rblt _ _ q1)).trans q2, q3⟩)⟩
    · intro r b hr
      obtain ⟨cs, h⟩ := hm.dom r b hr
      exact ⟨cs, by cases r <;> exact h⟩
    · intro r cs' hr
      rcases hm.obj r cs' (by cases r <;> exact hr) with e | ⟨b, h1, h2⟩
      · exact .inl e
      · exact .inr ⟨b, h1, h2.mono hle (f5 b (hm.rblt r b h1))⟩
    · intro key b hk
      have := hm.rbow key b hk
      exact ⟨this.1, by rw [howold b (hm.rblt _ _ hk)]; exact this.2⟩
    · intro b hb
      simp only [l'] at hb
      split at hb
      · cases hb
      · exact hm.owobj b hb
    · intro b hb
      simp only [l']
      rw [if_neg (fun h => by
        obtain ⟨_, _, cv, T, h4, _⟩ := hob b h
        have := (Array.getElem?_eq_some_iff.1 h4).1
        omega)]
      exact hm.owfree b (Nat.le_trans f4 hb)
    · intro b hb
      rw [howold b (Nat.lt_of_lt_of_le hb hm.size)]
      exact hm.owold b hb
    · intro key b c hk
      simp only [l'] at hk
      split at hk
      · rename_i e
        subst e
        obtain ⟨b', hb', e2⟩ := Option.map_eq_some_iff.1 hk
        cases e2
        obtain ⟨q1, q2, cv, T, q3, q4⟩ := hob b hb'
        exact ⟨n, z, by simp [upd], by simp only [l']; rw [if_pos hb'], Nat.le_trans hm.size q2, (Array.getElem?_eq_some_iff.1 q3).1, hcap, cv, T, q3, q4⟩
      · rename_i e
        obtain ⟨n2, z2, a1, a2, a3, a4, a5, cv, T', a6, a7⟩ := hm.tokd key b c hk
        exact ⟨n2, z2, by simp [upd, e, a1], by rw [howold b a4]; exact a2, a3, Nat.lt_of_lt_of_le a4 f4, a5, cv, T', (f5 b a4).trans a6, a7⟩
    · intro k1 k2 b c c' h1 h2
      simp only [l'] at h1 h2
      split at h1 <;> split at h2
      · rename_i e e'; rw [e, e']
      · obtain ⟨b', hb', e2⟩ := Option.map_eq_some_iff.1 h1
        cases e2
        obtain ⟨_, _, _, _, _, h, _⟩ := hm.tokd _ _ _ h2
        exact absurd (hob b hb').2.1 (Nat.not_le.2 h)
      · obtain ⟨b', hb', e2⟩ := Option.map_eq_some_iff.1 h2
        cases e2
        obtain ⟨_, _, _, _, _, h, _⟩ := hm.tokd _ _ _ h1
        exact absurd (hob b hb').2.1 (Nat.not_le.2 h)
      · exact hm.tokinj _ _ _ _ _ h1 h2
  refine ⟨l', ⟨hmr, he.mono hle⟩, ?_, rfl, rfl⟩
  simp only [RV]
  refine ⟨ad, cap, rfl, hcap, ?_, ⟨n, z, by simp [upd], Nat.le_refl _, fun _ => ?_⟩⟩
  · cases ad with
    | none => exact hT
    | some x =>
      simp only [TokR] at hT
      obtain ⟨t1, t2, t3, t4, t5⟩ := hT
      refine ⟨t1, t2, RDs.of_get fun j dd hj => ?_⟩
      obtain ⟨⟨i1, i2⟩, v, i3, i4, i5⟩ := t4.get j dd hj
      have hjl : j < cs.length := (List.getElem?_eq_some_iff.1 hj).1
      refine ⟨.inl ⟨Nat.le_trans hm.size i1, i2, ?_⟩, v, i3, i4, RD.mono (fun _ _ h => h.elim) (fun _ _ _ => rfl) dd v i5⟩
      simp only [l']
      split
      · rename_i hb
        obtain ⟨q1, _⟩ := hob _ hb
        have : x.off = 0 := by rw [Option.some.inj q1]
        show x.off + j < n * z
        omega
      · rw [hm.owfree _ i1]; trivial
  · simp only [l', if_true]
    cases ho : ob with
    | none =>
      show cap = n
      cases ad with
      | none => simp only [TokR] at hT; omega
      | some x =>
        simp only [ob] at ho
        split at ho
        · assumption
        · cases ho
    | some b => exact ⟨(hob b ho).1, rfl⟩
end Go.Ev
end
