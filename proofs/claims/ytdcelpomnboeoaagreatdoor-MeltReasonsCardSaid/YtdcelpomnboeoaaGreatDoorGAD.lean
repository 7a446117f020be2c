/- Lemmas for the claims of this seat: an evaluator over abstract values, its soundness, and the contracts of the functions of melt that it walks; no premise beyond what each theorem states. -/
import Derived.OrdersIn
import Derived.Test.YtdcelpomnboeoaaGreatDoorGAC

section
set_option linter.all false
set_option linter.unusedVariables false
set_option linter.unusedSimpArgs false
namespace Go.Ev
variable {w0 w : World} {l : Lay} {st : St} {P : Program}

/-- The state with an object that has grown. -/
abbrev St.grown (st : St) (d : Nat) (cs : List AV) (z : Nat) : St := { st.purge d with own := upd (st.purge d).own d cs, tok := upd st.tok (XK d) (0, z) }
/-- What an operation leaves that lets an object grow. -/
def GrowDone (P : Program) (w0 w : World) (l : Lay) (st : St) (a : Act) (s : Sem Value) (d n z : Nat) (cs : List AV) : Prop :=
  ∃ v w' l', s.run P w = .ok v w' ∧ Good w0 w' l' (st.grown d cs z) a ∧ RV w' (cx w0 w' l' (upd st.tok (XK d) (0, z))) (.sm (.own d) n (.grw d z)) v ∧ l'.rd = l.rd ∧ l'.be = l.be

theorem grown_rv {w' : World} {l' : Lay} {tk : Nat → Option (Nat × Nat)} {d b n cap z : Nat} (h1 : l'.rb (.own d) = some b) (h2 : l'.xt d = some (cap, z)) (hn : n ≤ cap) : RV w' (cx w0 w' l' tk) (.sm (.own d) n (.grw d z)) (.slice (some ⟨b, 0, none⟩) n cap) := by
  simp only [RV]
  refine ⟨_, cap, rfl, hn, .inl ⟨b, h1, rfl⟩, rfl, ?_⟩
  show (match l'.xt d with | some (c, z') => cap = c ∧ z = z' | none => cap = 0)
  rw [h2]; exact ⟨rfl, rfl⟩

/-- What is known of the old slice. -/
def OldR (w0 w : World) (l : Lay) (st : St) (d n z : Nat) (old : List AV) (a : Option Addr) (cap : Nat) : Prop :=
  (n = 0 ∧ cap = 0 ∧ old = []) ∨
  (∃ (b : Nat) (cv : Array Value) (T : TypeId), a = some ⟨b, 0, none⟩ ∧ l.rb (.own d) = some b ∧ w.heap[b]? = some (.cells cv T (0, 0)) ∧ cap * z ≤ cv.size ∧ n ≤ cap ∧
    ∀ (j : Nat) (x : AV), old[j]? = some x → ∃ v, cv[j]? = some v ∧ v.oneCell' = true ∧ RV w (cx w0 w l st.tok) x v)

theorem grow_append {ts : Array TypeId} {ty d n m : Nat} {e e2 : TypeId} {new old : List AV} {X' : X} {a : Act} {ad a2 : Option Addr} {cap cap2 : Nat} {news : List Value} (h : Good w0 w l st a)
    (he : fAppendX P st.own st.tok d e n m new old = some X') (ht1 : tdesc P ts[0]? = some (.slice e)) (ht2 : tdesc P ts[1]? = some (.slice e2)) (hold : OldR w0 w l st d n (P.cellsOf e) old ad cap)
    (hn1 : news.length = m * P.cellsOf e) (hn2 : ∀ w', w'.heap = w.heap → (Builtin.firstCells (P.cellsOf e) m (.slice a2 m cap2)).run P w' = .ok news.toArray w')
    (hn3 : ∀ (j : Nat) (x : AV), new[j]? = some x → ∃ v, news[j]? = some v ∧ v.oneCell' = true ∧ RV w (cx w0 w l st.tok) x v) (hn4 : ∀ u ∈ news, u.oneCell' = true) :
    X' = .grow (.sm (.own d) (n + m) (.grw d (P.cellsOf e))) d (old ++ new) (0, P.cellsOf e) ∧ GrowDone P w0 w l st a (Builtin.append_ ts ty #[.slice ad n cap, .slice a2 m cap2]) d (n + m) (P.cellsOf e) (old ++ new) := by
  obtain ⟨t1, hts1, hu1⟩ := tdesc_some ht1
  obtain ⟨t2, hts2, hu2⟩ := tdesc_some ht2
  unfold fAppendX at he
  split at he
  case isFalse => cases he
  rename_i hc
  cases he
  refine ⟨rfl, ?_⟩
  obtain ⟨c1, c2, c3, c4, c5, c6, c7, c8, c9⟩ := hc
  obtain ⟨i, zv, hi, hz, hzs, his, hib⟩ := zeroOk_spec c6
  rw [← his] at hn2
  have hcellsO : ∀ (cvs : Array Value), (∀ (j : Nat) (x : AV), old[j]? = some x → ∃ v, cvs[j]? = some v ∧ v.oneCell' = true ∧ RV w (cx w0 w l st.tok) x v) → (∀ (j : Nat) (v : Value), news[j]? = some v → cvs[n * P.cellsOf e + j]? = some v) →
      ∀ (j : Nat) (x : AV), (old ++ new)[j]? = some x → ∃ v, cvs[j]? = some v ∧ v.oneCell' = true ∧ Ref.own d ∉ x.refs ∧ RV w (cx w0 w l st.tok) x v := by
    intro cvs h1 h2 j x hj
    rw [List.getElem?_append] at hj
    split at hj
    · obtain ⟨v, q1, q2, q3⟩ := h1 j x hj
      exact ⟨v, q1, q2, noMen_get c7 hj, q3⟩
    · rename_i hlt
      obtain ⟨v, q1, q2, q3⟩ := hn3 _ x hj
      refine ⟨v, ?_, q2, noMen_get c8 hj, q3⟩
      have := h2 _ v q1
      rw [c2] at this hlt
      rwa [show n * P.cellsOf e + (j - n * P.cellsOf e) = j by omega] at this
  by_cases hm0 : m = 0
  · subst hm0
    have hne : new = [] := List.length_eq_zero_iff.1 (by simpa using c3)
    have hnz : news = [] := List.length_eq_zero_iff.1 (by simpa using hn1)
    subst hne hnz
    rcases hold with ⟨rfl, rfl, rfl⟩ | ⟨b, cv, T, rfl, hb, hh, hsz, hle, hcs⟩
    · cases hrb : l.rb (.own d) with
      | none =>
        obtain ⟨g1, g2⟩ := h.regrow0 d (P.cellsOf e) hrb c9
        refine ⟨_, w, l, run_append_none hts1 hts2 hu1 hu2 hi (Nat.le_refl _), by simpa using g1, ?_, rfl, rfl⟩
        simp only [RV]
        refine ⟨_, 0, rfl, Nat.le_refl _, .inr (by simp), rfl, ?_⟩
        show (match l.xt d with | some (c, z') => 0 = c ∧ P.cellsOf e = z' | none => 0 = 0)
        rw [g2]
      | some b =>
        obtain ⟨cs0, hcs0⟩ := h.1.dom _ _ hrb
        obtain ⟨b', hb', cv, T, hh, _⟩ := (h.1.obj _ cs0 hcs0).resolve_left fun x => by rw [hrb] at x; cases x.2
        rw [hrb] at hb'
        cases hb'
        obtain ⟨l', g1, g2, g3, g4, g5⟩ := h.regrow d b 0 (P.cellsOf e) ([] ++ []) cv T w rfl rfl rfl (Nat.le_refl _) (fun _ _ _ => rfl) (fun k h1 h2 => by omega) hh (.inr hrb) (by simp) (fun j x hj => by simp at hj) (by simp) c9
        refine ⟨_, w, l', run_append_none hts1 hts2 hu1 hu2 hi (Nat.le_refl _), g1, ?_, g4, g5⟩
        simp only [RV]
        refine ⟨_, 0, rfl, Nat.le_refl _, .inr (by simp), rfl, ?_⟩
        show (match l'.xt d with | some (c, z') => 0 = c ∧ P.cellsOf e = z' | none => 0 = 0)
        rw [g3]; exact ⟨rfl, rfl⟩
    · obtain ⟨l', g1, g2, g3, g4, g5⟩ := h.regrow d b cap (P.cellsOf e) (old ++ []) cv T w rfl rfl rfl (Nat.le_refl _) (fun _ _ _ => rfl) (fun k h1 h2 => by omega) hh (.inr hb) (by
          rw [List.append_nil, c2]; exact Nat.le_trans (Nat.mul_le_mul_right _ hle) hsz) (hcellsO cv hcs (fun j v hj => by simp at hj)) hsz c9
      exact ⟨_, w, l', run_append_none hts1 hts2 hu1 hu2 hi hle, g1, grown_rv g2 g3 hle, g4, g5⟩
  have hmpos : 0 < m := Nat.pos_of_ne_zero hm0
  -- a new row
  have big : ∀ (olds : List Value), olds.length = n * P.cellsOf e → cap < n + m → (∀ w', w'.heap = w.heap → (Builtin.firstCells i.size n (.slice ad n cap)).run P w' = .ok olds.toArray w') →
      (∀ (j : Nat) (x : AV), old[j]? = some x → ∃ v, olds[j]? = some v ∧ v.oneCell' = true ∧ RV w (cx w0 w l st.tok) x v) →
      GrowDone P w0 w l st a (Builtin.append_ ts ty #[.slice ad n cap, .slice a2 m cap2]) d (n + m) (P.cellsOf e) (old ++ new) := by
    intro olds o1 hg o2 o3
    have hr := run_append_big (P := P) (w := w) (ty := ty) hts1 hts2 hu1 hu2 hi hz o2 hn2 hg (by rw [hib]; exact c1) (by rw [hib]; exact c5)
    have hge := grownCap_ge w (n + m) cap e
    let us := olds ++ news ++ (Builtin.zeroCells zv.cells (grownCap w (n + m) cap e - (n + m))).toList
    have hus : us.length = grownCap w (n + m) cap e * P.cellsOf e := by
      simp only [us, List.length_append, o1, hn1, Array.length_toList, size_zeroCells, hzs, ← Nat.add_mul]
      congr 1; omega
    have hh : (w.drew.alloc (.cells us.toArray e)).heap[w.heap.size]? = some (.cells us.toArray e (0, 0)) := heap_alloc_new w.drew _
    have hs : (w.drew.alloc (.cells us.toArray e)).heap.size = w.heap.size + 1 := by simp
    obtain ⟨l', g1, g2, g3, g4, g5⟩ := h.regrow d w.heap.size (grownCap w (n + m) cap e) (P.cellsOf e) (old ++ new) us.toArray e (w.drew.alloc (.cells us.toArray e)) rfl rfl rfl (by rw [hs]; exact Nat.le_succ _)
      (fun k h1 _ => Go.RowKit.Below.heap_alloc w.drew _ k h1) (fun k h1 h2 => by omega) hh (.inl (Nat.le_refl _)) (by
        simp only [List.size_toArray, hus, List.length_append, c2, c3, ← Nat.add_mul]
        exact Nat.mul_le_mul_right _ hge) (hcellsO us.toArray (fun j x hj => by
          obtain ⟨v, q1, q2, q3⟩ := o3 j x hj
          have := (List.getElem?_eq_some_iff.1 q1).1
          exact ⟨v, by simp only [List.getElem?_toArray, us]; rw [List.append_assoc, List.getElem?_append_left this]; exact q1, q2, q3⟩) (fun j v hj => by
          have := (List.getElem?_eq_some_iff.1 hj).1
          simp only [List.getElem?_toArray, us]
          rw [List.append_assoc, List.getElem?_append_right (by omega), o1, Nat.add_sub_cancel_left, List.getElem?_append_left this]
          exact hj)) (by simp [hus]) c9
    exact ⟨_, _, l', hr, g1, grown_rv g2 g3 hge, g4, g5⟩
  rcases hold with ⟨rfl, rfl, rfl⟩ | ⟨b, cv, T, rfl, hb, hh, hsz, hle, hcs⟩
  · exact big [] (by simp) (by omega) (fun w' _ => first0 w' i.size ad 0) (fun j x hj => by simp at hj)
  · have hlen : (cv.toList.take (n * P.cellsOf e)).length = n * P.cellsOf e := by
      have := Nat.mul_le_mul_right (P.cellsOf e) hle
      simp; omega
    by_cases hroom : n + m ≤ cap
    · have hfit : n * P.cellsOf e + news.length ≤ cv.size := by
        rw [hn1, ← Nat.add_mul]
        exact Nat.le_trans (Nat.mul_le_mul_right _ hroom) hsz
      have hr := run_append_fits' (P := P) (w := w) (ty := ty) hts1 hts2 hu1 hu2 hi (hn2 w rfl) hh hroom (by rw [his]; exact hfit) hn4
      rw [his] at hr
      have hpl : (putL cv.toList (n * P.cellsOf e) news).length = cv.size := by simp [putL]; omega
      have hnew := setRow_heap w b cv (putL cv.toList (n * P.cellsOf e) news).toArray T _ hh
      obtain ⟨l', g1, g2, g3, g4, g5⟩ := h.regrow d b cap (P.cellsOf e) (old ++ new) (putL cv.toList (n * P.cellsOf e) news).toArray T (w.setRow b (putL cv.toList (n * P.cellsOf e) news).toArray) (by simp) (by simp) (by simp) (by simp)
        (fun k _ h2 => setRow_other w b k _ h2) (fun k h1 h2 => by simp at h2; omega) hnew (.inr hb) (by
          simp only [List.size_toArray, hpl, List.length_append, c2, c3, ← Nat.add_mul]
          exact Nat.le_trans (Nat.mul_le_mul_right _ hroom) hsz) (hcellsO _ (fun j x hj => by
          obtain ⟨v, q1, q2, q3⟩ := hcs j x hj
          refine ⟨v, ?_, q2, q3⟩
          have hlt := (List.getElem?_eq_some_iff.1 hj).1
          rw [c2] at hlt
          simp only [List.getElem?_toArray, putL]
          rw [List.append_assoc, List.getElem?_append_left (by omega), List.getElem?_take, if_pos hlt, Array.getElem?_toList]
          exact q1) (fun j v hj => by
          have hlt := (List.getElem?_eq_some_iff.1 hj).1
          simp only [List.getElem?_toArray, putL]
          rw [List.append_assoc, List.getElem?_append_right (by omega), hlen, Nat.add_sub_cancel_left, List.getElem?_append_left hlt]
          exact hj)) (by simp [hpl]; exact hsz) c9
      exact ⟨_, _, l', hr, g1, grown_rv g2 g3 hroom, g4, g5⟩
    · refine big (cv.toList.take (n * P.cellsOf e)) hlen (by omega) (fun w' hw => ?_) (fun j x hj => ?_)
      · rw [his]
        refine run_firstCells_some w' (P.cellsOf e) n ⟨b, 0, none⟩ n cap _ hlen (fun j v hj => ?_)
        rw [Addr.add_lit, Nat.zero_add]
        have : j < n * P.cellsOf e := by have := (List.getElem?_eq_some_iff.1 hj).1; omega
        rw [List.getElem?_take, if_pos this, Array.getElem?_toList] at hj
        simpa [World.cell?, hw, hh] using hj
      · obtain ⟨v, q1, q2, q3⟩ := hcs j x hj
        have hlt := (List.getElem?_eq_some_iff.1 hj).1
        rw [c2] at hlt
        exact ⟨v, by rw [List.getElem?_take, if_pos hlt, Array.getElem?_toList]; exact q1, q2, q3⟩

theorem grow_done {o : Oper} {a : Act} {c : Call} {xs : List AV} {X' : X} {F : List Ref} (h : Good w0 w l st a) (hop : o.op = .call c) (hc : c.callee = .builtin .append) (hd : dstOk st.nt o.dst = true)
    (hx : st.opds o.op.operands.toList = some xs) (he : fAppendM P st.own st.tok (tdesc P c.argTypes[0]?) (tdesc P c.argTypes[1]?) o.dst xs = some X') : ∃ st', X'.run st o F = .go st' ∧ OpDone P w0 w l o a st' := by
  have hv := opds_sound h.2 hx
  obtain ⟨callee, args, argTypes⟩ := c
  simp only at hc he
  subst hc
  rw [hop] at hv
  have fin : ∀ (v1 v2 : Value) (d n z : Nat) (cs : List AV), args.map a.eval = #[v1, v2] → GrowDone P w0 w l st a (Builtin.append_ argTypes o.type #[v1, v2]) d n z cs → o.dst = some d →
      ∃ st', (X.grow (.sm (.own d) n (.grw d z)) d cs (0, z)).run st o F = .go st' ∧ OpDone P w0 w l o a st' := by
    intro v1 v2 d n z cs hargs ⟨v, w', l', q1, q2, q3, q4, q5⟩ hdst
    refine ⟨_, rfl, v, .value v, w', l', .inl rfl, ?_, ?_, q4, q5⟩
    · simp [execOp, hop, resolve, invoke, builtin, hargs, q1]
    · exact q2.put hd q3
  unfold fAppendM at he
  split at he
  · rename_i e e2 d f g k y hd1 hd2 hdst
    split at he
    case isFalse => cases he
    rename_i hown
    obtain ⟨⟨m, new⟩, h1, h2⟩ := bnd_eq he
    have hv' : RVs w (cx w0 w l st.tok) [.sl f g k .full 0 [], y] (args.map a.eval).toList := by simpa [Op.operands, Call.operands] using hv
    obtain ⟨v1, v2, e3, r1, r2⟩ := RVs_two hv'
    have hargs : args.map a.eval = #[v1, v2] := by apply Array.ext'; simpa using e3
    simp only [RV] at r1
    obtain ⟨a1, cap, rfl, hcap, hsh, hfull⟩ := r1
    have hfull : cap = 0 := hfull
    subst hfull
    have hl : new.length = m * P.cellsOf e := by
      unfold fAppendX at h2
      split at h2
      · rename_i hc; exact hc.2.2.1
      · cases h2
    obtain ⟨a2, cap2, news, rfl, n1, n2, n3, n4⟩ := new_cells (P := P) h.1 h1 hl r2
    obtain ⟨rfl, hg⟩ := grow_append (ty := o.type) (ad := a1) h h2 hd1 hd2 (.inl ⟨rfl, rfl, rfl⟩) n1 n2 n3 n4
    exact fin _ _ _ _ _ _ hargs hg hdst
  · rename_i e e2 d d' n d'' z y hd1 hd2 hdst
    split at he
    case isFalse => cases he
    rename_i hcc
    obtain ⟨rfl, rfl, rfl⟩ := hcc
    obtain ⟨⟨m, new⟩, h1, h2⟩ := bnd_eq he
    obtain ⟨old, h3, h4⟩ := bnd_eq h2
    have hv' : RVs w (cx w0 w l st.tok) [.sm (.own d'') n (.grw d'' (P.cellsOf e)), y] (args.map a.eval).toList := by simpa [Op.operands, Call.operands] using hv
    obtain ⟨v1, v2, e3, r1, r2⟩ := RVs_two hv'
    have hargs : args.map a.eval = #[v1, v2] := by apply Array.ext'; simpa using e3
    simp only [RV] at r1
    obtain ⟨a1, cap, rfl, hcap, hsh, _, hxc⟩ := r1
    have hcond : old.length = n * P.cellsOf e ∧ new.length = m * P.cellsOf e ∧ 0 < P.cellsOf e := by
      unfold fAppendX at h4
      split at h4
      · rename_i hc; exact ⟨hc.2.1, hc.2.2.1, hc.2.2.2.1⟩
      · cases h4
    obtain ⟨a2, cap2, news, rfl, n1, n2, n3, n4⟩ := new_cells (P := P) h.1 h1 hcond.2.1 r2
    have hO : OldR w0 w l st d'' n (P.cellsOf e) old a1 cap := by
      rcases hsh with ⟨b, hb, rfl⟩ | ⟨rfl, rfl⟩
      · have hb : l.rb (.own d'') = some b := hb
        obtain ⟨b', q1, cv, T, q2, q3, q4⟩ := (h.1.obj (.own d'') old h3).resolve_left fun x => by rw [hb] at x; cases x.2
        rw [hb] at q1
        cases q1
        refine .inr ⟨b, cv, T, rfl, hb, q2, ?_, hcap, q4⟩
        have hxc : (match l.xt d'' with | some (c, z') => cap = c ∧ P.cellsOf e = z' | none => cap = 0) := hxc
        cases hx : l.xt d'' with
        | none => rw [hx] at hxc; simp only at hxc; rw [hxc]; simp
        | some q =>
          obtain ⟨c', z'⟩ := q
          rw [hx] at hxc
          obtain ⟨r1, r2⟩ := hxc
          obtain ⟨_, b', s1, cv', T', s2, s3⟩ := h.1.xtd d'' c' z' hx
          rw [hb] at s1
          cases s1
          rw [q2] at s2
          cases s2
          rw [r1, r2]; exact s3
      · exact .inl ⟨rfl, rfl, List.length_eq_zero_iff.1 (by simpa using hcond.1)⟩
    obtain ⟨rfl, hg⟩ := grow_append (ty := o.type) (ad := a1) h h4 hd1 hd2 hO n1 n2 n3 n4
    exact fin _ _ _ _ _ _ hargs hg hdst
  · cases he
theorem Good.newObjP {a : Act} (h : Good w0 w l st a) (k : Nat) (hk : st.own k = none) (cells : List AV) (vs : List Value) (T : TypeId) (hl : cells.length ≤ vs.length) (hv : ∀ (j : Nat) (x : AV), cells[j]? = some x → ∃ v, vs[j]? = some v ∧ v.oneCell' = true ∧ RV w (cx w0 w l st.tok) x v) :
    ∃ l', Good w0 (w.alloc (.cells vs.toArray T)) l' { st with own := upd st.own k cells } a ∧ l'.rb (.own k) = some w.heap.size ∧ l'.rd = l.rd ∧ l'.be = l.be := by
  obtain ⟨l', m1, m2, m3, m4, m5⟩ := h.1.newObjP k hk cells vs T hl hv
  exact ⟨l', ⟨m1, (h.2.mono m2)⟩, m3, m4, m5⟩
theorem copy_done {o : Oper} {a : Act} {c : Call} {xs : List AV} {X' : X} {F : List Ref} (h : Good w0 w l st a) (hop : o.op = .call c) (hc : c.callee = .builtin .append) (hd : dstOk st.nt o.dst = true)
    (hx : st.opds o.op.operands.toList = some xs) (he : fAppendC P st.own (tdesc P c.argTypes[0]?) (tdesc P c.argTypes[1]?) o.dst xs = some X') : ∃ st', X'.run st o F = .go st' ∧ OpDone P w0 w l o a st' := by
  have hv := opds_sound h.2 hx
  obtain ⟨callee, args, argTypes⟩ := c
  simp only at hc he
  subst hc
  rw [hop] at hv
  unfold fAppendC at he
  split at he
  · rename_i e e2 d f g0 k f2 g k2 o2 m ds hd1 hd2 hdst
    split at he
    case isFalse => cases he
    rename_i hcc
    cases he
    obtain ⟨c1, c3, c5, c6, c7, hown⟩ := hcc
    obtain ⟨t1, hts1, hu1⟩ := tdesc_some hd1
    obtain ⟨t2, hts2, hu2⟩ := tdesc_some hd2
    obtain ⟨i, zv, hi, hz, hzs, his, hib⟩ := zeroOk_spec c6
    have hv' : RVs w (cx w0 w l st.tok) [.sl f g0 k .full 0 [], .sl f2 g k2 o2 m ds] (args.map a.eval).toList := by simpa [Op.operands, Call.operands] using hv
    obtain ⟨v1, v2, e3, r1, r2⟩ := RVs_two hv'
    have hargs : args.map a.eval = #[v1, v2] := by apply Array.ext'; simpa using e3
    simp only [RV] at r1
    obtain ⟨a1, cap, rfl, hcap, hsh, hfull⟩ := r1
    have hfull : cap = 0 := hfull
    subst hfull
    obtain ⟨a2, cap2, news, rfl, n1, n2, n3, n4⟩ := new_cells (P := P) (size := P.cellsOf e) (new := ds.map (D.av g g)) h.1 rfl (by simpa using c3) r2
    rw [← his] at n2
    have hr := run_append_big (P := P) (w := w) (ty := o.type) (a := a1) (olds := []) hts1 hts2 hu1 hu2 hi hz (fun w' _ => first0 w' i.size a1 0) n2 (by omega : 0 < 0 + m) (by rw [hib]; simpa using c1) (by rw [hib]; exact c5)
    have hge := grownCap_ge w (0 + m) 0 e
    have hgd : Good w0 w.drew l st a := ⟨h.1.drew.1, h.2.mono h.1.drew.2⟩
    have hdle := h.1.drew.2
    obtain ⟨l', g1, g2, g3, g4⟩ := hgd.newObjP d hown (ds.map (D.av g g)) ([] ++ news ++ (Builtin.zeroCells zv.cells (grownCap w (0 + m) 0 e - (0 + m))).toList) e (by simp [n1, c3]) (fun j x hj => by
      obtain ⟨v, q1, q2, q3⟩ := n3 j x hj
      have := (List.getElem?_eq_some_iff.1 q1).1
      exact ⟨v, by rw [List.nil_append, List.getElem?_append_left this]; exact q1, q2, RV.mono hdle x v q3⟩)
    refine ⟨_, rfl, .slice (some ⟨w.heap.size, 0, none⟩) (0 + m) (grownCap w (0 + m) 0 e), .value (.slice (some ⟨w.heap.size, 0, none⟩) (0 + m) (grownCap w (0 + m) 0 e)), w.drew.alloc (.cells ([] ++ news ++ (Builtin.zeroCells zv.cells (grownCap w (0 + m) 0 e - (0 + m))).toList).toArray e), l', .inl rfl, ?_, ?_, g3, g4⟩
    · simp [-List.append_assoc, -List.nil_append, execOp, hop, resolve, invoke, builtin, hargs, hr]
    · have := g1.put (d := o.dst) (x := .sm (.own d) m .no) (v := .slice (some ⟨w.heap.size, 0, none⟩) (0 + m) (grownCap w (0 + m) 0 e)) hd (by
        simp only [RV, Nat.zero_add]
        exact ⟨_, _, rfl, by simpa using hge, .inl ⟨_, g2, rfl⟩, trivial⟩)
      have e0 : ∀ F : List Ref, st.setAll F [] = st := fun F => by cases F <;> rfl
      simpa [e0] using this
  · cases he
/-- A slice that is written out. -/
theorem buildSlice_run {t e : TypeId} {len : Nat} {parts : List (Nat × Operand)} {ρ : Operand → Value} (hu : P.underlying t = some (.slice e)) (c1 : parts.map (·.1) = List.range len) (c3 : len * P.cellsOf e ≤ 16777216) (hlen : (parts.map fun p => ρ p.2).length = len)
    (c5 : (zeroCells P e).isSome = true) (k2 : ∀ v ∈ (parts.map fun p => ρ p.2), v.cells.size = P.cellsOf e) :
    ∃ r : Array Value, (Instr.buildSlice t len (parts.toArray.map fun (i, x) => (i, ρ x))).run P w = .ok (.slice (some ⟨w.heap.size, 0, none⟩) len len) (w.alloc (.cells r e)) ∧ r.toList = (parts.map fun p => ρ p.2).flatMap (fun v => v.cells.toList) ∧ r.size = len * P.cellsOf e := by
  obtain ⟨z, hz⟩ := Option.isSome_iff_exists.1 c5
  obtain ⟨zv, hz1, hz2⟩ := zeroCells_run hz w
  have hinfo : ∃ i, P.info? e = some i := by
    cases hi : P.info? e with
    | none => simp [zeroCells, hi] at hz
    | some i => exact ⟨i, rfl⟩
  obtain ⟨i, hi⟩ := hinfo
  let Z : Array Value := if len * P.cellsOf e = 0 then #[] else zv.cells
  have hzr : (if len * P.cellsOf e = 0 then (pure #[] : Sem (Array Value)) else do pure (← zeroValue e).cells).run P w = .ok Z w := by
    by_cases h0 : len * P.cellsOf e = 0
    · simp [Z, h0]
    · simp [Z, h0, hz1]
  obtain ⟨r, hr1, hr2⟩ := fill_range (P.cellsOf e) (parts.map fun p => ρ p.2) 0 ((Array.range (len * P.cellsOf e)).map (Z[· % Z.size]!)) k2 (by simp [hlen])
  have hzip : (List.range' 0 (parts.map fun p => ρ p.2).length).zip (parts.map fun p => ρ p.2) = (parts.toArray.map fun (i, x) => (i, ρ x)).toList := by
    rw [hlen, ← List.range_eq_range', ← c1, List.zip_map']; simp
  rw [hzip] at hr1
  have hflat : ((parts.map fun p => ρ p.2).flatMap fun v => v.cells.toList).length = len * P.cellsOf e := by
    have : ∀ (us : List Value), (∀ v ∈ us, v.cells.size = P.cellsOf e) → (us.flatMap fun v => v.cells.toList).length = us.length * P.cellsOf e := by
      intro us
      induction us with
      | nil => intro _; simp
      | cons u us ih => intro hu; simp only [List.flatMap_cons, List.length_append, List.length_cons, ih (fun v hv => hu v (by simp [hv])), Array.length_toList, hu u (by simp), Nat.add_mul]; omega
    rw [this _ k2, hlen]
  have hr3 : r.toList = (parts.map fun p => ρ p.2).flatMap fun v => v.cells.toList := by
    rw [hr2]
    simp only [putL, Nat.zero_mul, List.take_zero, List.nil_append, Nat.zero_add]
    rw [hflat, List.drop_of_length_le (by simp)]
    simp
  refine ⟨r, ?_, hr3, by rw [← Array.length_toList, hr3, hflat]⟩
  · unfold Instr.buildSlice
    simp only [Sem.run_bind, run_underlying hu, Result.andThen_ok, run_sizeOf' hi]
    rw [if_neg (by omega)]
    by_cases h0 : len * P.cellsOf e = 0
    · have hZ : Z = #[] := by simp [Z, h0]
      rw [hZ] at hr1
      rw [if_pos h0]
      simp only [Sem.run_bind, Sem.run_pure, Result.andThen_ok]
      simp only [hr1]
      simp [newRow]
    · have hZ : Z = zv.cells := by simp [Z, h0]
      rw [hZ] at hr1
      rw [if_neg h0]
      simp only [Sem.run_bind, Sem.run_pure, Result.andThen_ok, hz1]
      simp only [hr1]
      simp [newRow]

theorem refs_D (f g : Bool) : ∀ dd : D, (dd.av f g).refs = []
  | .sl n cs => rfl
  | .s v => by
    simp only [D.av]
    unfold AV.ofFn
    split
    · unfold AV.ofFnAs
      split <;> rfl
    · rfl
theorem hint_done {Γ : Gam} {o : Oper} {a : Act} {xs : List AV} {X' : X} {F : List Ref} (h : Good w0 w l st a) (hd : dstOk st.nt o.dst = true) (hx : st.opds o.op.operands.toList = some xs)
    (he : execH P o.op o.dst xs st.own st.tok = some X') : ∃ st', X'.run st o F = .go st' ∧ OpDone P w0 w l o a st' := by
  have hv := opds_sound h.2 hx
  have fin : ∀ (d n z : Nat) (cs : List AV) (cv : Array Value) (e : TypeId), (execOp a.eval o).run P w = .ok (.value (.slice (some ⟨w.heap.size, 0, none⟩) n n)) (w.alloc (.cells cv e)) → o.dst = some d → cs.length = n * z → cv.size = n * z →
      (∀ (j : Nat) (x : AV), cs[j]? = some x → ∃ v, cv[j]? = some v ∧ v.oneCell' = true ∧ Ref.own d ∉ x.refs ∧ RV w (cx w0 w l st.tok) x v) → (st.tok (XK d) = none ∨ st.tok (XK d) = some (0, z)) →
      ∃ st', (X.grow (.sm (.own d) n (.grw d z)) d cs (0, z)).run st o F = .go st' ∧ OpDone P w0 w l o a st' := by
    intro d n z cs cv e hrun hdst hl hs hcells htk
    have hh : (w.alloc (.cells cv e)).heap[w.heap.size]? = some (.cells cv e (0, 0)) := heap_alloc_new w _
    have hsz : (w.alloc (.cells cv e)).heap.size = w.heap.size + 1 := by simp
    obtain ⟨l', g1, g2, g3, g4, g5⟩ := h.regrow d w.heap.size n z cs cv e (w.alloc (.cells cv e)) rfl rfl rfl (by rw [hsz]; exact Nat.le_succ _) (fun k h1 _ => heap_alloc_lt w _ k h1) (fun k h1 h2 => by omega) hh (.inl (Nat.le_refl _)) (by omega) hcells (by omega) htk
    refine ⟨_, rfl, _, .value _, _, l', .inl rfl, hrun, ?_, g4, g5⟩
    exact g1.put hd (grown_rv g2 g3 (Nat.le_refl _))
  unfold execH at he
  split at he
  · rename_i t len parts hop
    rw [hop] at hv
    unfold hBuild at he
    split at he
    · rename_i e d hu hdst
      split at he
      case isFalse => cases he
      rename_i hc
      cases he
      obtain ⟨c1, c2, c3, c4, c5, c6, c7, c8, c9⟩ := hc
      have hv' : RVs w (cx w0 w l st.tok) xs (parts.toList.map fun p => a.eval p.2) := by simpa [Op.operands, Function.comp_def] using hv
      obtain ⟨k1, k2, k3⟩ := RVs_flat (P.cellsOf e) c2 hv'
      have hlen : (parts.toList.map fun p => a.eval p.2).length = len := by have := hv'.length; rw [this, c4]
      obtain ⟨r, r1, r2, r3⟩ := buildSlice_run (P := P) (w := w) (ρ := a.eval) hu c1 c3 hlen c5 k2
      refine fin d len (P.cellsOf e) _ r e ?_ hdst ?_ r3 (fun j x hj => ?_) c9
      · simp only [Array.toArray_toList] at r1
        simp [execOp, hop, r1]
      · rw [← k1.length, ← r2, Array.length_toList, r3]
      · obtain ⟨v, q1, q2⟩ := k1.get j x hj
        exact ⟨v, by rw [← Array.getElem?_toList, r2]; exact q1, k3 v (List.mem_of_getElem? q1), noMen_get c7 hj, q2⟩
    · cases he
  · rename_i t y z hop
    rw [hop] at hv
    unfold hMake at he
    split at he
    · rename_i e k n k' m d hu hdst
      split at he
      case isFalse => cases he
      rename_i hc
      obtain ⟨rfl, c1, c2, c3, c4, c5, c6⟩ := hc
      obtain ⟨zds, h1, h2⟩ := bnd_eq he
      cases h2
      have hv' : RVs w (cx w0 w l st.tok) [.s (.int k m), .s (.int k' m)] [a.eval y, a.eval z] := by simpa [Op.operands] using hv
      obtain ⟨u1, u2, e3, r1, r2⟩ := RVs_two hv'
      simp only [List.cons.injEq, and_true] at e3
      simp only [RV] at r1 r2
      subst r1 r2
      obtain ⟨cv, m1, m2, m3, m4⟩ := make_run (P := P) (k := k) (k' := k') hu c1 c2 c3 c4 h1 (cx w0 w l st.tok) (cx_down st.tok true)
      refine fin d m.toNat (P.cellsOf e) _ cv e ?_ hdst ?_ m2 (fun j x hj => ?_) c6
      · simp only [execOp, hop, e3.1, e3.2, Sem.run_bind]
        rw [m1]
        rfl
      · rw [List.length_map, flat_rep_len, m3]
      · rw [List.getElem?_map, Option.map_eq_some_iff] at hj
        obtain ⟨dd, hd, rfl⟩ := hj
        obtain ⟨v, q1, q2, q3⟩ := m4 j dd hd
        exact ⟨v, by rw [← Array.getElem?_toList]; exact q1, q2, by rw [refs_D]; simp, av_of_D q3⟩
    · cases he
  · cases he

end Go.Ev
end

section
set_option linter.all false
set_option linter.unusedVariables false
set_option linter.unusedSimpArgs false
namespace Go.Ev
variable {w0 w : World} {l : Lay} {st : St} {P : Program} {Fe : Fence}

/-- Every function, at any depth; a function's frame or a round's. -/
class FW (Fe : Fence) : Prop where
  eq : Fe.plain = Fence.wide
instance : FW Fence.wide := ⟨rfl⟩
instance (l : Nat) : FW (Fence.wide.inRound l) := ⟨rfl⟩
theorem FW.fn (Fe : Fence) [h : FW Fe] (f : FuncId) : Fe.fn f := by
  have : Fe.plain.fn f := by rw [h.eq]; trivial
  exact this
theorem FW.dep (Fe : Fence) [h : FW Fe] {p : Prop} : Fe.depth.isSome = true → p := by
  have : Fe.plain.depth = none := by rw [h.eq]; rfl
  have : Fe.depth = none := this
  rw [this]; intro h; cases h
theorem FW.calls (Fe : Fence) [h : FW Fe] {n : Nat} {f : FuncId} {args : Array Value} {w : World} {R : Ending → World → Prop} (hc : Calls P f args w R) : CallsIn Fe n P f args w R := by
  have : CallsIn Fe.plain n P f args w R := by rw [h.eq]; exact callsIn_wide.2 hc
  exact this
theorem FW.round (Fe : Fence) [h : FW Fe] {n m : Nat} {l : Nat} {f : FuncId} {tmps : Array Value} {assign body : Code} {w : World} {R : Ending → World → Prop} (hc : RoundIn Fence.wide m P l f tmps assign body w R) : RoundIn Fe n P l f tmps assign body w R := by
  have : RoundIn Fe.plain n P l f tmps assign body w R := by rw [h.eq]; exact ⟨trivial, fun c cs _ => hc.2 c cs (room_wide _)⟩
  exact this
theorem FW.op [FW Fe] {o : Oper} {a : Act} {K : Act → World → Prop} {Q : Exit → Act → World → Prop} (hnd : ∀ c, o.op ≠ .defer c) (h : o.uponIn Fe 0 P a K Q ((execOp a.eval o).run P w)) : o.wpIn Fe 0 P a w K Q := by
  refine ⟨fun f _ => FW.fn Fe f, ?_⟩
  rw [Oper.semAt_eq _ _ _ hnd]
  exact h

def pchain (v : Value) : List PanicEntry := [{ v := v, recovered := false }]

theorem Framed.of_MR (h : MR w0 w l st) : Framed w0 w l.be := ⟨h.os, h.tape, h.output, h.size, h.old⟩

/-- What is asked behind an operation. -/
def After (w0 : World) (l : Lay) (df : List Deferred) (G : Act → World → Prop) (K : Act → World → Prop) (Q : Exit → Act → World → Prop) : Res → Prop
  | .go st' => ∀ a' w' l', Good w0 w' l' st' a' → l'.rd = l.rd → l'.be = l.be → a'.defers = df → K a' w'
  | .pan v => ∀ a' w', Framed w0 w' l.be → (∀ D, D ∈ l.rd.d → w'.heap[D]? = some (.deferred (some []))) → a'.defers = df → G a' w' → Q (.panic (pchain v)) a' w'

theorem Good.framed {a : Act} {w' : World} (h : Good w0 w l st a) (hF : Framed w w' []) : Good w0 w' l st a := by
  obtain ⟨hm, he⟩ := h
  obtain ⟨f1, f2, f3, f4, f5⟩ := hF
  have f5 : ∀ b, b < w.heap.size → w'.heap[b]? = w.heap[b]? := fun b hb => f5 b hb (by simp)
  have hdn : ∀ D, D ∈ l.rd.d ++ l.rd.e → w'.heap[D]? = w.heap[D]? := fun D hD => f5 D (hm.fzs.de D hD).2.1
  have hle : Cx.le w (cx w0 w l st.tok) w' (cx w0 w' l st.tok) := cxle_of hm rfl (fun b hb hn => (f5 b (Nat.lt_of_lt_of_le hb hm.size)).trans (hm.old b hb hn))
    (fun b o hb => ⟨⟨hb.1, Nat.lt_of_lt_of_le hb.2.1 f4, hb.2.2⟩, cell_of_heap (f5 b hb.2.1)⟩) (fun _ _ h => h) (fun _ _ _ _ h => h) hdn
  refine ⟨⟨f1.trans hm.os, f2.trans hm.tape, f3.trans hm.output, Nat.le_trans hm.size f4, fun b hb hn => (f5 b (Nat.lt_of_lt_of_le hb hm.size)).trans (hm.old b hb hn), hm.bel, hm.ext, hm.extn, hm.inj, hm.dom, fun r cs hr => ?_, fun r b hr => Nat.lt_of_lt_of_le (hm.rblt r b hr) f4, hm.rbow, hm.owobj, fun b hb => hm.owfree b (Nat.le_trans f4 hb), hm.owold, hm.rdok, fun k b cap hk => ?_, hm.tokinj, hm.fzs.step f4 hdn (fun _ _ h => h) rfl rfl, fun k c z hk => (by
    obtain ⟨a, b, q1, cv, T, q2, q3⟩ := hm.xtd k c z hk
    exact ⟨a, b, q1, cv, T, (f5 b (hm.rblt _ _ q1)).trans q2, q3⟩)⟩, he.mono hle⟩
  · rcases hm.obj r cs hr with e | ⟨b, h1, h2⟩
    · exact .inl e
    · exact .inr ⟨b, h1, h2.mono hle (f5 b (hm.rblt r b h1))⟩
  · obtain ⟨n, z, a1, a2, a3, a4, a5, cv, T, a6, a7⟩ := hm.tokd k b cap hk
    exact ⟨n, z, a1, a2, a3, Nat.lt_of_lt_of_le a4 f4, a5, cv, T, (f5 b a4).trans a6, a7⟩

theorem callFunc_run {f : FuncId} (h : Callable P f) (args : Array Value) (w : World) : (callFunc f args).run P w = .ok (.enter f args) w := by
  obtain ⟨fn, c, h1, h2, h3⟩ := h
  have h3' : ¬ fn.name = "runtime.NumGoroutine" := by simpa using h3
  simp [callFunc, h1, h2, h3']

theorem call_wp {Γ : Gam} {o : Oper} {a : Act} {c : Call} {fo : Operand} {xs : List AV} {os : List (List AV)} {X' : X} (hS : Sound P Γ) (h : Good w0 w l st a) (hop : o.op = .call c) (hc : c.callee = .value fo) (hd : dstOk st.nt o.dst = true)
    (hx : st.opds o.op.operands.toList = some xs) (hos : st.mems (foot st o.op xs) = some os) (he : fCall Γ st.own st.tok (foot st o.op xs) os o.dst xs = some X') (K : Act → World → Prop) (Q : Exit → Act → World → Prop)
    (hK : After w0 l a.defers (fun a' w' => foot st o.op xs = [] → Good w0 w' l st a') K Q (X'.run st o (foot st o.op xs))) [FW Fe] : o.wpIn Fe 0 P a w K Q := by
  have hv := opds_sound h.2 hx
  have hnd : ∀ c, o.op ≠ .defer c := by rw [hop]; intro c hc'; cases hc'
  obtain ⟨callee, args, argTypes⟩ := c
  simp only at hc
  subst hc
  rw [hop] at hv hos hK he
  have hnod := footC_nodup (st := st) (xs := xs)
  generalize hrs : foot st (.call ⟨.value fo, args, argTypes⟩) xs = rs at *
  have hn : rs.Nodup := by rw [← hrs]; exact hnod
  clear hnod
  -- behind the call
  have fin : ∀ (f : FuncId) (ys : List AV) (vs : List Value) (d : Nat) (be : List Nat) (out : Out), ((rs.all fun r => match r with | .own k => (st.tok (XK k)).isNone | .ext _ => true) = true ∧ (os.all fun cs => !cs.isEmpty) = true) → o.dst = some d → (∀ (i b : Nat), be[i]? = some b ↔ ∃ r, rs[i]? = some r ∧ l.rb r = some b) →
      fBack st.own st.tok rs d os.length (some out) = some X' → ∀ e w', OutR w (rdAt w0 w l st.tok) be out e w' → (match e, w' with
        | .returned v, w'' => K (a.put o.dst v) w''
        | .panicked chain, w'' => Q (.panic chain) a w''
        | .outgrown, _ => LetsOut Q) := by
    intro f ys vs d be out hcc hdst hbe he e w' hout
    cases out with
    | ret r ext own =>
      simp only [OutR] at hout
      obtain ⟨v, ob, rfl, hR⟩ := hout
      simp only [fBack] at he
      split at he
      · rename_i hcond
        cases he
        obtain ⟨l', g1, g2, g3, g4⟩ := call_post h hn hos hbe hR (d := d) (fun p hp => by
          have := List.all_eq_true.1 hcond.2 p hp
          simpa using this) (fun cs hcs e => by have := List.all_eq_true.1 hcc.2 cs hcs; rw [e] at this; cases this) (fun k hk => by have := List.all_eq_true.1 hcc.1 _ hk; simpa using this)
        simp only [X.run, Option.getD_some] at hK
        refine hK _ _ l' ?_ g3 g4 ?_
        · have hstd : dstOk st.nt o.dst = true := hd
          obtain ⟨hol, hog⟩ := mems_get hos
          have sp := (setAll_spec rs (ext.map (mapRefL (refBack rs (d + 1)))) st hn (by
            have := hcond.1
            rw [List.length_map, this, hol]) (fun r' hr' => by
            obtain ⟨i, hi, rfl⟩ := List.mem_iff_getElem.1 hr'
            obtain ⟨cs, _, h2⟩ := hog i _ (List.getElem?_eq_getElem hi)
            exact ⟨cs, h2⟩)).2.2.2
          refine g1.put (by simp only [sp.2.1]; exact hd) ?_
          simp only [sp.1]
          exact g2
        · cases o.dst <;> rfl
      · cases he
    | rtok k n z cs =>
      simp only [OutR] at hout
      obtain ⟨ad, cap, rfl, hF, hcap, hT⟩ := hout
      simp only [fBack] at he
      split at he
      · rename_i hcond
        cases he
        have hbe0 : be = [] := by
          cases hb : be with
          | nil => rfl
          | cons b bs =>
            obtain ⟨r', hr, _⟩ := (hbe 0 b).1 (by rw [hb]; rfl)
            have := (mems_get hos).1
            rw [hcond.1] at this
            have hrs0 : rs = [] := List.length_eq_zero_iff.1 this.symm
            rw [hrs0] at hr; cases hr
        subst hbe0
        obtain ⟨l', g1, g2, g3, g4⟩ := call_tok h hcond.2 hF hcap hT
        simp only [X.run] at hK
        refine hK _ _ l' ?_ g3 g4 ?_
        · exact g1.put hd g2
        · cases o.dst <;> rfl
      · cases he
    | pan x =>
      simp only [OutR] at hout
      obtain ⟨rfl, hF⟩ := hout
      simp only [fBack] at he
      cases he
      simp only [X.run] at hK
      refine hK _ _ ?_ (fun D hD => ?_) rfl (fun hrs0 => ?_)
      rotate_left
      · have h4 := h.1.fzs.d D hD
        rw [hF.old D h4.2.1 (fun hbe' => ?_)]
        · exact h4.2.2.2
        · obtain ⟨i, hi, hib⟩ := List.mem_iff_getElem.1 hbe'
          obtain ⟨r', hr, hrb⟩ := (hbe i D).1 (by rw [List.getElem?_eq_getElem hi, hib])
          cases r' with
          | own k => have := (h.1.rbow k D hrb).2; rw [h4.2.2.1] at this; cases this
          | ext i => have := h.1.ext i; rw [hrb] at this; exact absurd (h.1.bel _ (List.mem_of_getElem? this.symm)) (Nat.not_lt.2 h4.1)
      · have hbe0 : be = [] := by
          cases hb : be with
          | nil => rfl
          | cons b bs =>
            obtain ⟨r', hr, _⟩ := (hbe 0 b).1 (by rw [hb]; rfl)
            rw [hrs0] at hr; cases hr
        subst hbe0
        exact h.framed hF
      obtain ⟨f1, f2, f3, f4, f5⟩ := hF
      refine ⟨f1.trans h.1.os, f2.trans h.1.tape, f3.trans h.1.output, Nat.le_trans h.1.size f4, fun b hb hnb => ?_⟩
      rw [f5 b (Nat.lt_of_lt_of_le hb h.1.size) (fun hbe' => ?_)]
      · exact h.1.old b hb hnb
      · obtain ⟨i, hi, hib⟩ := List.mem_iff_getElem.1 hbe'
        obtain ⟨r', hr, hrb⟩ := (hbe i b).1 (by rw [List.getElem?_eq_getElem hi, hib])
        cases r' with
        | own k => exact absurd (h.1.rbow k b hrb).1 (Nat.not_le.2 hb)
        | ext i => have := h.1.ext i; rw [hrb] at this; exact hnb (List.mem_of_getElem? this.symm)
  unfold fCall at he
  split at he
  · rename_i d fid cap ys hdst
    have hv' : RVs w (cx w0 w l st.tok) (.fn fid cap :: ys) (a.eval fo :: (args.map a.eval).toList) := by simpa [Op.operands, Call.operands] using hv
    have hv2 := hv'
    simp only [RVs] at hv2
    obtain ⟨vf, rest, e1, h1, h2⟩ := hv2
    simp only [List.cons.injEq] at e1
    obtain ⟨e1, e2⟩ := e1
    subst e1 e2
    simp only [RV] at h1
    obtain ⟨vc, hvf, h3⟩ := h1
    have hall : RVs w (cx w0 w l st.tok) (ys ++ cap) ((args.map a.eval).toList ++ vc) := h2.append h3
    split at he
    · cases he
    rename_i hfid
    unfold fCallAs at he
    split at he
    case isFalse => cases he
    rename_i hcc
    obtain ⟨be, hbe, hpre⟩ := call_pre h.1 hn hos hall (fun cs hcs e => by have := List.all_eq_true.1 hcc.2 cs hcs; rw [e] at this; cases this)
    cases hΓ : Γ fid (mapRefL (refIdx rs) (asArgL (ys ++ cap))) (os.map fun cs => mapRefL (refIdx rs) (asObjL cs)) with
    | none => rw [hΓ] at he; simp [fBack] at he
    | some out =>
      rw [hΓ] at he
      have hAC := hS _ _ _ _ hΓ
      unfold ACalls at hAC
      rw [if_neg hfid] at hAC
      · obtain ⟨hcall, hA⟩ := hAC
        have hcalls := hA w _ be ((args.map a.eval).toList ++ vc).toArray (by simpa using hpre)
        have hrun : (execOp a.eval o).run P w = .ok (.enter fid ((args.map a.eval).toList ++ vc).toArray) w := by
          have e3 : args.map a.eval ++ vc.toArray = ((args.map a.eval).toList ++ vc).toArray := by apply Array.ext'; simp
          simp only [execOp, hop, resolve, hvf, Deferred.ofValue, Sem.run_bind, Sem.run_pure, Result.andThen_ok, invoke, Array.empty_append]
          rw [e3, callFunc_run hcall]
        refine FW.op hnd ?_
        rw [hrun]
        refine ⟨FW.dep Fe, (FW.calls Fe hcalls).mono fun e w' hout => ?_⟩
        have := fin fid ys vc d be out hcc hdst hbe he e w' hout
        cases e <;> exact this
  · rename_i d l' G rs' ys hdst
    have hv' : RVs w (cx w0 w l st.tok) (.yl l' G rs' :: ys) (a.eval fo :: (args.map a.eval).toList) := by simpa [Op.operands, Call.operands] using hv
    have hv2 := hv'
    simp only [RVs] at hv2
    obtain ⟨vf, rest, e1, h1, h2⟩ := hv2
    simp only [List.cons.injEq] at e1
    obtain ⟨e1, e2⟩ := e1
    subst e1 e2
    have hall : RVs w (cx w0 w l st.tok) (ys ++ [.yl l' G rs']) ((args.map a.eval).toList ++ [a.eval fo]) := h2.append (by simp only [RVs]; exact ⟨_, _, rfl, h1, rfl⟩)
    unfold fCallAs at he
    split at he
    case isFalse => cases he
    rename_i hcc
    obtain ⟨be, hbe, hpre⟩ := call_pre h.1 hn hos hall (fun cs hcs e => by have := List.all_eq_true.1 hcc.2 cs hcs; rw [e] at this; cases this)
    cases hΓ : Γ YID (mapRefL (refIdx rs) (asArgL (ys ++ [.yl l' G rs']))) (os.map fun cs => mapRefL (refIdx rs) (asObjL cs)) with
    | none => rw [hΓ] at he; simp [fBack] at he
    | some out =>
      rw [hΓ] at he
      have hAC := hS _ _ _ _ hΓ
      unfold ACalls at hAC
      rw [if_pos rfl] at hAC
      have hAC := hAC.resolve_left fun ⟨d0, e0⟩ => by
        rw [mapRefL_eq, asArgL_eq] at e0
        have hl0 := congrArg List.getLast? e0
        simp only [List.map_append, List.map_cons, List.map_nil, AV.asArg, AV.mapRef, List.getLast?_append, List.getLast?_singleton, Option.some_or, Option.some.injEq] at hl0
        cases hm0 : mapRs (refIdx rs) rs' with
        | none => rw [hm0] at hl0; simp [ylOf] at hl0
        | some q => rw [hm0] at hl0; simp [ylOf] at hl0
      obtain ⟨xs2, l2, G2, rs2, hargs, hA⟩ := hAC
      have hargs2 : mapRefL (refIdx rs) (asArgL ys) ++ [ylOf l' G (mapRs (refIdx rs) rs')] = xs2 ++ [.yl l2 G2 rs2] := by
        rw [← hargs, mapRefL_eq, asArgL_eq, mapRefL_eq, asArgL_eq]
        simp [AV.asArg, AV.mapRef]
      obtain ⟨hx1, hx2⟩ := List.append_inj' hargs2 rfl
      have hl2 : l2 = l' := by
        cases hm : mapRs (refIdx rs) rs' with
        | none => rw [hm] at hx2; simp [ylOf] at hx2
        | some q => rw [hm] at hx2; simp [ylOf] at hx2; exact hx2.1.symm
      subst hl2
      have hlen : (args.map a.eval).toList.length = xs2.length := by
        rw [← hx1, mapRefL_eq, asArgL_eq, List.length_map, List.length_map]
        exact h2.length
      obtain ⟨fn, tmps, assign, body, hy, hround⟩ := hA w _ be _ _ hpre hlen
      simp only [RV] at h1
      have hrun : (execOp a.eval o).run P w = .ok (.round l2 fn tmps assign body) w := by
        simp only [execOp, hop, resolve, h1.1, Deferred.ofValue, Sem.run_bind, Sem.run_pure, Result.andThen_ok, invoke, Array.empty_append, Array.append_empty]
        have e3 : (args.map a.eval).toList.toArray = args.map a.eval := by apply Array.ext'; rfl
        rw [e3] at hy
        exact hy
      refine FW.op hnd ?_
      rw [hrun]
      refine ⟨FW.dep Fe, (FW.round Fe hround).mono fun e w' hout => ?_⟩
      have := fin YID ys [] d be out hcc hdst hbe he e w' hout
      cases e <;> exact this
  · cases he

theorem nd_of_exec {o : Oper} {xs : List AV} {os : List (List AV)} {x : AV} (h : execQ P o.op xs os = some x) : ∀ c, o.op ≠ .defer c := by
  intro c hc
  rw [hc] at h
  cases h
theorem OpDone.wp [FW Fe] {o : Oper} {a : Act} {st' : St} (hnd : ∀ c, o.op ≠ .defer c) (h : ∃ v n w' l', (n = .value v ∨ (n = .skip ∧ v = undef)) ∧ (execOp a.eval o).run P w = .ok n w' ∧ Good w0 w' l' st' (a.put o.dst v) ∧ l'.rd = l.rd ∧ l'.be = l.be)
    (K : Act → World → Prop) (Q : Exit → Act → World → Prop) (hK : ∀ a' w' l', Good w0 w' l' st' a' → l'.rd = l.rd → l'.be = l.be → a'.defers = a.defers → K a' w') : o.wpIn Fe 0 P a w K Q := by
  obtain ⟨v, n, w', l', hn, hr, hg, h1, h2⟩ := h
  refine FW.op hnd ?_
  rw [hr]
  have hk := hK _ w' l' hg h1 h2 (by cases o.dst <;> rfl)
  rcases hn with rfl | ⟨rfl, rfl⟩
  · exact hk
  · exact hk

theorem stepRun_wp [FW Fe] {Γ : Gam} {o : Oper} {a : Act} {r : Res} (hS : Sound P Γ) (h : Good w0 w l st a) (hd : dstOk st.nt o.dst = true) (he : stepRun P Γ st o = some r) (K : Act → World → Prop) (Q : Exit → Act → World → Prop)
    (hK : After w0 l a.defers (fun a' w' => (∀ xs, st.opds o.op.operands.toList = some xs → foot st o.op xs = []) → Good w0 w' l st a') K Q r) : o.wpIn Fe 0 P a w K Q := by
  unfold stepRun at he
  obtain ⟨xs, hx, he⟩ := bnd_eq he
  obtain ⟨os, hos, he⟩ := bnd_eq he
  split at he
  · rename_i hh
    obtain ⟨X', hex, he⟩ := bnd_eq he
    cases he
    obtain ⟨st', h1, h2⟩ := hint_done (P := P) (Γ := Γ) (F := foot st o.op xs) h hd hx hex
    refine OpDone.wp (fun c hc => ?_) h2 K Q (by rw [h1] at hK; exact hK)
    rw [hc] at hex; cases hex
  split at he
  · rename_i hq
    obtain ⟨x, hex, he⟩ := bnd_eq he
    cases he
    exact OpDone.wp (nd_of_exec hex) (quiet_done h hq hd hx hos hex) K Q hK
  · rename_i hq
    obtain ⟨X', hex, he⟩ := bnd_eq he
    cases he
    have nofoot : ∀ {st' : St}, X'.run st o [] = .go st' → foot st o.op xs = [] → After w0 l a.defers (fun a' w' => (∀ xs, st.opds o.op.operands.toList = some xs → foot st o.op xs = []) → Good w0 w' l st a') K Q (X'.run st o (foot st o.op xs)) → ∀ a' w' l', Good w0 w' l' st' a' → l'.rd = l.rd → l'.be = l.be → a'.defers = a.defers → K a' w' := by
      intro st' h1 h2 h3
      rw [h2, h1] at h3
      exact h3
    cases hop : o.op with
    | assign y =>
      rw [hop] at hex
      obtain ⟨st', h1, h2⟩ := assign_done (P := P) h hop hd hx hex
      exact OpDone.wp (by rw [hop]; intro c hc'; cases hc') h2 K Q (nofoot h1 (by rw [hop]; rfl) hK)
    | alloc t =>
      rw [hop] at hex
      obtain ⟨st', h1, h2⟩ := alloc_done (P := P) h hop hd hex
      exact OpDone.wp (by rw [hop]; intro c hc'; cases hc') h2 K Q (nofoot h1 (by rw [hop]; rfl) hK)
    | box t y =>
      rw [hop] at hex
      obtain ⟨st', h1, h2⟩ := box_done (P := P) h hop hd hx hex
      exact OpDone.wp (by rw [hop]; intro c hc'; cases hc') h2 K Q (nofoot h1 (by rw [hop]; rfl) hK)
    | store t y z =>
      rw [hop] at hex
      obtain ⟨st', h1, h2⟩ := store_done (P := P) h hop hd hx hos hex
      exact OpDone.wp (by rw [hop]; intro c hc'; cases hc') h2 K Q (by rw [h1] at hK; exact hK)
    | panic y =>
      rw [hop] at hex
      have hv := opds_sound h.2 hx
      rw [hop] at hv
      simp only [Op.operands, List.map_cons, List.map_nil] at hv
      simp only [execF] at hex
      unfold fPanic at hex
      split at hex
      · rename_i t _ _
        cases hex
        obtain ⟨v, e, h1⟩ := RVs_one hv
        simp only [RV, RVs] at h1
        obtain ⟨u, rfl, vs, rfl, rfl⟩ := h1
        simp only [List.cons.injEq, and_true] at e
        have hk : Q (.panic (pchain (.iface t (.agg #[])))) a w := hK a w (Framed.of_MR h.1) (fun D hD => (h.1.fzs.d D hD).2.2.2) rfl (fun _ => h)
        refine FW.op (by rw [hop]; intro c hc'; cases hc') ?_
        have hrun : (execOp a.eval o).run P w = .halt (.panic (.iface t (.agg #[]))) w := by
          simp [execOp, hop, e, Instr.panic, goPanic, Sem.run]
        rw [hrun]
        exact hk
      · cases hex
    | call c =>
      rw [hop] at hex
      simp only [execF] at hex
      split at hex
      · rename_i hc
        split at hex
        · obtain ⟨st', h1, h2⟩ := copy_done (P := P) (F := foot st o.op xs) h hop hc hd hx hex
          exact OpDone.wp (by rw [hop]; intro c hc'; cases hc') h2 K Q (by rw [h1] at hK; exact hK)
        split at hex
        · obtain ⟨st', h1, h2⟩ := grow_done (P := P) (F := foot st o.op xs) h hop hc hd hx hex
          exact OpDone.wp (by rw [hop]; intro c hc'; cases hc') h2 K Q (by rw [h1] at hK; exact hK)
        obtain ⟨st', h1, h2⟩ := append_done (P := P) h hop hc hd hx hex
        exact OpDone.wp (by rw [hop]; intro c hc'; cases hc') h2 K Q (nofoot h1 (by rw [hop]; simp [foot, hc]) hK)
      · rename_i fo hc
        refine call_wp hS h hop hc hd hx hos (by rw [hop]; exact hex) K Q ?_
        cases hr : X'.run st o (foot st o.op xs) with
        | go s1 => rw [hr] at hK; exact hK
        | pan v =>
          rw [hr] at hK
          intro a' w' q1 q2 q3 q4
          exact hK a' w' q1 q2 q3 (fun hall => q4 (hall xs hx))
      · cases hex
    | _ => rw [hop] at hex; cases hex

theorem stepOp_wp [FW Fe] {Γ : Gam} {ops : Array Oper} {i : Nat} {o : Oper} {a : Act} {r : Res} (hS : Sound P Γ) (h : Good w0 w l st a) (ho : ops[i]? = some o) (he : stepOp P Γ ops.toList st o = some r) (K : Act → World → Prop) (Q : Exit → Act → World → Prop)
    (hK : After w0 l a.defers (fun a' w' => (∀ xs, st.opds o.op.operands.toList = some xs → foot st o.op xs = []) → Good w0 w' l st a') K Q r) : wpOpIn Fe 0 P ops Q i K a w := by
  unfold wpOpIn
  simp only [ho]
  unfold stepOp at he
  split at he
  case isFalse => cases he
  rename_i hd
  split at he
  · rename_i hg
    simp only [Region.wanted, hg, if_true]
    exact stepRun_wp hS h hd he K Q hK
  · rename_i j wt hg
    obtain ⟨x, hx, he1⟩ := bnd_eq he
    obtain ⟨b, hb, he2⟩ := bnd_eq he1
    clear he he1
    have hy : yielded ops a.tmps j = b := by
      unfold guardOf at hx
      split at hx
      · rename_i o2 ho2
        split at hx
        · rename_i d hd2
          obtain ⟨h1, h2⟩ := h.2.2 d x hx
          unfold bit at hb
          split at hb
          · cases hb
            simp only [RV] at h2
            have ho3 : ops[j]? = some o2 := by rw [← Array.getElem?_toList]; exact ho2
            have hsz : d < a.tmps.size := by rw [h.2.1]; exact h1
            rename_i vv
            have : a.tmps[d]? = some vv := by
              rw [Array.getElem?_eq_getElem hsz]
              simpa [Array.getD_eq_getD_getElem?, hsz] using h2
            simp only [yielded, ho3, Option.bind_some, hd2, this]
            cases vv <;> rfl
          · cases hb
        · cases hx
      · cases hx
    simp only [Region.wanted, hg, hy]
    unfold guarded at he2
    split at he2
    · rename_i hbw
      subst hbw
      simp only [beq_self_eq_true, if_true]
      exact stepRun_wp hS h hd he2 K Q hK
    · rename_i hbw
      cases he2
      have : (b == some wt) = false := by simpa using hbw
      simp only [this, Bool.false_eq_true, if_false]
      exact ⟨fun f _ => FW.fn Fe f, hK _ _ l (h.put hd (by simp [RV, undef])) rfl rfl (by cases o.dst <;> rfl)⟩

/-- The marks of this frame's loops over functions, as they stand among its deferred calls. -/
def mks (d : List Nat) : List Deferred := d.map fun D => { target := .collected D, args := #[] }
/-- What is asked behind a piece of code. -/
def PostE (w0 : World) (rd : Rd) (be : List Nat) (df : List Deferred) (Q : Exit → Act → World → Prop) : Ex → St → Prop
  | .pan v, _ => ∀ a w d, Framed w0 w be → (∀ D, D ∈ d → w0.heap.size ≤ D ∧ w.heap[D]? = some (.deferred (some []))) → d.Nodup → a.defers = mks d ++ df → Q (.panic (pchain v)) a w
  | .normal, st => ∀ a w l d, Good w0 w l st a → l.rd = { rd with d := d } → l.be = be → a.defers = mks d ++ df → Q .normal a w
  | .exit id, st => ∀ a w l d, Good w0 w l st a → l.rd = { rd with d := d } → l.be = be → a.defers = mks d ++ df → Q (.exit id) a w
  | .ret, st => ∀ a w l d, Good w0 w l st a → l.rd = { rd with d := d } → l.be = be → a.defers = mks d ++ df → Q .ret a w

theorem runOps_wp [FW Fe] {Γ : Gam} {ops : Array Oper} (hS : Sound P Γ) {Q : Exit → Act → World → Prop} {rd : Rd} {be : List Nat} {df : List Deferred} {dl : List Nat} : ∀ (rest : List Oper) (k : Nat) (st : St) (w : World) (l : Lay) (a : Act) (e : Ex) (st' : St),
    (∀ j, rest[j]? = ops[k + j]?) → runOps P Γ ops.toList rest st = some (e, st') → Good w0 w l st a → l.rd = { rd with d := dl } → l.be = be → a.defers = mks dl ++ df → PostE w0 rd be df Q e st' →
    wpOpsIn Fe 0 P ops Q (List.range' k rest.length) a w
  | [], k, st, w, l, a, e, st', _, h, hg, h1, h2, h3, hP => by
    simp only [runOps, Option.some.injEq, Prod.mk.injEq] at h
    obtain ⟨rfl, rfl⟩ := h
    simp only [List.length_nil, List.range'_zero, wpOpsIn]
    exact hP a w l dl hg h1 h2 h3
  | o :: rest, k, st, w, l, a, e, st', hi, h, hg, h1, h2, h3, hP => by
    simp only [runOps] at h
    obtain ⟨r, hr, h⟩ := bnd_eq h
    have ho : ops[k]? = some o := by have := hi 0; simp at this; exact this.symm
    simp only [List.length_cons, List.range'_succ]
    rw [wpOpsIn_cons]
    refine stepOp_wp hS hg ho hr _ Q ?_
    cases r with
    | go st1 =>
      simp only [Res.next] at h
      intro a' w' l' g1 g2 g3 g4
      exact runOps_wp hS rest (k + 1) st1 w' l' a' e st' (fun j => by have := hi (j + 1); simp at this; rw [this]; congr 1; omega) h g1 (g2.trans h1) (g3.trans h2) (g4.trans h3) hP
    | pan v =>
      simp only [Res.next, Option.some.injEq, Prod.mk.injEq] at h
      obtain ⟨rfl, rfl⟩ := h
      intro a' w' hF hD hdf _
      have e : l.rd.d = dl := by rw [h1]
      exact hP a' w' dl (h2 ▸ hF) (fun D hd => ⟨(hg.1.fzs.d D (by rw [e]; exact hd)).1, hD D (by rw [e]; exact hd)⟩) (by rw [← e]; exact hg.1.fzs.nd) (hdf.trans h3)

theorem region_wp [FW Fe] {Γ : Gam} {id : Nat} {ops : Array Oper} (hS : Sound P Γ) {Q : Exit → Act → World → Prop} {a : Act} {e : Ex} {st' : St} {df : List Deferred} (hg : Good w0 w l st a) (hdf : a.defers = mks l.rd.d ++ df) (h : runOps P Γ ops.toList ops.toList st = some (e, st'))
    (hP : PostE w0 l.rd l.be df Q e st') : (Code.region id ops false).wpIn Fe 0 P Q a w := by
  refine wpIn_region ?_
  rw [List.range_eq_range']
  have := runOps_wp (Fe := Fe) (ops := ops) hS (Q := Q) ops.toList 0 st w l a e st' (fun j => by simp) h hg rfl rfl hdf hP
  simpa using this
end Go.Ev
end

section
set_option linter.all false
set_option linter.unusedVariables false
set_option linter.unusedSimpArgs false
namespace Go.Ev
variable {w0 w : World} {l : Lay} {st : St} {P : Program}

/-! ### A state of which less is told -/
def smOk (T : Nat → Bool) : Own → Bool
  | .grw k _ => T (XK k)
  | _ => true
mutual
/-- All names in a value are among these. -/
def AV.okIn (R : Ref → Bool) (T : Nat → Bool) : AV → Bool
  | .sl _ _ _ o _ _ => match o with | .tok k => T k | _ => true
  | .sm r _ o => R r && smOk T o
  | .ptr r _ => R r
  | .fn _ cap => okInL R T cap
  | .ifc _ x => x.okIn R T
  | .agg cs => okInL R T cs
  | .tup xs => okInL R T xs
  | .yl _ _ rs => rs.all R
  | _ => true
def okInL (R : Ref → Bool) (T : Nat → Bool) : List AV → Bool
  | [] => true
  | x :: r => x.okIn R T && okInL R T r
end

mutual
theorem RV.okIn {c c' : Cx} {R : Ref → Bool} {T : Nat → Bool} (him : ∀ f b o, c.im f b o → c'.im f b o) (hr : ∀ r b, R r = true → c.rb r = some b → c'.rb r = some b) (ht : ∀ k n a cap, T k = true → c.tc k n a cap → c'.tc k n a cap) (hz : ∀ b L, c.fz b → w.heap[b]? = some (.loop L) → c'.fz b) (hx : ∀ k z cap, T (XK k) = true → R (.own k) = true → c.xc k z cap → c'.xc k z cap) :
    ∀ (x : AV) (v : Value), x.okIn R T = true → RV w c x v → RV w c' x v
  | .s x, v, _, hv => by simpa [RV] using hv
  | .sl f g k o n cs, v, hok, hv => by
    simp only [RV] at hv ⊢
    obtain ⟨a, cap, h1, h2, h3, h4⟩ := hv
    refine ⟨a, cap, h1, h2, ?_, ?_⟩
    · cases a with
      | none => exact h3
      | some ad => exact ⟨h3.1, h3.2.1, RDs.mono (him _) (fun _ _ _ => rfl) (him _) (fun _ _ _ => rfl) _ _ _ h3.2.2⟩
    · cases o with
      | no => trivial
      | full => exact h4
      | tok key => exact ht _ _ _ _ hok h4
      | grw _ _ => exact h4.elim
  | .sm r n o, v, hok, hv => by
    simp only [AV.okIn, Bool.and_eq_true] at hok
    simp only [RV] at hv ⊢
    obtain ⟨a, cap, h1, h2, h3, h4⟩ := hv
    refine ⟨a, cap, h1, h2, h3.imp (fun ⟨b, x, y⟩ => ⟨b, hr _ _ hok.1 x, y⟩) id, ?_⟩
    cases o with
    | no => trivial
    | full => exact h4.elim
    | tok _ => exact h4.elim
    | grw k z => exact ⟨h4.1, hx k z cap hok.2 (by rw [← h4.1]; exact hok.1) h4.2⟩
  | .ptr r off, v, hok, hv => by simp only [RV] at hv ⊢; obtain ⟨b, h1, h2⟩ := hv; exact ⟨b, hr _ _ hok h1, h2⟩
  | .pv f g cs, v, _, hv => by simp only [RV] at hv ⊢; obtain ⟨b, o, h1, h2⟩ := hv; exact ⟨b, o, h1, RDs.mono (him _) (fun _ _ _ => rfl) (him _) (fun _ _ _ => rfl) _ _ _ h2⟩
  | .fn f cap, v, hok, hv => by simp only [RV] at hv ⊢; obtain ⟨vs, h1, h2⟩ := hv; exact ⟨vs, h1, RVs.okIn him hr ht hz hx cap vs hok h2⟩
  | .ifc t x, v, hok, hv => by simp only [RV] at hv ⊢; obtain ⟨y, h1, h2⟩ := hv; exact ⟨y, h1, RV.okIn him hr ht hz hx x y hok h2⟩
  | .agg cs, v, hok, hv => by simp only [RV] at hv ⊢; obtain ⟨vs, h1, h2⟩ := hv; exact ⟨vs, h1, RVs.okIn him hr ht hz hx cs vs hok h2⟩
  | .tup xs, v, hok, hv => by simp only [RV] at hv ⊢; obtain ⟨vs, h1, h2⟩ := hv; exact ⟨vs, h1, RVs.okIn him hr ht hz hx xs vs hok h2⟩
  | .junk, _, _, _ => by simp [RV]
  | .yl l G rs, v, hok, hv => by
    simp only [RV, AV.okIn, List.all_eq_true] at hok hv ⊢
    exact ⟨hv.1, hz _ _ hv.2.fz hv.2.lp, hv.2.lp, fun b o hb => ⟨him _ _ _ (hv.2.rd b o hb).1, (hv.2.rd b o hb).2⟩, hv.2.rs.imp fun r hr2 b => hr r b (hok r hr2)⟩
theorem RVs.okIn {c c' : Cx} {R : Ref → Bool} {T : Nat → Bool} (him : ∀ f b o, c.im f b o → c'.im f b o) (hr : ∀ r b, R r = true → c.rb r = some b → c'.rb r = some b) (ht : ∀ k n a cap, T k = true → c.tc k n a cap → c'.tc k n a cap) (hz : ∀ b L, c.fz b → w.heap[b]? = some (.loop L) → c'.fz b) (hx : ∀ k z cap, T (XK k) = true → R (.own k) = true → c.xc k z cap → c'.xc k z cap) :
    ∀ (xs : List AV) (vs : List Value), okInL R T xs = true → RVs w c xs vs → RVs w c' xs vs
  | [], vs, _, hv => by simpa [RVs] using hv
  | x :: xs, vs, hok, hv => by
    simp only [okInL, Bool.and_eq_true] at hok
    simp only [RVs] at hv ⊢
    obtain ⟨v, r, h1, h2, h3⟩ := hv
    exact ⟨v, r, h1, RV.okIn him hr ht hz hx x v hok.1 h2, RVs.okIn him hr ht hz hx xs r hok.2 h3⟩
end

mutual
/-- x tells no more than y; V: the tokens that are new, and how long they are. -/
inductive AVle (V : Nat → Option Nat) : AV → AV → Prop
  | same (x : AV) : AVle V x x
  | junk (y : AV) : AVle V .junk y
  | sl {f g f' g' : Bool} {k k' : Knd} {o o' : Own} {n : Nat} {cs : List D} (hf : f' = true → f = true) (hg : g' = true → g = true) (hk : k' = k ∨ k' = .U ∨ (k' = .Z ∧ n ≠ 0)) (ho : o' = o ∨ o' = .no ∨ ∃ d, o = .full ∧ o' = .tok d ∧ V d = some n) : AVle V (.sl f' g' k' o' n cs) (.sl f g k o n cs)
  | sm {r : Ref} {n : Nat} {o o' : Own} (ho : o' = o ∨ o' = .no) : AVle V (.sm r n o') (.sm r n o)
  | agg {xs ys : List AV} (h : AVles V xs ys) : AVle V (.agg xs) (.agg ys)
  | tup {xs ys : List AV} (h : AVles V xs ys) : AVle V (.tup xs) (.tup ys)
  | ifc {t : TypeId} {x y : AV} (h : AVle V x y) : AVle V (.ifc t x) (.ifc t y)
inductive AVles (V : Nat → Option Nat) : List AV → List AV → Prop
  | nil : AVles V [] []
  | cons {x y : AV} {xs ys : List AV} (h : AVle V x y) (t : AVles V xs ys) : AVles V (x :: xs) (y :: ys)
end

section
variable {V : Nat → Option Nat}
mutual
theorem AVle.sound {c c' : Cx} {R : Ref → Bool} {T : Nat → Bool} (him : ∀ f b o, c.im f b o → c'.im f b o) (hi : ∀ f b o, c'.im f b o → c'.im false b o) (hr : ∀ r b, R r = true → c.rb r = some b → c'.rb r = some b)
    (ht : ∀ k n a cap, T k = true → c.tc k n a cap → c'.tc k n a cap) (hV : ∀ d n a, V d = some n → c'.tc d n a n) (hz : ∀ b L, c.fz b → w.heap[b]? = some (.loop L) → c'.fz b) (hx : ∀ k z cap, T (XK k) = true → R (.own k) = true → c.xc k z cap → c'.xc k z cap) : ∀ {x y : AV}, AVle V x y → ∀ {v : Value}, x.okIn R T = true → RV w c y v → RV w c' x v
  | _, _, .same x, v, hok, hv => RV.okIn him hr ht hz hx x v hok hv
  | _, _, .junk _, v, _, hv => by simp [RV]
  | .sl f' g' k' o' n cs, .sl f g k o _ _, .sl hf hg hk ho, v, hok, hv => by
    simp only [RV] at hv ⊢
    obtain ⟨a, cap, h1, h2, h3, h4⟩ := hv
    have e : ∀ (x y : Bool), (y = true → x = true) → ∀ b o, c.im x b o → c'.im y b o := fun x y hxy b o h => by
      have h := him x b o h
      cases y with
      | false => exact hi x b o h
      | true => rw [hxy rfl] at h; exact h
    refine ⟨a, cap, h1, h2, ?_, ?_⟩
    · cases a with
      | none => exact ⟨h3.1, h3.2.1, h3.2.2.1, by rcases hk with rfl | rfl | ⟨rfl, _⟩; exact h3.2.2.2; simp; simp⟩
      | some ad => exact ⟨h3.1, by rcases hk with rfl | rfl | ⟨rfl, hn⟩; exact h3.2.1; simp; exact fun _ => hn, RDs.mono (e _ _ hf) (fun _ _ _ => rfl) (e _ _ hg) (fun _ _ _ => rfl) _ _ _ h3.2.2⟩
    · rcases ho with rfl | rfl | ⟨d, rfl, rfl, hd⟩
      · cases o' with
        | no => trivial
        | full => exact h4
        | tok key => exact ht _ _ _ _ hok h4
        | grw _ _ => exact h4.elim
      · trivial
      · have : cap = n := h4
        subst this
        exact hV d _ a hd
  | .sm r n o', .sm _ _ o, .sm ho, v, hok, hv => by
    simp only [AV.okIn, Bool.and_eq_true] at hok
    simp only [RV] at hv ⊢
    obtain ⟨a, cap, h1, h2, h3, h4⟩ := hv
    refine ⟨a, cap, h1, h2, h3.imp (fun ⟨b, x, y⟩ => ⟨b, hr _ _ hok.1 x, y⟩) id, ?_⟩
    rcases ho with rfl | rfl
    · cases o' with
      | no => trivial
      | full => exact h4.elim
      | tok _ => exact h4.elim
      | grw k z => exact ⟨h4.1, hx k z cap hok.2 (by rw [← h4.1]; exact hok.1) h4.2⟩
    · trivial
  | _, _, .agg h, v, hok, hv => by
    simp only [RV] at hv ⊢
    obtain ⟨vs, h1, h2⟩ := hv
    exact ⟨vs, h1, h.sound him hi hr ht hV hz hx hok h2⟩
  | _, _, .tup h, v, hok, hv => by
    simp only [RV] at hv ⊢
    obtain ⟨vs, h1, h2⟩ := hv
    exact ⟨vs, h1, h.sound him hi hr ht hV hz hx hok h2⟩
  | _, _, .ifc h, v, hok, hv => by
    simp only [RV] at hv ⊢
    obtain ⟨y, h1, h2⟩ := hv
    exact ⟨y, h1, h.sound him hi hr ht hV hz hx hok h2⟩
theorem AVles.sound {c c' : Cx} {R : Ref → Bool} {T : Nat → Bool} (him : ∀ f b o, c.im f b o → c'.im f b o) (hi : ∀ f b o, c'.im f b o → c'.im false b o) (hr : ∀ r b, R r = true → c.rb r = some b → c'.rb r = some b)
    (ht : ∀ k n a cap, T k = true → c.tc k n a cap → c'.tc k n a cap) (hV : ∀ d n a, V d = some n → c'.tc d n a n) (hz : ∀ b L, c.fz b → w.heap[b]? = some (.loop L) → c'.fz b) (hx : ∀ k z cap, T (XK k) = true → R (.own k) = true → c.xc k z cap → c'.xc k z cap) : ∀ {xs ys : List AV}, AVles V xs ys → ∀ {vs : List Value}, okInL R T xs = true → RVs w c ys vs → RVs w c' xs vs
  | _, _, .nil, vs, _, hv => hv
  | _, _, .cons h t, vs, hok, hv => by
    simp only [okInL, Bool.and_eq_true] at hok
    simp only [RVs] at hv ⊢
    obtain ⟨v, r, h1, h2, h3⟩ := hv
    exact ⟨v, r, h1, h.sound him hi hr ht hV hz hx hok.1 h2, t.sound him hi hr ht hV hz hx hok.2 h3⟩
end
theorem AVles.length : ∀ {xs ys : List AV}, AVles V xs ys → xs.length = ys.length
  | _, _, .nil => rfl
  | _, _, .cons h t => by simp [t.length]
theorem AVles.get : ∀ {xs ys : List AV}, AVles V xs ys → ∀ {i : Nat} {x : AV}, xs[i]? = some x → ∃ y, ys[i]? = some y ∧ AVle V x y
  | _, _, .nil, i, x, h => by simp at h
  | _, _, .cons h t, i, x, hx => by
    cases i with
    | zero => simp at hx; subst hx; exact ⟨_, by simp, h⟩
    | succ i => simpa using t.get (by simpa using hx)
theorem AVles.rfl' : ∀ (xs : List AV), AVles V xs xs
  | [] => .nil
  | x :: xs => .cons (.same x) (AVles.rfl' xs)

@[simp] theorem AVle_same (x : AV) : AVle V x x ↔ True := ⟨fun _ => trivial, fun _ => .same x⟩
@[simp] theorem AVle_junk (x : AV) : AVle V .junk x ↔ True := ⟨fun _ => trivial, fun _ => .junk x⟩
@[simp] theorem AVles_nil : AVles V [] [] ↔ True := ⟨fun _ => trivial, fun _ => .nil⟩
@[simp] theorem AVles_same (xs : List AV) : AVles V xs xs ↔ True := ⟨fun _ => trivial, fun _ => .rfl' xs⟩
@[simp] theorem AVles_cons (x y : AV) (xs ys : List AV) : AVles V (x :: xs) (y :: ys) ↔ AVle V x y ∧ AVles V xs ys := ⟨fun h => by cases h; exact ⟨‹_›, ‹_›⟩, fun h => .cons h.1 h.2⟩
@[simp] theorem AVle_sm {r r' : Ref} {n n' : Nat} {o o' : Own} : AVle V (.sm r' n' o') (.sm r n o) ↔ (o' = o ∨ o' = .no) ∧ r' = r ∧ n' = n :=
  ⟨fun h => by
    cases h with
    | same => simp
    | sm ho => exact ⟨ho, rfl, rfl⟩, fun ⟨h1, h2, h3⟩ => by subst h2 h3; exact .sm h1⟩
@[simp] theorem AVle_agg (xs ys : List AV) : AVle V (.agg xs) (.agg ys) ↔ AVles V xs ys := ⟨fun h => by cases h; exact .rfl' _; assumption, .agg⟩
@[simp] theorem AVle_tup (xs ys : List AV) : AVle V (.tup xs) (.tup ys) ↔ AVles V xs ys := ⟨fun h => by cases h; exact .rfl' _; assumption, .tup⟩
@[simp] theorem AVle_s (x y : Value) : AVle V (.s x) (.s y) ↔ x = y := ⟨fun h => by cases h; rfl, fun h => by rw [h]; exact .same _⟩
@[simp] theorem AVle_sl {f g f' g' : Bool} {k k' : Knd} {o o' : Own} {n n' : Nat} {cs cs' : List D} : AVle V (.sl f' g' k' o' n' cs') (.sl f g k o n cs) ↔ (f' = true → f = true) ∧ (g' = true → g = true) ∧ (k' = k ∨ k' = .U ∨ (k' = .Z ∧ n ≠ 0)) ∧ (o' = o ∨ o' = .no ∨ ∃ d, o = .full ∧ o' = .tok d ∧ V d = some n) ∧ n' = n ∧ cs' = cs :=
  ⟨fun h => by
    cases h with
    | same => simp
    | sl hf hg hk ho => exact ⟨hf, hg, hk, ho, rfl, rfl⟩, fun ⟨h1, h2, h3, h4, h5, h6⟩ => by subst h5 h6; exact .sl h1 h2 h3 h4⟩
end

/-- Tokens that are new. -/
def vt (t' t : Nat → Option (Nat × Nat)) (k : Nat) : Option Nat := if (t k).isSome then none else (t' k).map (·.1)

structure St.le (st' st : St) : Prop where
  nt : st'.nt = st.nt
  env : ∀ d x, st'.env d = some x → ∃ y, st.env d = some y ∧ AVle (vt st'.tok st.tok) x y
  own : ∀ k cs, st'.own k = some cs → ∃ cs', st.own k = some cs' ∧ AVles (vt st'.tok st.tok) cs cs'
  ext : st'.ext.length = st.ext.length ∧ ∀ (i : Nat) (cs : List AV), st'.ext[i]? = some cs → ∃ cs', st.ext[i]? = some cs' ∧ AVles (vt st'.tok st.tok) cs cs'
  tok : ∀ k p, st'.tok k = some p → st.tok k = some p ∨ st.tok k = none
  okE : ∀ d x, st'.env d = some x → x.okIn (fun r => (st'.mem r).isSome) (fun k => (st'.tok k).isSome) = true
  okO : ∀ k cs, st'.own k = some cs → okInL (fun r => (st'.mem r).isSome) (fun k => (st'.tok k).isSome) cs = true
  okX : ∀ cs ∈ st'.ext, okInL (fun r => (st'.mem r).isSome) (fun k => (st'.tok k).isSome) cs = true

theorem okInL_get {R : Ref → Bool} {T : Nat → Bool} : ∀ {xs : List AV}, okInL R T xs = true → ∀ x ∈ xs, x.okIn R T = true
  | [], _, x, hx => by simp at hx
  | y :: ys, h, x, hx => by
    simp only [okInL, Bool.and_eq_true] at h
    rcases List.mem_cons.1 hx with rfl | hx
    · exact h.1
    · exact okInL_get h.2 x hx

theorem Good.le {st' : St} {a : Act} (hle : St.le st' st) (h : Good w0 w l st a) : ∃ l', Good w0 w l' st' a ∧ l'.rd = l.rd ∧ l'.be = l.be := by
  classical
  obtain ⟨hm, he⟩ := h
  let l' : Lay := { l with
    rb := fun r => if (st'.mem r).isSome then l.rb r else none
    ow := fun b => if l.ow b = .obj ∧ ¬ (∃ k, (st'.own k).isSome = true ∧ l.rb (.own k) = some b) then .free else l.ow b
    bt := fun k => if (st'.tok k).isSome then l.bt k else none
    xt := fun k => if (st'.tok (XK k)).isSome = true ∧ (st'.own k).isSome = true then l.xt k else none }
  have hmem : ∀ r cs, st'.mem r = some cs → ∃ cs', st.mem r = some cs' ∧ AVles (vt st'.tok st.tok) cs cs' := fun r cs h => by
    cases r with
    | own k => exact hle.own k cs h
    | ext i => exact hle.ext.2 i cs h
  have hrb : ∀ r b, (st'.mem r).isSome = true → l.rb r = some b → l'.rb r = some b := fun r b h1 h2 => by simp [l', h1, h2]
  have hrb' : ∀ r b, l'.rb r = some b → l.rb r = some b ∧ (st'.mem r).isSome = true := fun r b h => by
    simp only [l'] at h
    split at h
    · rename_i h1; exact ⟨h, h1⟩
    · cases h
  have him : ∀ f b o, (cx w0 w l st.tok).im f b o → (cx w0 w l' st'.tok).im f b o := fun f b o h => by
    rcases h with ⟨h1, h2, h3⟩ | h
    · refine .inl ⟨h1, h2, ?_⟩
      simp only [l']
      split
      · trivial
      · exact h3
    · exact .inr h
  have htc : ∀ k n a cap, (st'.tok k).isSome = true → (cx w0 w l st.tok).tc k n a cap → (cx w0 w l' st'.tok).tc k n a cap := fun k n a cap h1 h2 => by
    obtain ⟨n', z, h3, h4, h5⟩ := h2
    obtain ⟨p, hp⟩ := Option.isSome_iff_exists.1 h1
    have := (hle.tok k p hp).resolve_right (by rw [h3]; simp)
    rw [this] at h3
    cases h3
    exact ⟨n', z, hp, h4, fun e => by have := h5 e; simp only [l', h1, if_true]; exact this⟩
  have hxc : ∀ k z cap, (st'.tok (XK k)).isSome = true → (st'.mem (.own k)).isSome = true → (cx w0 w l st.tok).xc k z cap → (cx w0 w l' st'.tok).xc k z cap := fun k z cap h1 h2 h3 => by
    show (match (if (st'.tok (XK k)).isSome = true ∧ (st'.own k).isSome = true then l.xt k else none) with | some (c, z') => cap = c ∧ z = z' | none => cap = 0)
    rw [if_pos ⟨h1, h2⟩]
    exact h3
  have hV : ∀ d n a, vt st'.tok st.tok d = some n → (cx w0 w l' st'.tok).tc d n a n := fun d n a h => by
    unfold vt at h
    split at h
    · cases h
    · rename_i hn
      obtain ⟨p, hp, rfl⟩ := Option.map_eq_some_iff.1 h
      refine ⟨p.1, p.2, hp, Nat.le_refl _, fun _ => ?_⟩
      have hb : l'.bt d = none := by
        simp only [l']
        split
        · cases hbt : l.bt d with
          | none => rfl
          | some q =>
            obtain ⟨n', z, a1, _⟩ := hm.tokd d q.1 q.2 hbt
            rw [a1] at hn; simp at hn
        · rfl
      rw [hb]
  refine ⟨l', ⟨⟨hm.os, hm.tape, hm.output, hm.size, hm.old, hm.bel, ?_, by rw [hle.ext.1]; exact hm.extn, ?_, ?_, ?_, ?_, ?_, ?_, ?_, ?_, hm.rdok, ?_, ?_, hm.fzs.step (Nat.le_refl _) (fun _ _ => rfl) (fun D _ ho => by simp only [l']; split; rfl; exact ho) rfl rfl, ?_⟩, ?_⟩, rfl, rfl⟩
  · intro i
    simp only [l']
    split
    · exact hm.ext i
    · rename_i h
      have : st'.mem (.ext i) = none := by simpa using h
      simp only [St.mem] at this
      have h2 := List.getElem?_eq_none_iff.1 this
      rw [hle.ext.1] at h2
      rw [eq_comm, List.getElem?_eq_none_iff, ← hm.extn]
      exact h2
  · intro r r' b h1 h2; exact hm.inj _ _ _ (hrb' r b h1).1 (hrb' r' b h2).1
  · intro r b h; exact Option.isSome_iff_exists.1 (hrb' r b h).2
  · intro r cs h
    obtain ⟨cs', hcs, hle'⟩ := hmem r cs h
    rcases hm.obj r cs' hcs with ⟨e0, e1⟩ | ⟨b, h1, h2⟩
    · refine .inl ⟨List.length_eq_zero_iff.1 (by rw [hle'.length, e0]; rfl), ?_⟩
      simp only [l']
      split
      · exact e1
      · rfl
    refine .inr ⟨b, hrb r b (by rw [h]; rfl) h1, ?_⟩
    obtain ⟨cv, T, q1, q2, q3⟩ := h2
    refine ⟨cv, T, q1, by rw [hle'.length]; exact q2, fun j x hj => ?_⟩
    obtain ⟨y, hy, hxy⟩ := hle'.get hj
    obtain ⟨v, a1, a2, a3⟩ := q3 j y hy
    have hok : okInL (fun r => (st'.mem r).isSome) (fun k => (st'.tok k).isSome) cs = true := by
      cases r with
      | own k => exact hle.okO k cs h
      | ext i => exact hle.okX cs (List.mem_of_getElem? h)
    exact ⟨v, a1, a2, hxy.sound him (fun f b o => cx_down st'.tok f b o) hrb htc hV (fun _ _ h _ => h) hxc (okInL_get hok x (List.mem_of_getElem? hj)) a3⟩
  · intro r b h; exact hm.rblt r b (hrb' r b h).1
  · intro k b h
    obtain ⟨h1, h2⟩ := hrb' _ b h
    have := hm.rbow k b h1
    refine ⟨this.1, ?_⟩
    simp only [l']
    rw [if_neg (fun hc => hc.2 ⟨k, h2, h1⟩)]
    exact this.2
  · intro b hb
    simp only [l'] at hb
    split at hb
    · cases hb
    · rename_i hc
      have h1 : ∃ k, (st'.own k).isSome = true ∧ l.rb (.own k) = some b := by
        apply Classical.byContradiction
        intro hn; exact hc ⟨hb, hn⟩
      obtain ⟨k, h2, h3⟩ := h1
      exact ⟨k, hrb _ b h2 h3⟩
  · intro b hb
    simp only [l']
    split
    · rfl
    · exact hm.owfree b hb
  · intro b hb
    simp only [l']
    split
    · rfl
    · exact hm.owold b hb
  · intro k b cap hk
    simp only [l'] at hk
    split at hk
    · rename_i h1
      obtain ⟨n, z, a1, a2, a3⟩ := hm.tokd k b cap hk
      obtain ⟨p, hp⟩ := Option.isSome_iff_exists.1 h1
      have := (hle.tok k p hp).resolve_right (by rw [a1]; simp)
      rw [this] at a1
      cases a1
      exact ⟨n, z, hp, by simp only [l']; rw [if_neg (fun hc => by rw [hc.1] at a2; cases a2)]; exact a2, a3⟩
    · cases hk
  · intro k k' b c c' h1 h2
    simp only [l'] at h1 h2
    split at h1 <;> split at h2
    · exact hm.tokinj _ _ _ _ _ h1 h2
    · cases h2
    · cases h1
    · cases h1
  · intro k c z hk
    simp only [l'] at hk
    split at hk
    · rename_i hc
      obtain ⟨a1, b, q1, q2⟩ := hm.xtd k c z hk
      exact ⟨hc.1, b, hrb (.own k) b hc.2 q1, q2⟩
    · cases hk
  · refine ⟨by rw [hle.nt]; exact he.1, fun d x hd => ?_⟩
    obtain ⟨y, h1, h2⟩ := hle.env d x hd
    obtain ⟨h3, h4⟩ := he.2 d y h1
    exact ⟨by rw [hle.nt]; exact h3, h2.sound him (fun f b o => cx_down st'.tok f b o) hrb htc hV (fun _ _ h _ => h) hxc (hle.okE d x hd) h4⟩

end Go.Ev
end
