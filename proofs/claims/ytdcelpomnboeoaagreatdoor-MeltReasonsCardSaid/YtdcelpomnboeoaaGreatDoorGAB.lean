/- Lemmas for the claims of this seat: an evaluator over abstract values, its soundness, and the contracts of the functions of melt that it walks; no premise beyond what each theorem states. -/
import Derived.Laws.MakeOwn
import Derived.Test.YtdcelpomnboeoaaGreatDoorGAA

section
set_option linter.all false
set_option linter.unusedVariables false
set_option linter.unusedSimpArgs false
namespace Go.Ev
variable {w0 w : World} {l : Lay} {st : St} {P : Program}

/-- A meaning that yields what is told, and makes at most a block. -/
def QOk (P : Program) (w0 w : World) (l : Lay) (st : St) (s : Sem Value) (x : AV) : Prop :=
  ∃ v w', s.run P w = .ok v w' ∧ (w' = w ∨ ∃ ob, w' = w.alloc ob) ∧ RV w' (cx w0 w' l st.tok) x v

theorem QOk.same {s : Sem Value} {x : AV} {v : Value} (h : s.run P w = .ok v w) (hv : RV w (cx w0 w l st.tok) x v) : QOk P w0 w l st s x := ⟨v, w, h, .inl rfl, hv⟩

theorem RVs_one {c : Cx} {x : AV} {vs : List Value} (h : RVs w c [x] vs) : ∃ v, vs = [v] ∧ RV w c x v := by
  simp only [RVs] at h
  obtain ⟨v, r, rfl, h1, rfl⟩ := h
  exact ⟨v, rfl, h1⟩
theorem RVs_two {c : Cx} {x y : AV} {vs : List Value} (h : RVs w c [x, y] vs) : ∃ v u, vs = [v, u] ∧ RV w c x v ∧ RV w c y u := by
  simp only [RVs] at h
  obtain ⟨v, r, rfl, h1, u, r', rfl, h2, rfl⟩ := h
  exact ⟨v, u, rfl, h1, h2⟩
theorem RVs_three {c : Cx} {x y z : AV} {vs : List Value} (h : RVs w c [x, y, z] vs) : ∃ v u t, vs = [v, u, t] ∧ RV w c x v ∧ RV w c y u ∧ RV w c z t := by
  simp only [RVs] at h
  obtain ⟨v, r, rfl, h1, u, r', rfl, h2, t, r'', rfl, h3, rfl⟩ := h
  exact ⟨v, u, t, rfl, h1, h2, h3⟩

/-! ### one by one -/
theorem pick_ok {c a b x : AV} {vc va vb : Value} (h : qPick [c, a, b] = some x) (hc : RV w (cx w0 w l st.tok) c vc) (ha : RV w (cx w0 w l st.tok) a va) (hb : RV w (cx w0 w l st.tok) b vb) :
    QOk P w0 w l st (do pure (if ← asBool vc then va else vb)) x := by
  unfold qPick at h
  split at h
  · rename_i t a' b' e
    cases e
    cases h
    simp only [RV] at hc
    subst hc
    refine QOk.same (v := if t then va else vb) (by simp [asBool]) ?_
    cases t <;> assumption
  · cases h

theorem extract_ok {xs : List AV} {i : Nat} {x : AV} {v : Value} (h : qExtract i xs = some x) (hv : RVs w (cx w0 w l st.tok) xs [v]) : QOk P w0 w l st (Instr.extract v i) x := by
  unfold qExtract at h
  split at h
  · rename_i vs
    obtain ⟨u, e, h1⟩ := RVs_one hv
    cases e
    simp only [RV] at h1
    obtain ⟨us, rfl, h2⟩ := h1
    obtain ⟨u, h3, h4⟩ := h2.get i x h
    exact QOk.same (v := u) (by simp [Instr.extract, h3]) h4
  · cases h

theorem load_ok {xs : List AV} {os : List (List AV)} {t : TypeId} {x : AV} {v : Value} (hm : MR w0 w l st) (h : qLoad P t xs os = some x) (hos : st.mems (footP xs) = some os)
    (hv : RVs w (cx w0 w l st.tok) xs [v]) : QOk P w0 w l st (Instr.loadAt t v) x := by
  unfold qLoad at h
  split at h
  · rename_i r off cs
    obtain ⟨u, e, h1⟩ := RVs_one hv
    cases e
    simp only [RV] at h1
    obtain ⟨b, h2, rfl⟩ := h1
    simp only [footP, St.mems] at hos
    obtain ⟨cs', h3, hos⟩ := bnd_eq hos
    simp at hos
    subst hos
    have h2' : l.rb r = some b := h2
    obtain ⟨b', h4, h5⟩ := (hm.obj r _ h3).resolve_left fun x => by rw [h2'] at x; cases x.2
    rw [h2'] at h4
    cases h4
    obtain ⟨v, a1, a2⟩ := load_obj (P := P) h5 h
    exact QOk.same (v := v) (by simp [Instr.loadAt, Instr.sureAddr, a1]) a2
  · rename_i f g cs
    obtain ⟨u, e, h1⟩ := RVs_one hv
    cases e
    simp only [RV] at h1
    obtain ⟨b, o, rfl, h2⟩ := h1
    obtain ⟨v, a1, a2⟩ := load_row (P := P) h2 h
    exact QOk.same (v := v) (by simp [Instr.loadAt, Instr.sureAddr, a1]) a2
  · cases h

theorem fldOff_run {t : TypeId} {i d : Nat} (h : fldOff P t i = some d) (b off : Nat) (w : World) :
    (Instr.fieldAt t (.pointer (some ⟨b, off, none⟩)) i).run P w = .ok (.pointer (some ⟨b, off + d, none⟩)) w := by
  unfold fldOff at h
  split at h
  · rename_i fs hu
    split at h
    · rename_i f hf
      split at h
      · cases h
      · rename_i hz
        cases h
        have hsz : ∃ i, P.info? f.type = some i := by
          cases hi : P.info? f.type with
          | none => exact absurd (by simp [Program.cellsOf, hi]) hz
          | some i => exact ⟨i, rfl⟩
        obtain ⟨i', hi'⟩ := hsz
        simp [Instr.fieldAt, run_underlying hu, hf, Instr.sureAddr, fieldPlace, run_sizeOf' hi', hz, Addr.add_lit]
    · cases h
  · cases h

theorem field_ok {xs : List AV} {i : Nat} {t : TypeId} {x : AV} {v : Value} (h : qField P t i xs = some x) (hv : RVs w (cx w0 w l st.tok) xs [v]) : QOk P w0 w l st (Instr.fieldAt t v i) x := by
  unfold qField at h
  split at h
  · rename_i r off
    obtain ⟨u, e, h1⟩ := RVs_one hv
    cases e
    simp only [Option.map_eq_some_iff] at h
    obtain ⟨d, h2, rfl⟩ := h
    simp only [RV] at h1
    obtain ⟨b, h3, rfl⟩ := h1
    exact QOk.same (fldOff_run h2 b off w) (by simp only [RV]; exact ⟨b, h3, rfl⟩)
  · rename_i f g cs
    obtain ⟨u, e, h1⟩ := RVs_one hv
    cases e
    simp only [Option.map_eq_some_iff] at h
    obtain ⟨d, h2, rfl⟩ := h
    simp only [RV] at h1
    obtain ⟨b, o, rfl, h3⟩ := h1
    exact QOk.same (fldOff_run h2 b o w) (by simp only [RV]; exact ⟨b, _, rfl, h3.drop d⟩)
  · cases h

theorem info_of_cells {e : TypeId} (h : 0 < P.cellsOf e) : ∃ i, P.info? e = some i := by
  cases hi : P.info? e with
  | none => simp [Program.cellsOf, hi] at h
  | some i => exact ⟨i, rfl⟩
theorem run_sizeOf_pos {e : TypeId} (h : 0 < P.cellsOf e) (w : World) : (sizeOf e).run P w = .ok (P.cellsOf e) w := by
  obtain ⟨i, hi⟩ := info_of_cells h
  exact run_sizeOf' hi w

theorem index_ok {xs : List AV} {t : TypeId} {x : AV} {v u : Value} (h : qIndex P t xs = some x) (hv : RVs w (cx w0 w l st.tok) xs [v, u]) : QOk P w0 w l st (Instr.indexAt t v u) x := by
  unfold qIndex at h
  split at h
  · rename_i y k i
    obtain ⟨v', u', e, h1, h2⟩ := RVs_two hv
    cases e
    simp only [RV] at h2
    subst h2
    unfold qIndexAt at h
    split at h
    · rename_i len e r off hu
      split at h
      · rename_i hi
        cases h
        simp only [RV] at h1
        obtain ⟨b, h3, rfl⟩ := h1
        refine QOk.same (v := .pointer (some ⟨b, off + i.toNat * P.cellsOf e, none⟩)) ?_ (by simp only [RV]; exact ⟨b, h3, rfl⟩)
        simp [Instr.indexAt, asIntOf, run_underlying hu, Instr.sureAddr, hi.1, hi.2.1, run_sizeOf_pos hi.2.2, Addr.add_lit]
      · cases h
    · rename_i e f g k o n cs hu
      split at h
      · rename_i hi
        cases h
        simp only [RV, RS] at h1
        obtain ⟨a, cap, rfl, h3, h4, h5⟩ := h1
        cases a with
        | none => obtain ⟨rfl, _⟩ := h4; exact absurd hi.2.1 (by have := hi.1; omega)
        | some ad =>
          obtain ⟨b, o, sp⟩ := ad
          obtain ⟨hs, _, h6⟩ := h4
          simp only at hs h6
          replace hs := hs.resolve_right fun x => by have := hi.1; have := hi.2.1; omega
          subst hs
          refine QOk.same (v := .pointer (some ⟨b, o + i.toNat * P.cellsOf e, none⟩)) ?_ (by simp only [RV]; exact ⟨b, _, rfl, h6.drop _⟩)
          simp [Instr.indexAt, asIntOf, run_underlying hu, Instr.sureAddr, hi.1, hi.2.1, run_sizeOf_pos hi.2.2, Addr.add_lit]
      · cases h
    · rename_i e r n o hu
      split at h
      · rename_i hi
        cases h
        simp only [RV] at h1
        obtain ⟨a, cap, rfl, h4, h5, _⟩ := h1
        obtain ⟨b, h3, rfl⟩ := h5.resolve_right fun x => by have := hi.1; have := hi.2.1; omega
        refine QOk.same (v := .pointer (some ⟨b, 0 + i.toNat * P.cellsOf e, none⟩)) ?_ (by simp only [RV, Nat.zero_add]; exact ⟨b, h3, rfl⟩)
        simp [Instr.indexAt, asIntOf, run_underlying hu, Instr.sureAddr, hi.1, hi.2.1, run_sizeOf_pos hi.2.2, Addr.add_lit]
      · cases h
    · cases h
  · cases h

theorem tdesc_some {o : Option TypeId} {d : TypeDesc} (h : tdesc P o = some d) : ∃ t, o = some t ∧ P.underlying t = some d := by
  cases o with
  | none => cases h
  | some t => exact ⟨t, rfl, h⟩

theorem len_ok {xs : List AV} {ts : Array TypeId} {x : AV} {vs : Array Value} (ty : TypeId) (h : qLen (tdesc P ts[0]?) xs = some x) (hv : RVs w (cx w0 w l st.tok) xs vs.toList) : QOk P w0 w l st (Builtin.len_ ts ty vs) x := by
  unfold qLen at h
  split at h
  · rename_i y
    obtain ⟨v, e, h1⟩ := RVs_one hv
    have ev : vs[0]? = some v := by rw [← Array.getElem?_toList, e]; rfl
    unfold qLenOf at h
    split at h
    · rename_i e f g k o n cs hd
      obtain ⟨t, ht, hu⟩ := tdesc_some hd
      cases h
      simp only [RV, RS] at h1
      obtain ⟨a, cap, rfl, _⟩ := h1
      exact QOk.same (v := .int .i64 n) (by simp [Builtin.len_, ht, ev, run_underlying hu, goInt]) (by simp [RV])
    · rename_i e r n o hd
      obtain ⟨t, ht, hu⟩ := tdesc_some hd
      cases h
      simp only [RV] at h1
      obtain ⟨a, cap, rfl, _⟩ := h1
      exact QOk.same (v := .int .i64 n) (by simp [Builtin.len_, ht, ev, run_underlying hu, goInt]) (by simp [RV])
    · rename_i s hd
      obtain ⟨t, ht, hu⟩ := tdesc_some hd
      cases h
      simp only [RV] at h1
      subst h1
      exact QOk.same (v := .int .i64 s.size) (by simp [Builtin.len_, ht, ev, run_underlying hu, goInt]) (by simp [RV])
    · cases h
  · cases h

theorem nilCheck_ok {xs : List AV} {x : AV} {v : Value} (h : qNilCheck xs = some x) (hv : RVs w (cx w0 w l st.tok) xs [v]) : RV w (cx w0 w l st.tok) x v ∧ ∃ a, v = .pointer (some a) := by
  unfold qNilCheck at h
  split at h
  · cases h
    obtain ⟨u, e, h1⟩ := RVs_one hv
    cases e
    refine ⟨h1, ?_⟩
    simp only [RV] at h1
    obtain ⟨b, _, rfl⟩ := h1
    exact ⟨_, rfl⟩
  · cases h
    obtain ⟨u, e, h1⟩ := RVs_one hv
    cases e
    refine ⟨h1, ?_⟩
    simp only [RV] at h1
    obtain ⟨b, o, rfl, _⟩ := h1
    exact ⟨_, rfl⟩
  · cases h

theorem equalIn_nil (w : World) (d : Nat) (t e : TypeId) (a : Option Addr) (n c : Nat) (h : P.underlying t = some (.slice e)) :
    (Op.equalIn (d + 1) t (.slice a n c) (.slice none 0 0)).run P w = .ok a.isNone w := by
  cases a <;> simp [Op.equalIn, run_underlying h]

theorem isNil_ok {n : Nat} {k : Knd} {b : Bool} (h : isNil n k = some b) {f g : Bool} {o : Own} {cs : List D} {a : Option Addr} {cap : Nat} (hv : RS w (cx w0 w l st.tok) f g k o n cs (.slice a n cap)) : a.isNone = b := by
  obtain ⟨a', cap', e, _, h3, _⟩ := hv
  cases e
  cases k with
  | Z =>
    simp only [isNil, Option.some.injEq] at h
    subst h
    cases a with
    | none => simp [h3.1]
    | some ad => have := h3.2.1 rfl; simp [this]
  | E =>
    simp only [isNil, Option.some.injEq] at h
    subst h
    cases a with
    | none => exact absurd rfl h3.2.2.2
    | some ad => rfl
  | U => cases h

theorem binP_ok {op : BinOp} {t : TypeId} {xo yo : Operand} {a b x : AV} {va vb : Value} (h : qBinP P op t xo yo a.val? b.val? = some x) (ha : RV w (cx w0 w l st.tok) a va) (hb : RV w (cx w0 w l st.tok) b vb) :
    QOk P w0 w l st (do eqGuard op t xo yo va vb; binOp op t va vb) x := by
  unfold qBinP at h
  split at h
  · rename_i u v hu hv
    obtain ⟨_, h1, h⟩ := bnd_eq h
    obtain ⟨r, h2, h⟩ := bnd_eq h
    cases h
    rw [val?_sound hu ha, val?_sound hv hb]
    exact QOk.same (v := r) (by simp [pureP_run h1, pureP_run h2]) (RV.ofVal r)
  · cases h

theorem eqNil_ok {t : TypeId} {xo yo : Operand} {neg : Bool} {a b x : AV} {va vb : Value} (h : qEqNil P t neg a b = some x) (ha : RV w (cx w0 w l st.tok) a va) (hb : RV w (cx w0 w l st.tok) b vb) :
    QOk P w0 w l st (do eqGuard (if neg then .neq else .eql) t xo yo va vb; binOp (if neg then .neq else .eql) t va vb) x := by
  unfold qEqNil at h
  split at h
  · rename_i f g k o n cs f' g'
    split at h
    · rename_i hsl
      simp only [Option.map_eq_some_iff] at h
      obtain ⟨r, h1, rfl⟩ := h
      simp only [RV] at ha hb
      have ha' := ha
      obtain ⟨a, cap, rfl, _⟩ := ha
      obtain ⟨a', cap', rfl, _, h3, h4⟩ := hb
      have : a' = none := by
        cases a' with
        | none => rfl
        | some ad => exact absurd rfl (h3.2.1 rfl)
      subst this
      obtain ⟨_, rfl, _⟩ := h3
      have hr := isNil_ok h1 ha'
      have hu : ∃ e, P.underlying t = some (.slice e) := by
        unfold isSlice at hsl
        split at hsl
        · rename_i e he; exact ⟨e, he⟩
        · cases hsl
      obtain ⟨e, hu⟩ := hu
      refine QOk.same (v := .bool (r != neg)) ?_ (by simp [RV])
      cases neg
      · simp [eqGuard, binOp, Op.equal, Op.maxDepth, equalIn_nil w 9999 t e a n cap hu, hr]
      · simp [eqGuard, binOp, Op.equal, Op.maxDepth, equalIn_nil w 9999 t e a n cap hu, hr]
    · cases h
  · cases h

theorem bin_ok {op : BinOp} {t : TypeId} {xo yo : Operand} {xs : List AV} {x : AV} {va vb : Value} (h : qBin P op t xo yo xs = some x) (hv : RVs w (cx w0 w l st.tok) xs [va, vb]) :
    QOk P w0 w l st (do eqGuard op t xo yo va vb; binOp op t va vb) x := by
  unfold qBin at h
  split at h
  · rename_i a b
    obtain ⟨v', u', e, ha, hb⟩ := RVs_two hv
    cases e
    split at h
    · unfold orElse' at h
      split at h
      · rename_i y hy; cases h; exact eqNil_ok (neg := false) hy ha hb
      · exact binP_ok h ha hb
    · unfold orElse' at h
      split at h
      · rename_i y hy; cases h; exact eqNil_ok (neg := true) hy ha hb
      · exact binP_ok h ha hb
    · exact binP_ok h ha hb
  · cases h

theorem un_ok {op : UnOp} {xs : List AV} {x : AV} {v : Value} (h : qUn P op xs = some x) (hv : RVs w (cx w0 w l st.tok) xs [v]) : QOk P w0 w l st (Op.unary op v) x := by
  unfold qUn at h
  split at h
  · obtain ⟨u, e, h1⟩ := RVs_one hv
    cases e
    simp only [RV] at h1
    subst h1
    obtain ⟨r, h2, h⟩ := bnd_eq h
    cases h
    exact QOk.same (pureP_run h2 w) (RV.ofVal r)
  · cases h
theorem ta_ok {t a : TypeId} {ok : Bool} {xs : List AV} {x : AV} {v : Value} (h : qTA P t a ok xs = some x) (hv : RVs w (cx w0 w l st.tok) xs [v]) : QOk P w0 w l st (Instr.typeAssert v t a ok) x := by
  unfold qTA at h
  split at h
  · rename_i y
    obtain ⟨u, e, h1⟩ := RVs_one hv
    cases e
    simp only [RV] at h1
    subst h1
    obtain ⟨r, h2, h3⟩ := bnd_eq h
    refine QOk.same (v := r) (pureP_run h2 w) ?_
    unfold taOf at h3
    split at h3
    · rename_i vs
      unfold taL at h3
      split at h3
      · rename_i a b hab
        cases h3
        simp only [RV]
        refine ⟨[a, b], by rw [← hab], ?_⟩
        simp only [RVs]
        exact ⟨a, _, rfl, RV.ofVal a, b, _, rfl, RV.ofVal b, rfl⟩
      · cases h3
    · cases h3
  · cases h
theorem conv_ok {a b : TypeId} {xs : List AV} {x : AV} {v : Value} (h : qConv P a b xs = some x) (hv : RVs w (cx w0 w l st.tok) xs [v]) : QOk P w0 w l st (convert a b v) x := by
  unfold qConv at h
  split at h
  · obtain ⟨u, e, h1⟩ := RVs_one hv
    cases e
    simp only [RV] at h1
    subst h1
    obtain ⟨r, h2, h⟩ := bnd_eq h
    cases h
    exact QOk.same (pureP_run h2 w) (RV.ofVal r)
  · rename_i f g k o n cs
    obtain ⟨u, e, h1⟩ := RVs_one hv
    cases e
    unfold qBytes at h
    split at h
    · rename_i e' z hu1 hu2
      split at h
      · rename_i hb
        cases h
        simp only [RV] at h1
        obtain ⟨ad, cap, rfl, _, h3, _⟩ := h1
        cases ad with
        | none => exact absurd h3.1 (by decide)
        | some ad =>
          obtain ⟨bl, off, sp⟩ := ad
          obtain ⟨h4, _, h5⟩ := h3
          have hsp : sp = none := by
            rcases h4 with h4 | h4
            · exact h4
            · exact absurd h4.1 (by decide)
          subst hsp
          obtain ⟨_, v, q2, _, q3⟩ := h5.get 0 _ rfl
          simp only [RD] at q3
          subst q3
          have hu3 : P.underlying e' = some (.int .u8) := by
            unfold isByte at hb
            split at hb
            · assumption
            · cases hb
          refine QOk.same (v := .string ⟨#[UInt8.ofNat z.toNat]⟩) ?_ (by simp only [RV])
          have q2' : w.cell? (Addr.add ⟨bl, off, none⟩ 0) = some (.int .u8 z) := by
            rw [Addr.add_lit]; exact q2
          have hl : (loadCells ⟨bl, off, none⟩ 1).run P w = .ok #[.int .u8 z] w := by
            simp [loadCells, loadCellsFrom, q2']
          simp [convert, run_underlying hu1, run_underlying hu2, run_underlying hu3, Conv.bytesToString, hl]
          rfl
      · cases h
    · cases h
  · cases h
theorem idx_ok {t : TypeId} {xs : List AV} {x : AV} {v u : Value} (h : qIdx P t xs = some x) (hv : RVs w (cx w0 w l st.tok) xs [v, u]) : QOk P w0 w l st (Instr.index t v u) x := by
  unfold qIdx at h
  split at h
  · obtain ⟨v', u', e, h1, h2⟩ := RVs_two hv
    cases e
    simp only [RV] at h1 h2
    subst h1 h2
    obtain ⟨r, h3, h⟩ := bnd_eq h
    cases h
    exact QOk.same (pureP_run h3 w) (RV.ofVal r)
  · cases h
theorem iface_ok {t : TypeId} {xs : List AV} {x : AV} {v : Value} (h : qIface P t xs = some x) (hv : RVs w (cx w0 w l st.tok) xs [v]) : QOk P w0 w l st (Instr.makeInterface t v) x := by
  unfold qIface at h
  split at h
  · obtain ⟨u, e, h1⟩ := RVs_one hv
    cases e
    split at h
    · rename_i hn
      cases h
      refine QOk.same (v := .iface t v) ?_ (by simp only [RV]; exact ⟨v, rfl, h1⟩)
      cases hu : P.underlying t with
      | none => simp [hu, isIface] at hn
      | some d => cases d <;> first | (simp [Instr.makeInterface, run_underlying hu]; done) | (simp [hu, isIface] at hn)
    · cases h
  · cases h

theorem sliceBound_run (i : Int) (k : IntKind) (y : Nat) (c : BoundsCode) (h0 : 0 ≤ i) (h1 : i ≤ y) (w : World) : (Instr.sliceBound (.int k i) y c).run P w = .ok i.toNat w := by
  simp [Instr.sliceBound, asIntOf, h0, h1]

/-- 'x[l:h]' of a slice. -/
theorem sliceAs_ok {t : TypeId} {f g : Bool} {k : Knd} {o : Own} {n : Nat} {cs : List D} {lo hi : Int} {x : AV} {v : Value} {vl vh : Option Value}
    (h : qSliceAs P lo hi f g n cs (P.underlying t) = some x) (hv : RS w (cx w0 w l st.tok) f g k o n cs v)
    (hl : vl = none ∧ lo = 0 ∨ ∃ q, vl = some (.int q lo)) (hh : vh = none ∧ hi = n ∨ ∃ q, vh = some (.int q hi)) : QOk P w0 w l st (Instr.sliceAt t v vl vh none) x := by
  unfold qSliceAs at h
  split at h
  · rename_i e hu
    split at h
    · rename_i hc
      cases h
      obtain ⟨c1, c2, c3, c4⟩ := hc
      obtain ⟨a, cap, rfl, h2, h3, _⟩ := hv
      have hb : (Instr.sliceBounds true n cap vl vh none).run P w = .ok (lo.toNat, hi.toNat, cap) w := by
        unfold Instr.sliceBounds
        rcases hl with ⟨rfl, rfl⟩ | ⟨q, rfl⟩ <;> rcases hh with ⟨rfl, rfl⟩ | ⟨q', rfl⟩
        · simp
        · simp [sliceBound_run (P := P) hi q' cap .sliceAcap (by omega) (by omega)]
        · simp [sliceBound_run (P := P) lo q n .sliceB (by omega) (by omega)]
        · simp [sliceBound_run (P := P) hi q' cap .sliceAcap (by omega) (by omega), sliceBound_run (P := P) lo q hi.toNat .sliceB (by omega) (by omega)]
      refine ⟨.slice (if cap = lo.toNat then a else a.map (·.add (lo.toNat * P.cellsOf e))) (hi.toNat - lo.toNat) (cap - lo.toNat), w, ?_, .inl rfl, ?_⟩
      · simp [Instr.sliceAt, run_underlying hu, Instr.slice, hb, run_sizeOf_pos c4]
      · simp only [RV, RS]
        have hn : (hi - lo).toNat = hi.toNat - lo.toNat := by omega
        refine ⟨_, _, by rw [hn], by omega, ?_, trivial⟩
        cases a with
        | none =>
          obtain ⟨rfl, rfl, rfl, _⟩ := h3
          have : lo.toNat = 0 := by omega
          simp [this]
          omega
        | some ad =>
          obtain ⟨b, off, sp⟩ := ad
          obtain ⟨hs, _, h6⟩ := h3
          simp only at hs h6
          rcases hs with hs | ⟨rfl, rfl⟩
          rotate_left
          · have : hi.toNat = 0 := by omega
            have : lo.toNat = 0 := by omega
            split
            · rename_i hcl; split at hcl <;> cases hcl
            · refine ⟨.inr (by simp [*]), by simp, by simp [RDs]⟩
          subst hs
          split
          · rename_i hcl; split at hcl <;> cases hcl
          · rename_i ad hcl
            split at hcl
            · rename_i hcap
              cases hcl
              have : (hi - lo).toNat = 0 := by omega
              refine ⟨.inl rfl, by simp, ?_⟩
              simp [this, RDs]
            · cases hcl
              refine ⟨.inl (by simp [Addr.add_lit]), by simp, ?_⟩
              simp only [Addr.add_lit]
              exact (h6.drop _).take _
    · cases h
  · cases h

theorem slice_ok {t : TypeId} {xs : List AV} {lo hi : Option Operand} {x : AV} {v : Value} {ρ : Operand → Value} (h : qSlice P t lo.isSome hi.isSome xs = some x)
    (hv : RVs w (cx w0 w l st.tok) xs (v :: ((lo.toList ++ hi.toList).map ρ))) : QOk P w0 w l st (Instr.sliceAt t v (lo.map ρ) (hi.map ρ) none) x := by
  unfold qSlice at h
  split at h
  · rename_i f g k o n cs
    cases lo <;> cases hi <;> simp at h
    obtain ⟨u, e, h1⟩ := RVs_one hv
    cases e
    simp only [RV] at h1
    exact sliceAs_ok h h1 (.inl ⟨rfl, rfl⟩) (.inl ⟨rfl, rfl⟩)
  · rename_i f g k o n cs q i
    cases lo <;> cases hi <;> simp at h
    · rename_i y
      obtain ⟨u, u', e, h1, h2⟩ := RVs_two hv
      simp at e
      obtain ⟨rfl, e⟩ := e
      simp only [RV] at h1 h2
      exact sliceAs_ok h h1 (.inl ⟨rfl, rfl⟩) (.inr ⟨q, by simp [e, h2]⟩)
    · rename_i y
      obtain ⟨u, u', e, h1, h2⟩ := RVs_two hv
      simp at e
      obtain ⟨rfl, e⟩ := e
      simp only [RV] at h1 h2
      exact sliceAs_ok h h1 (.inr ⟨q, by simp [e, h2]⟩) (.inl ⟨rfl, rfl⟩)
  · rename_i f g k o n cs q i q' j
    cases lo <;> cases hi <;> simp only [Option.toList, List.append_nil, List.nil_append, List.map_nil, List.map_cons, List.cons_append] at hv
    · have := hv.length; simp at this
    · have := hv.length; simp at this
    · have := hv.length; simp at this
    · rename_i y z
      obtain ⟨u, u', u'', e, h1, h2, h3⟩ := RVs_three hv
      simp at e
      obtain ⟨rfl, e1, e2⟩ := e
      simp only [RV] at h1 h2 h3
      exact sliceAs_ok h h1 (.inr ⟨q, by simp [e1, h2]⟩) (.inr ⟨q', by simp [e2, h3]⟩)
  · rename_i y i
    cases lo <;> cases hi <;> simp at h
    · rename_i z
      obtain ⟨u, u', e, h1, h2⟩ := RVs_two hv
      simp at e
      obtain ⟨rfl, e⟩ := e
      simp only [RV] at h1 h2
      subst h1 h2
      obtain ⟨r, h3, h⟩ := bnd_eq h
      cases h
      refine QOk.same (v := r) ?_ (RV.ofVal r)
      have := pureP_run h3 w
      simpa [e] using this
    · rename_i z
      obtain ⟨u, u', e, h1, h2⟩ := RVs_two hv
      simp at e
      obtain ⟨rfl, e⟩ := e
      simp only [RV] at h1 h2
      subst h1 h2
      obtain ⟨r, h3, h⟩ := bnd_eq h
      cases h
      refine QOk.same (v := r) ?_ (RV.ofVal r)
      have := pureP_run h3 w
      simpa [e] using this
  · rename_i y i j
    cases lo <;> cases hi <;> simp at h
    rename_i z z'
    obtain ⟨u, u', u'', e, h1, h2, h3⟩ := RVs_three hv
    simp at e
    obtain ⟨rfl, e1, e2⟩ := e
    simp only [RV] at h1 h2 h3
    subst h1 h2 h3
    obtain ⟨r, h4, h⟩ := bnd_eq h
    cases h
    refine QOk.same (v := r) ?_ (RV.ofVal r)
    have := pureP_run h4 w
    simpa [e1, e2] using this
  · cases h
end Go.Ev
end

section
set_option linter.all false
set_option linter.unusedVariables false
set_option linter.unusedSimpArgs false
namespace Go.Ev
variable {w0 w : World} {l : Lay} {st : St} {P : Program}

def putL (cs : List Value) (off : Nat) (xs : List Value) : List Value := cs.take off ++ xs ++ cs.drop (off + xs.length)

theorem foldl_set_aux (off : Nat) : ∀ (vs : List Value) (k : Nat) (cs : Array Value), off + k + vs.length ≤ cs.size →
    (((vs.zipIdx k).foldl (fun (cs : Array Value) (p : Value × Nat) => cs.setIfInBounds (off + p.2) p.1) cs).toList = putL cs.toList (off + k) vs)
  | [], k, cs, _ => by simp [putL]
  | v :: r, k, cs, h => by
    simp only [List.length_cons] at h
    simp only [List.zipIdx_cons, List.foldl_cons]
    rw [foldl_set_aux off r (k + 1) _ (by simp; omega)]
    simp only [putL, Array.toList_setIfInBounds, List.length_cons]
    have := list_seg_step cs.toList (off + k) v r (by simp; omega)
    rw [show off + (k + 1) = off + k + 1 by omega, this]

theorem foldl_set (off : Nat) (vs : Array Value) (cs : Array Value) (h : off + vs.size ≤ cs.size) :
    (vs.zipIdx.foldl (fun (cs : Array Value) (p : Value × Nat) => cs.setIfInBounds (off + p.2) p.1) cs).toList = putL cs.toList off vs.toList := by
  rw [← Array.foldl_toList, Array.toList_zipIdx]
  have := foldl_set_aux off vs.toList 0 cs (by simpa using h)
  simpa using this

theorem RVs.take {c : Cx} : ∀ {xs : List AV} {vs : List Value} (n : Nat), RVs w c xs vs → RVs w c (xs.take n) (vs.take n)
  | [], vs, n, h => by simp only [RVs] at h; subst h; simp [RVs]
  | x :: xs, vs, 0, h => by simp [RVs]
  | x :: xs, vs, n + 1, h => by
    simp only [RVs] at h
    obtain ⟨v, r, rfl, h1, h2⟩ := h
    simp only [List.take_succ_cons, RVs]
    exact ⟨v, _, rfl, h1, RVs.take n h2⟩
theorem RVs.drop {c : Cx} : ∀ {xs : List AV} {vs : List Value} (n : Nat), RVs w c xs vs → RVs w c (xs.drop n) (vs.drop n)
  | [], vs, n, h => by simp only [RVs] at h; subst h; simp [RVs]
  | x :: xs, vs, 0, h => by simpa using h
  | x :: xs, vs, n + 1, h => by
    simp only [RVs] at h
    obtain ⟨v, r, rfl, h1, h2⟩ := h
    simpa using RVs.drop n h2
theorem RVs.putAt {c : Cx} {acc xs : List AV} {vs us : List Value} (off : Nat) (h : RVs w c acc vs) (h' : RVs w c xs us) : RVs w c (putAt acc off xs) (putL vs off us) := by
  unfold Go.Ev.putAt putL
  rw [h'.length]
  exact ((h.take off).append h').append (h.drop _)

theorem fillA_ok {c : Cx} {fs : Array Field} (place : Nat → Option (Nat × Nat)) (hp : ∀ (i : Nat) (f : Field), fs[i]? = some f → place i = some (f.offset, P.cellsOf f.type)) :
    ∀ (is : List Nat) (acc xs : List AV) (out : List AV) (cells : Array Value) (vs : List Value), fillA P fs acc is xs = some out → RVs w c acc cells.toList → RVs w c xs vs → (∀ u ∈ cells.toList, u.oneCell' = true) → is.length = xs.length →
      ∃ r, Instr.fill place cells (is.zip vs) = some r ∧ RVs w c out r.toList
  | [], acc, xs, out, cells, vs, h, h1, h2, _, _ => by
    simp only [fillA, Option.some.injEq] at h
    subst h
    exact ⟨cells, by simp [Instr.fill], h1⟩
  | i :: is, acc, [], out, cells, vs, h, h1, h2, _, hl => by simp at hl
  | i :: is, acc, x :: xs, out, cells, vs, h, h1, h2, h3, hl => by
    simp only [fillA] at h
    split at h
    · rename_i f hf
      split at h
      · rename_i hc
        obtain ⟨c1, c2, c3⟩ := hc
        simp only [RVs] at h2
        obtain ⟨v, r, rfl, h4, h5⟩ := h2
        obtain ⟨k1, k2⟩ := cells_sound c3 h4
        have hsz : v.cells.size = x.cells.length := by rw [← Array.length_toList]; exact k1.length
        have hcs : cells.size = acc.length := by rw [← Array.length_toList]; exact h1.length
        simp only [List.zip_cons_cons, Instr.fill, hp i f hf]
        have hfold := foldl_set f.offset v.cells cells (by omega)
        have hcond : ¬ ((v.cells.size ≠ P.cellsOf f.type || decide (f.offset + v.cells.size > cells.size)) = true) := by
          simp; omega
        rw [if_neg (by simpa using hcond)]
        refine fillA_ok place hp is _ xs out _ r h ?_ h5 ?_ (by simpa using hl)
        · rw [hfold]; exact h1.putAt _ k1
        · intro u hu
          rw [hfold] at hu
          simp only [putL, List.mem_append] at hu
          rcases hu with (hu | hu) | hu
          · exact h3 u (List.mem_of_mem_take hu)
          · exact k2 u hu
          · exact h3 u (List.mem_of_mem_drop hu)
      · cases h
    · cases h

theorem zeroCells_run {t : TypeId} {z : List AV} (h : zeroCells P t = some z) (w : World) : ∃ v : Value, (zeroValue t).run P w = .ok v w ∧ z = v.cells.toList.map AV.ofCell := by
  unfold zeroCells at h
  split at h
  · rename_i v hv
    cases h
    cases hi : P.info? t with
    | none => simp [hi] at hv
    | some i =>
      simp [hi] at hv
      exact ⟨v, by simp [zeroValue, typeInfo, hi, hv], rfl⟩
  · cases h

theorem mapM_run {α β : Type} (P : Program) (w : World) (g : α → Sem β) (f : α → β) : ∀ (l : List α), (∀ a ∈ l, (g a).run P w = .ok (f a) w) → (l.mapM g).run P w = .ok (l.map f) w
  | [], _ => by simp
  | a :: l, h => by
    simp [h a (by simp), mapM_run P w g f l (fun b hb => h b (by simp [hb]))]

theorem RVs.all1 {c : Cx} : ∀ {xs : List AV} {vs : List Value}, xs.all AV.isCell = true → RVs w c xs vs → ∀ u ∈ vs, u.oneCell' = true
  | [], vs, _, h, u, hu => by simp only [RVs] at h; subst h; simp at hu
  | x :: xs, vs, ha, h, u, hu => by
    simp only [RVs] at h
    obtain ⟨v, r, rfl, h1, h2⟩ := h
    simp only [List.all_cons, Bool.and_eq_true] at ha
    rcases List.mem_cons.1 hu with rfl | hu
    · exact isCell_sound ha.1 h1
    · exact RVs.all1 ha.2 h2 u hu

/-- A struct's value. -/
theorem build_ok {t : TypeId} {parts : List (Nat × Operand)} {xs : List AV} {x : AV} {ρ : Operand → Value} (h : qBuildAs P (parts.map (·.1)) xs (P.underlying t) (zeroCells P t) = some x)
    (hv : RVs w (cx w0 w l st.tok) xs (parts.map fun p => ρ p.2)) :
    QOk P w0 w l st (Instr.build t (parts.toArray.map fun (i, x) => (i, ρ x))) x := by
  unfold qBuildAs at h
  split at h
  · rename_i fs z hu hzc
    split at h
    case isFalse => cases h
    rename_i hcond
    obtain ⟨hall, hone⟩ := hcond
    simp only [Option.map_eq_some_iff] at h
    obtain ⟨out, h1, rfl⟩ := h
    obtain ⟨zv, hz1, hz2⟩ := zeroCells_run hzc w
    let places := fs.map fun (f : Field) => (f.offset, P.cellsOf f.type)
    have hpl : (fs.mapM fun (f : Field) => do pure (f.offset, ← sizeOf f.type)).run P w = .ok places w := by
      have := mapM_run P w (fun f : Field => (do pure (f.offset, ← sizeOf f.type) : Sem (Nat × Nat))) (fun f => (f.offset, P.cellsOf f.type)) fs.toList (fun f hf => by
        obtain ⟨i, hi⟩ := info_of_cells (P := P) (e := f.type) (by have := Array.all_eq_true_iff_forall_mem.1 hall f (by simpa using hf); simpa using this)
        simp [run_sizeOf' hi])
      rw [Array.mapM_eq_mapM_toList, Sem.run_map, this]
      simp only [Result.andThen_ok, places]
      congr 1
      apply Array.ext'
      simp
    have hzr : RVs w (cx w0 w l st.tok) z zv.cells.toList := by rw [hz2]; exact RVs.ofCells _
    obtain ⟨r, h2, h3⟩ := fillA_ok (P := P) (w := w) (c := cx w0 w l st.tok) (fs := fs) (places[·]?) (fun i f hf => by simp [places, hf]) (parts.map (·.1)) z xs out zv.cells (parts.map fun p => ρ p.2) h1 hzr hv
      (hzr.all1 hone) (by have := hv.length; simpa using this)
    have hzip : (parts.map (·.1)).zip (parts.map fun p => ρ p.2) = (parts.toArray.map fun (i, x) => (i, ρ x)).toList := by
      rw [List.zip_map']; simp
    refine QOk.same (v := .agg r) ?_ (by simp only [RV]; exact ⟨r.toList, by simp, h3⟩)
    rw [hzip] at h2
    unfold Instr.build
    rw [Sem.run_bind, hz1]
    simp only [Result.andThen_ok, Sem.run_bind, run_underlying hu, hpl]
    simp only [h2]
    rfl
  · cases h

/-! ### buildSlice -/
theorem toDs?_sound {c : Cx} (hi : ∀ b o, c.im true b o → c.im false b o) : ∀ {xs : List AV} {ds : List D} {g : Bool} {vs : List Value}, toDs? xs = some (ds, g) → RVs w c xs vs →
    ds.length = vs.length ∧ ∀ (j : Nat) (d : D), ds[j]? = some d → ∃ v, vs[j]? = some v ∧ v.oneCell' = true ∧ RD w (c.im g) d v
  | [], ds, g, vs, h, hv => by
    simp only [toDs?, Option.some.injEq, Prod.mk.injEq] at h
    obtain ⟨rfl, rfl⟩ := h
    simp only [RVs] at hv
    subst hv
    exact ⟨rfl, fun j d hj => by simp at hj⟩
  | x :: xs, ds, g, vs, h, hv => by
    simp only [toDs?, Option.bind_eq_some_iff, Option.map_eq_some_iff] at h
    obtain ⟨⟨d, b⟩, h1, ⟨ds', g'⟩, h2, h3⟩ := h
    simp only [Prod.mk.injEq] at h3
    obtain ⟨rfl, rfl⟩ := h3
    simp only [RVs] at hv
    obtain ⟨v, r, rfl, h4, h5⟩ := hv
    obtain ⟨k1, k2⟩ := toD?_sound hi h1 h4
    obtain ⟨k3, k4⟩ := toDs?_sound hi h2 h5
    have down : ∀ (y z : Bool) d v, RD w (c.im y) d v → RD w (c.im (y && z)) d v := fun y z d v hd => RD.mono (by cases y <;> cases z <;> simp <;> first | exact hi | (intro b o h; exact h)) (fun _ _ _ => rfl) d v hd
    refine ⟨by simp [k3], fun j e hj => ?_⟩
    cases j with
    | zero => simp at hj; subst hj; exact ⟨v, by simp, k1, down b g' _ _ k2⟩
    | succ j =>
      obtain ⟨u, a1, a2, a3⟩ := k4 j e (by simpa using hj)
      exact ⟨u, by simpa using a1, a2, by rw [Bool.and_comm]; exact down g' b _ _ a3⟩

theorem fill_range (size : Nat) : ∀ (vs : List Value) (k : Nat) (cs : Array Value), (∀ v ∈ vs, v.cells.size = size) → (k + vs.length) * size ≤ cs.size →
    ∃ r, Instr.fill (fun i => some (i * size, size)) cs (((List.range' k vs.length)).zip vs) = some r ∧ r.toList = putL cs.toList (k * size) (vs.flatMap fun v => v.cells.toList)
  | [], k, cs, _, _ => ⟨cs, by simp [Instr.fill], by simp [putL]⟩
  | v :: vs, k, cs, hs, hl => by
    have h1 := hs v (by simp)
    simp only [List.length_cons] at hl
    have e1 : (k + (vs.length + 1)) * size = k * size + size + vs.length * size := by rw [Nat.add_mul, Nat.add_mul]; omega
    have hsz : k * size + v.cells.size ≤ cs.size := by omega
    have hf := foldl_set (k * size) v.cells cs hsz
    have hlen : (v.cells.zipIdx.foldl (fun (cs : Array Value) (p : Value × Nat) => cs.setIfInBounds (k * size + p.2) p.1) cs).size = cs.size := by
      rw [← Array.length_toList, hf]
      simp [putL]; omega
    obtain ⟨r, h2, h3⟩ := fill_range size vs (k + 1) (v.cells.zipIdx.foldl (fun (cs : Array Value) (p : Value × Nat) => cs.setIfInBounds (k * size + p.2) p.1) cs) (fun u hu => hs u (by simp [hu])) (by rw [hlen, Nat.add_mul, Nat.add_mul]; omega)
    refine ⟨r, ?_, ?_⟩
    · simp only [List.length_cons, List.range'_succ, List.zip_cons_cons, Instr.fill]
      rw [if_neg (by simp [h1]; omega)]
      exact h2
    · rw [h3, hf]
      simp only [putL, List.flatMap_cons]
      have e2 : (k + 1) * size = k * size + size := by rw [Nat.add_mul]; omega
      have hv : v.cells.toList.length = size := by simpa using h1
      have hk : k * size + size ≤ cs.toList.length := by simp; omega
      have hA : (cs.toList.take (k * size) ++ v.cells.toList).length = k * size + size := by simp; omega
      rw [e2]
      have t1 : (cs.toList.take (k * size) ++ v.cells.toList ++ cs.toList.drop (k * size + v.cells.toList.length)).take (k * size + size) = cs.toList.take (k * size) ++ v.cells.toList := by
        rw [List.take_append_of_le_length (by omega), List.take_of_length_le (by omega)]
      have t2 : ∀ m, (cs.toList.take (k * size) ++ v.cells.toList ++ cs.toList.drop (k * size + v.cells.toList.length)).drop (k * size + size + m) = cs.toList.drop (k * size + size + m) := by
        intro m
        rw [List.drop_append, List.drop_of_length_le (by omega), List.nil_append, hA, hv, List.drop_drop]
        congr 1; omega
      rw [t1, t2]
      simp [hv, Nat.add_assoc]

theorem RVs_flat {c : Cx} (size : Nat) : ∀ {xs : List AV} {vs : List Value}, (xs.all fun x => decide (x.cells.length = size) && x.cells.all AV.isCell) = true → RVs w c xs vs →
    RVs w c (xs.flatMap AV.cells) (vs.flatMap fun v => v.cells.toList) ∧ (∀ v ∈ vs, v.cells.size = size) ∧ ∀ u ∈ (vs.flatMap fun v => v.cells.toList), u.oneCell' = true
  | [], vs, _, h => by simp only [RVs] at h; subst h; simp [RVs]
  | x :: xs, vs, ha, h => by
    simp only [RVs] at h
    obtain ⟨v, r, rfl, h1, h2⟩ := h
    simp only [List.all_cons, Bool.and_eq_true, decide_eq_true_eq] at ha
    obtain ⟨k1, k2⟩ := cells_sound ha.1.2 h1
    obtain ⟨k3, k4, k5⟩ := RVs_flat size ha.2 h2
    refine ⟨by simp only [List.flatMap_cons]; exact k1.append k3, fun u hu => ?_, fun u hu => ?_⟩
    · rcases List.mem_cons.1 hu with rfl | hu
      · rw [← Array.length_toList, k1.length]; exact ha.1.1
      · exact k4 u hu
    · simp only [List.flatMap_cons, List.mem_append] at hu
      rcases hu with hu | hu
      · exact k2 u hu
      · exact k5 u hu

theorem buildSlice_ok {t : TypeId} {len : Nat} {parts : List (Nat × Operand)} {xs : List AV} {x : AV} {ρ : Operand → Value} (hm : MR w0 w l st) (h : qBuildSlice P len (parts.map (·.1)) xs (P.underlying t) = some x)
    (hv : RVs w (cx w0 w l st.tok) xs (parts.map fun p => ρ p.2)) : QOk P w0 w l st (Instr.buildSlice t len (parts.toArray.map fun (i, x) => (i, ρ x))) x := by
  unfold qBuildSlice at h
  split at h
  · rename_i e hu
    split at h
    · rename_i hc
      obtain ⟨c1, c2, c3, c4, c5⟩ := hc
      simp only [Option.map_eq_some_iff] at h
      obtain ⟨⟨ds, g⟩, h1, rfl⟩ := h
      obtain ⟨k1, k2, k3⟩ := RVs_flat (P.cellsOf e) c2 hv
      obtain ⟨k4, k5⟩ := toDs?_sound (cx_down (w0 := w0) (w := w) (l := l) st.tok true) h1 k1
      obtain ⟨z, hz⟩ := Option.isSome_iff_exists.1 c5
      obtain ⟨zv, hz1, hz2⟩ := zeroCells_run hz w
      have hinfo : ∃ i, P.info? e = some i := by
        cases hi : P.info? e with
        | none => simp [zeroCells, hi] at hz
        | some i => exact ⟨i, rfl⟩
      obtain ⟨i, hi⟩ := hinfo
      have hlen : (parts.map fun p => ρ p.2).length = len := by have := hv.length; rw [this, c4]
      let Z : Array Value := if len * P.cellsOf e = 0 then #[] else zv.cells
      have hzr : (if len * P.cellsOf e = 0 then (pure #[] : Sem (Array Value)) else do pure (← zeroValue e).cells).run P w = .ok Z w := by
        by_cases h0 : len * P.cellsOf e = 0
        · simp [Z, h0]
        · simp [Z, h0, hz1]
      obtain ⟨r, hr1, hr2⟩ := fill_range (P.cellsOf e) (parts.map fun p => ρ p.2) 0 ((Array.range (len * P.cellsOf e)).map (Z[· % Z.size]!)) k2 (by simp [hlen])
      have hzip : (List.range' 0 (parts.map fun p => ρ p.2).length).zip (parts.map fun p => ρ p.2) = (parts.toArray.map fun (i, x) => (i, ρ x)).toList := by
        rw [hlen, ← List.range_eq_range', ← c1, List.zip_map']; simp
      rw [hzip] at hr1
      have hflat : ((parts.map fun p => ρ p.2).flatMap fun v => v.cells.toList).length = len * P.cellsOf e := by
        have : ∀ (us : List Value), (∀ v ∈ us, v.cells.size = P.cellsOf e) → (us.flatMap fun v => v.cells.toList).length = us.length * P.cellsOf e := by
          intro us
          induction us with
          | nil => intro _; simp
          | cons u us ih => intro hu; simp only [List.flatMap_cons, List.length_append, List.length_cons, ih (fun v hv => hu v (by simp [hv])), Array.length_toList, hu u (by simp), Nat.add_mul]; omega
        rw [this _ k2, hlen]
      have hr3 : r.toList = (parts.map fun p => ρ p.2).flatMap fun v => v.cells.toList := by
        rw [hr2]
        simp only [putL, Nat.zero_mul, List.take_zero, List.nil_append, Nat.zero_add]
        rw [hflat, List.drop_of_length_le (by simp)]
        simp
      refine ⟨.slice (some ⟨w.heap.size, 0, none⟩) len len, w.alloc (.cells r e), ?_, .inr ⟨_, rfl⟩, ?_⟩
      · unfold Instr.buildSlice
        simp only [Sem.run_bind, run_underlying hu, Result.andThen_ok, run_sizeOf' hi]
        rw [if_neg (by omega)]
        by_cases h0 : len * P.cellsOf e = 0
        · have hZ : Z = #[] := by simp [Z, h0]
          rw [hZ] at hr1
          rw [if_pos h0]
          simp only [Sem.run_bind, Sem.run_pure, Result.andThen_ok]
          simp only [hr1]
          simp [newRow]
        · have hZ : Z = zv.cells := by simp [Z, h0]
          rw [hZ] at hr1
          rw [if_neg h0]
          simp only [Sem.run_bind, Sem.run_pure, Result.andThen_ok, hz1]
          simp only [hr1]
          simp [newRow]
      · simp only [RV, RS]
        have hle := (hm.alloc (.cells r e)).2
        refine ⟨_, _, rfl, Nat.le_refl _, ⟨.inl rfl, by simp, ?_⟩, rfl⟩
        refine RDs.of_get fun j d hj => ?_
        obtain ⟨v, a1, a2, a3⟩ := k5 j d hj
        refine ⟨.inl ⟨hm.size, by simp, by simp only [hm.owfree _ (Nat.le_refl _)]; trivial⟩, v, ?_, a2, RD.mono (hle.im g) (hle.cell g) d v a3⟩
        rw [cell_in (heap_alloc_new w _), Nat.zero_add, ← Array.getElem?_toList, hr3]
        exact a1
    · cases h
  · cases h
end Go.Ev
end

section
set_option linter.all false
set_option linter.unusedVariables false
set_option linter.unusedSimpArgs false
namespace Go.Ev
variable {w0 w : World} {l : Lay} {st : St} {P : Program}

/-- An operation that yields what is told. -/
def NOk (P : Program) (w0 w : World) (l : Lay) (st : St) (s : Sem Next) (x : AV) : Prop :=
  ∃ v w', s.run P w = .ok (.value v) w' ∧ (w' = w ∨ ∃ ob, w' = w.alloc ob) ∧ RV w' (cx w0 w' l st.tok) x v

theorem NOk.of {s : Sem Value} {x : AV} (h : QOk P w0 w l st s x) : NOk P w0 w l st (do pure (.value (← s))) x := by
  obtain ⟨v, w', h1, h2, h3⟩ := h
  exact ⟨v, w', by simp [h1], h2, h3⟩

theorem one_of {c : Cx} {xs : List AV} {v : Value} {vs : List Value} (e : vs = [v]) (h : RVs w c xs vs) : RVs w c xs [v] := e ▸ h

theorem zeroOk_spec {e : TypeId} (h : zeroOk P e = true) : ∃ i z, P.info? e = some i ∧ i.zero = some z ∧ z.cells.size = P.cellsOf e ∧ i.size = P.cellsOf e ∧ i.bytes = P.bytesOf e := by
  unfold zeroOk zeroCells at h
  cases hi : P.info? e with
  | none => simp [hi] at h
  | some i =>
    cases hz : i.zero with
    | none => simp [hi, hz] at h
    | some z =>
      simp [hi, hz] at h
      exact ⟨i, z, rfl, hz, h, by simp [Program.cellsOf, hi], by simp [Program.bytesOf, hi]⟩


theorem flat_rep {α : Type} (l : List α) : ∀ (n j : Nat), j < n * l.length → ((List.replicate n l).flatten)[j]? = l[j % l.length]?
  | 0, j, h => by simp at h
  | n + 1, j, h => by
    rw [List.replicate_succ, List.flatten_cons]
    by_cases hj : j < l.length
    · rw [List.getElem?_append_left hj, Nat.mod_eq_of_lt hj]
    · rw [List.getElem?_append_right (by omega), flat_rep l n (j - l.length) (by rw [Nat.succ_mul] at h; omega), ← Nat.mod_eq_sub_mod (by omega)]
theorem made_get (z : Array Value) (n j : Nat) (h : j < n) : (madeCells z n).toList[j]? = some z[j % z.size]! := by
  simp [madeCells, h]
theorem flat_rep_len {α : Type} (l : List α) (n : Nat) : ((List.replicate n l).flatten).length = n * l.length := by
  induction n with
  | zero => simp
  | succ n ih => rw [List.replicate_succ, List.flatten_cons, List.length_append, ih, Nat.succ_mul]; omega

theorem make_run {t e : TypeId} {k k' : IntKind} {n : Int} {zds : List D × Bool} (hu : P.underlying t = some (.slice e)) (h0 : 0 ≤ n) (hb : P.bytesOf e * n ≤ 140737488355328) (hn : n ≤ 140737488355328) (hz : zeroOk P e = true) (hd : zeroDs P e = some zds) (c : Cx) (hi : ∀ b o, c.im true b o → c.im false b o) :
    ∃ cv : Array Value, (Instr.makeSlice t (.int k n) (.int k' n)).run P w = .ok (.slice (some ⟨w.heap.size, 0, none⟩) n.toNat n.toNat) (w.alloc (.cells cv e)) ∧ cv.size = n.toNat * P.cellsOf e ∧ zds.1.length = P.cellsOf e ∧
      ∀ (j : Nat) (d : D), ((List.replicate n.toNat zds.1).flatten)[j]? = some d → ∃ v, cv.toList[j]? = some v ∧ v.oneCell' = true ∧ RD w (c.im zds.2) d v := by
  obtain ⟨i, zv, q1, q2, q3, q4, q5⟩ := zeroOk_spec hz
  have hr := run_make (P := P) w t e i zv hu q1 q2 k k' n n h0 (Int.le_refl _) (by rw [q5]; omega) (by omega)
  unfold zeroDs at hd
  obtain ⟨za, z1, z2⟩ := bnd_eq hd
  obtain ⟨zv', z3, z4⟩ := zeroCells_run (P := P) z1 w
  have ezv : zv' = zv := by simpa [zeroValue, typeInfo, q1, q2] using z3.symm
  subst ezv
  obtain ⟨ds, g⟩ := zds
  have hv : RVs w c za zv'.cells.toList := by rw [z4]; exact RVs.ofCells _
  obtain ⟨k1, k2⟩ := toDs?_sound hi z2 hv
  have hlen : ds.length = P.cellsOf e := by rw [k1, Array.length_toList, q3]
  refine ⟨madeCells zv'.cells (n.toNat * i.size), hr, by rw [size_madeCells, q4], hlen, fun j d hj => ?_⟩
  have hlt := (List.getElem?_eq_some_iff.1 hj).1
  rw [flat_rep_len, hlen] at hlt
  rw [flat_rep _ _ _ (by rw [hlen]; exact hlt)] at hj
  obtain ⟨v, a1, a2, a3⟩ := k2 _ d hj
  refine ⟨v, ?_, a2, a3⟩
  rw [made_get _ _ _ (by rw [q4]; exact hlt)]
  simp only [hlen] at a1
  rw [← q3, Array.getElem?_toList] at a1
  rw [getElem!_def, a1]

theorem make_ok {t : TypeId} {xs : List AV} {x : AV} {v1 v2 : Value} (hm : MR w0 w l st) (h : qMake P (P.underlying t) xs = some x) (hv : RVs w (cx w0 w l st.tok) xs [v1, v2]) : QOk P w0 w l st (Instr.makeSlice t v1 v2) x := by
  unfold qMake at h
  split at h
  · rename_i e k n k' m hu
    split at h
    · rename_i hc
      obtain ⟨rfl, c1, c2, c3, c4⟩ := hc
      obtain ⟨zds, h1, h2⟩ := bnd_eq h
      cases h2
      obtain ⟨u1, u2, e3, r1, r2⟩ := RVs_two hv
      cases e3
      simp only [RV] at r1 r2
      subst r1 r2
      obtain ⟨cv, m1, m2, m3, m4⟩ := make_run (P := P) (k := k) (k' := k') hu c1 c2 c3 c4 h1 (cx w0 w l st.tok) (cx_down st.tok true)
      refine ⟨_, _, m1, .inr ⟨_, rfl⟩, ?_⟩
      simp only [RV, RS]
      have hle := (hm.alloc (.cells cv e)).2
      refine ⟨_, _, rfl, Nat.le_refl _, ⟨.inl rfl, by simp, ?_⟩, rfl⟩
      refine RDs.of_get fun j d hj => ?_
      obtain ⟨v, a1, a2, a3⟩ := m4 j d hj
      refine ⟨.inl ⟨hm.size, by simp, by simp only [hm.owfree _ (Nat.le_refl _)]; trivial⟩, v, ?_, a2, RD.mono (hle.im _) (hle.cell _) d v a3⟩
      rw [cell_in (heap_alloc_new w _), Nat.zero_add, ← Array.getElem?_toList]
      exact a1
    · cases h
  · cases h

theorem execQ_sound {ρ : Operand → Value} {o : Oper} {xs : List AV} {os : List (List AV)} {x : AV} (hm : MR w0 w l st) (hq : quiet o.op = true)
    (h : execQ P o.op xs os = some x) (hos : st.mems (foot st o.op xs) = some os) (hv : RVs w (cx w0 w l st.tok) xs (o.op.operands.toList.map ρ)) : NOk P w0 w l st (execOp ρ o) x := by
  obtain ⟨dst, op, type, pos, after, guard⟩ := o
  simp only at h hos hv hq
  cases op <;> simp only [execQ] at h <;> try (cases h; done)
  case move y =>
    simp only [Op.operands, List.map_cons, List.map_nil] at hv
    unfold qOne at h
    split at h
    · cases h
      obtain ⟨v, e, h1⟩ := RVs_one hv
      simp at e
      exact ⟨v, w, by simp [execOp, e], .inl rfl, h1⟩
    · cases h
  case pick c a b =>
    simp only [Op.operands, List.map_cons, List.map_nil] at hv
    have h' := h
    unfold qPick at h'
    split at h'
    · obtain ⟨v, u, t, e, h1, h2, h3⟩ := RVs_three hv
      simp at e
      obtain ⟨e1, e2, e3⟩ := e
      have := pick_ok (P := P) h h1 h2 h3
      obtain ⟨r, w', a1, a2, a3⟩ := this
      refine ⟨r, w', ?_, a2, a3⟩
      simp only [execOp, e1, e2, e3]
      cases hb : (asBool v).run P w with
      | ok t' w2 =>
        simp [hb] at a1 ⊢
        exact a1
      | halt hh w2 => simp [hb] at a1
    · cases h'
  case build t parts =>
    have hv' : RVs w (cx w0 w l st.tok) xs (parts.toList.map fun p => ρ p.2) := by simpa [Op.operands, Function.comp_def] using hv
    have := build_ok (P := P) (parts := parts.toList) (ρ := ρ) h hv'
    exact NOk.of (by simpa using this)
  case buildSlice t len parts =>
    have hv' : RVs w (cx w0 w l st.tok) xs (parts.toList.map fun p => ρ p.2) := by simpa [Op.operands, Function.comp_def] using hv
    have := buildSlice_ok (P := P) (parts := parts.toList) (ρ := ρ) hm h hv'
    exact NOk.of (by simpa using this)
  case makeSlice t y z =>
    have hv' : RVs w (cx w0 w l st.tok) xs [ρ y, ρ z] := by simpa [Op.operands] using hv
    exact NOk.of (by simpa using make_ok (P := P) hm h hv')
  case load t y =>
    simp only [Op.operands, List.map_cons, List.map_nil, foot] at hv hos
    exact NOk.of (load_ok hm h hos hv)
  case nilCheck y =>
    simp only [Op.operands, List.map_cons, List.map_nil] at hv
    obtain ⟨h1, a, h2⟩ := nilCheck_ok h hv
    exact ⟨ρ y, w, by simp [execOp, h2], .inl rfl, h1⟩
  case binOp op t y z t' =>
    simp only [Op.operands, List.map_cons, List.map_nil] at hv
    exact NOk.of (bin_ok h hv)
  case unOp op t y =>
    simp only [Op.operands, List.map_cons, List.map_nil] at hv
    exact NOk.of (un_ok h hv)
  case typeAssert y t a ok =>
    simp only [Op.operands, List.map_cons, List.map_nil] at hv
    exact NOk.of (ta_ok h hv)
  case index t y z =>
    simp only [Op.operands, List.map_cons, List.map_nil] at hv
    exact NOk.of (idx_ok h hv)
  case convert a b y =>
    simp only [Op.operands, List.map_cons, List.map_nil] at hv
    exact NOk.of (conv_ok h hv)
  case makeInterface t y =>
    simp only [Op.operands, List.map_cons, List.map_nil] at hv
    exact NOk.of (iface_ok h hv)
  case makeFunc fn first captured =>
    unfold qFunc at h
    split at h
    · rename_i f hf
      cases h
      have e1 : first = #[] := by simpa using hf
      subst e1
      refine ⟨.func (.func f) #[] (captured.map ρ), w, by simp [execOp, Instr.makeFunc], .inl rfl, ?_⟩
      simp only [RV]
      refine ⟨(captured.map ρ).toList, by rw [Array.toArray_toList], ?_⟩
      simpa [Op.operands] using hv
    · cases h
  case slice t y lo hi mx =>
    cases mx with
    | some m => simp at h
    | none =>
      simp only at h
      have hv' : RVs w (cx w0 w l st.tok) xs (ρ y :: ((lo.toList ++ hi.toList).map ρ)) := by
        cases lo <;> cases hi <;> simpa [Op.operands] using hv
      exact NOk.of (slice_ok h hv')
  case fieldAddr t y i =>
    simp only [Op.operands, List.map_cons, List.map_nil] at hv
    exact NOk.of (field_ok h hv)
  case indexAddr t y z =>
    simp only [Op.operands, List.map_cons, List.map_nil] at hv
    exact NOk.of (index_ok h hv)
  case extract y i =>
    simp only [Op.operands, List.map_cons, List.map_nil] at hv
    exact NOk.of (extract_ok h hv)
  case call c =>
    obtain ⟨callee, args, argTypes⟩ := c
    simp only [quiet] at hq
    cases callee with
    | value f => cases hq
    | invoke r m => cases hq
    | builtin b =>
      have hv' : RVs w (cx w0 w l st.tok) xs (args.map ρ).toList := by simpa [Op.operands, Call.operands] using hv
      cases b <;> first | (cases hq; done) | skip
      · simp only [qBuiltin] at h
        have := len_ok (P := P) type h hv'
        obtain ⟨r, w', a1, a2, a3⟩ := this
        exact ⟨r, w', by simp [execOp, resolve, invoke, builtin, a1], a2, a3⟩
      · simp only [qBuiltin] at h
        unfold qMax at h
        split at h
        · rename_i k x k' y
          cases h
          obtain ⟨v, u, e, h1, h2⟩ := RVs_two hv'
          simp only [RV] at h1 h2
          subst h1 h2
          rw [Array.toList_map] at e
          refine ⟨.int k (maxI x y), w, ?_, .inl rfl, by simp only [RV]⟩
          simp [execOp, resolve, invoke, builtin, Builtin.max_, e, Builtin.max2, maxI]
        · cases h
      · simp only [qBuiltin] at h
        unfold qMin at h
        split at h
        · rename_i k x k' y
          cases h
          obtain ⟨v, u, e, h1, h2⟩ := RVs_two hv'
          simp only [RV] at h1 h2
          subst h1 h2
          rw [Array.toList_map] at e
          refine ⟨.int k (minI x y), w, ?_, .inl rfl, by simp only [RV]⟩
          simp [execOp, resolve, invoke, builtin, Builtin.min_, e, Builtin.min2, minI]
        · cases h
end Go.Ev
end

section
set_option linter.all false
set_option linter.unusedVariables false
set_option linter.unusedSimpArgs false
namespace Go.Ev
variable {w0 w : World} {l : Lay} {st : St} {P : Program}

/-! ### append -/
def cellList (w : World) (b o n : Nat) : List Value := (List.range n).map fun j => (w.cell? ⟨b, o + j, none⟩).getD undef
theorem cellList_len (w : World) (b o n : Nat) : (cellList w b o n).length = n := by simp [cellList]
theorem cellList_get (w : World) (b o n j : Nat) (h : j < n) : (cellList w b o n)[j]? = some ((w.cell? ⟨b, o + j, none⟩).getD undef) := by simp [cellList, h]

/-- The cells of a slice, and that they are read. -/
theorem slice_cells {c : Cx} {f g : Bool} {k : Knd} {o : Own} {n size : Nat} {cs : List D} {a : Option Addr} {cap : Nat} (h : RS w c f g k o n cs (.slice a n cap)) (hl : cs.length = n * size) :
    ∃ us : List Value, us.length = n * size ∧ (∀ w', w'.heap = w.heap → (Builtin.firstCells size n (.slice a n cap)).run P w' = .ok us.toArray w') ∧
      (∀ (j : Nat) (d : D), cs[j]? = some d → ∃ v, us[j]? = some v ∧ v.oneCell' = true ∧ RD w (c.im g) d v) ∧ (∀ u ∈ us, u.oneCell' = true) ∧
      (∀ ad, a = some ad → ∀ j v, us[j]? = some v → w.cell? ⟨ad.block, ad.off + j, none⟩ = some v) := by
  obtain ⟨a', cap', e, h2, h3, h4⟩ := h
  cases e
  cases a with
  | none =>
    obtain ⟨rfl, rfl, rfl, _⟩ := h3
    exact ⟨[], by simp, fun w' _ => by simp [Builtin.firstCells], fun j d hj => by simp at hj, by simp, by simp⟩
  | some ad =>
    obtain ⟨b, off, sp⟩ := ad
    obtain ⟨hs, _, h6⟩ := h3
    simp only at hs h6
    rcases hs with hs | ⟨rfl, rfl⟩
    rotate_left
    · exact ⟨[], by simp, fun w' _ => run_firstCells_some w' size 0 ⟨b, off, sp⟩ 0 cap [] (by simp) (fun j v hj => by simp at hj), fun j d hj => by simp at hj, by simp, by simp⟩
    subst hs
    have key : ∀ j, j < cs.length → ∃ v, w.cell? ⟨b, off + j, none⟩ = some v ∧ v.oneCell' = true ∧ RD w (c.im g) (cs.getD j (.s undef)) v := fun j hj => by
      obtain ⟨_, v, a1, a2, a3⟩ := h6.get j (cs[j]) (by simp [hj])
      exact ⟨v, a1, a2, by simpa [List.getD, hj] using a3⟩
    have val : ∀ j v, (cellList w b off cs.length)[j]? = some v → w.cell? ⟨b, off + j, none⟩ = some v := fun j v hj => by
      by_cases hlt : j < cs.length
      · rw [cellList_get _ _ _ _ _ hlt] at hj
        obtain ⟨u, a1, _⟩ := key j hlt
        rw [a1] at hj ⊢
        simpa using hj
      · rw [List.getElem?_eq_none (by rw [cellList_len]; omega)] at hj; cases hj
    refine ⟨cellList w b off cs.length, by rw [cellList_len, hl], fun w' hw => ?_, fun j d hj => ?_, fun u hu => ?_, fun ad e j v hj => by cases e; exact val j v hj⟩
    · exact run_firstCells_some w' size n ⟨b, off, none⟩ n cap _ (by rw [cellList_len, hl]) (fun j v hj => by
        rw [Addr.add_lit]
        have := val j v hj
        simpa [World.cell?, hw] using this)
    · have hlt : j < cs.length := (List.getElem?_eq_some_iff.1 hj).1
      obtain ⟨v, a1, a2, a3⟩ := key j hlt
      refine ⟨v, by rw [cellList_get _ _ _ _ _ hlt, a1]; rfl, a2, ?_⟩
      simpa [List.getD, hj] using a3
    · obtain ⟨j, hj, rfl⟩ := List.mem_iff_getElem.1 hu
      have hlt : j < cs.length := by simpa [cellList_len] using hj
      obtain ⟨v, a1, a2, _⟩ := key j hlt
      have := cellList_get w b off cs.length j hlt
      rw [List.getElem?_eq_getElem hj, a1] at this
      simp at this
      rw [this]; exact a2

theorem run_append_big {t1 t2 ty e e2 : TypeId} {ts : Array TypeId} {i : TypeInfo} {z : Value} (hts1 : ts[0]? = some t1) (hts2 : ts[1]? = some t2) (ht : P.underlying t1 = some (.slice e)) (ht2 : P.underlying t2 = some (.slice e2)) (hi : P.info? e = some i) (hz : i.zero = some z)
    {a a2 : Option Addr} {n m cap cap2 : Nat} {olds news : List Value}
    (ho : ∀ w', w'.heap = w.heap → (Builtin.firstCells i.size n (.slice a n cap)).run P w' = .ok olds.toArray w') (hn : ∀ w', w'.heap = w.heap → (Builtin.firstCells i.size m (.slice a2 m cap2)).run P w' = .ok news.toArray w')
    (hg : cap < n + m) (hb : (n + m) * i.bytes ≤ 140737488355328) (hby : 0 < i.bytes) :
    (Builtin.append_ ts ty #[.slice a n cap, .slice a2 m cap2]).run P w =
      .ok (.slice (some ⟨w.heap.size, 0, none⟩) (n + m) (grownCap w (n + m) cap e))
        (w.drew.alloc (.cells (olds ++ news ++ (Builtin.zeroCells z.cells (grownCap w (n + m) cap e - (n + m))).toList).toArray e)) := by
  have hn' : ¬ (n + m ≤ cap) := by omega
  have hfit := growslice_fits hg hb
  have h48' : ¬ (281474976710656 < Builtin.nextslicecap (n + m) cap * i.bytes) := by omega
  have hf := ho w.drew rfl
  have hf2 := hn w.drew rfl
  have h63' : ¬ (9223372036854775807 < ((n : Int) + (m : Int))) := by
    have : 1 ≤ i.bytes := by omega
    have := Nat.mul_le_mul_left (n + m) this
    omega
  simp [Builtin.append_, hts1, hts2, run_underlying ht, run_underlying ht2, sizeOf, typeInfo, zeroValue, hi, hz, Builtin.lenOf, hn', h63', h48', Question.forced, hf, hf2, newRow, grownCap]
  congr 2
  apply Array.ext'
  simp

theorem run_append_fits' {t1 t2 ty e e2 : TypeId} {ts : Array TypeId} {i : TypeInfo} (hts1 : ts[0]? = some t1) (hts2 : ts[1]? = some t2) (ht : P.underlying t1 = some (.slice e)) (ht2 : P.underlying t2 = some (.slice e2)) (hi : P.info? e = some i)
    {b : Nat} {a2 : Option Addr} {n m cap cap2 : Nat} {news : List Value} {cv : Array Value} {T : TypeId}
    (hn : (Builtin.firstCells i.size m (.slice a2 m cap2)).run P w = .ok news.toArray w) (hw : w.heap[b]? = some (.cells cv T (0, 0)))
    (hg : n + m ≤ cap) (hfit : n * i.size + news.length ≤ cv.size) (h1 : ∀ u ∈ news, u.oneCell' = true) :
    (Builtin.append_ ts ty #[.slice (some ⟨b, 0, none⟩) n cap, .slice a2 m cap2]).run P w =
      .ok (.slice (some ⟨b, 0, none⟩) (n + m) cap) (w.setRow b (putL cv.toList (n * i.size) news).toArray) := by
  have hst := run_storeCells_at P b (n * i.size) T news 0 cv w hw (by simpa using hfit) h1
  simp only [Nat.add_zero] at hst
  simp [Builtin.append_, hts1, hts2, run_underlying ht, run_underlying ht2, sizeOf, typeInfo, hi, Builtin.lenOf, hg, hn, Addr.add_lit, hst, putL]

/-- Nothing is appended. -/
theorem run_append_none {t1 t2 ty e e2 : TypeId} {ts : Array TypeId} {i : TypeInfo} (hts1 : ts[0]? = some t1) (hts2 : ts[1]? = some t2) (ht : P.underlying t1 = some (.slice e)) (ht2 : P.underlying t2 = some (.slice e2)) (hi : P.info? e = some i)
    {a a2 : Option Addr} {n cap cap2 : Nat} (hg : n ≤ cap) :
    (Builtin.append_ ts ty #[.slice a n cap, .slice a2 0 cap2]).run P w = .ok (.slice a n cap) w := by
  have hz : (Builtin.firstCells i.size 0 (.slice a2 0 cap2)).run P w = .ok #[] w := by
    cases a2 <;> simp [Builtin.firstCells, loadCells, loadCellsFrom]
  cases a <;> simp [Builtin.append_, hts1, hts2, run_underlying ht, run_underlying ht2, sizeOf, typeInfo, hi, Builtin.lenOf, hg, hz, storeCells]

/-- What an append leaves. -/
def AppDone (P : Program) (w0 w : World) (l : Lay) (st : St) (s : Sem Value) (key n z : Nat) (x : AV) : Prop :=
  ∃ v w' l', s.run P w = .ok v w' ∧ MR w0 w' l' { st with tok := upd st.tok key (n, z) } ∧ Cx.le w (cx w0 w l st.tok) w' (cx w0 w' l' (upd st.tok key (n, z))) ∧
    RV w' (cx w0 w' l' (upd st.tok key (n, z))) x v ∧ l'.rd = l.rd ∧ l'.be = l.be

/-- A new row for a token. -/
theorem app_big {key n m z cap : Nat} {us : List Value} {T : TypeId} (hm : MR w0 w l st) (hkey : st.tok key = none ∨ ∃ n0, st.tok key = some (n0, z) ∧ n0 < n + m) (hcap : n + m ≤ cap) (hus : us.length = cap * z) :
    ∃ l', MR w0 (w.drew.alloc (.cells us.toArray T)) l' { st with tok := upd st.tok key (n + m, z) } ∧
      Cx.le w (cx w0 w l st.tok) (w.drew.alloc (.cells us.toArray T)) (cx w0 (w.drew.alloc (.cells us.toArray T)) l' (upd st.tok key (n + m, z))) ∧ l'.rd = l.rd ∧ l'.be = l.be ∧
      l'.bt key = some (w.heap.size, cap) ∧ l'.ow w.heap.size = .tok ((n + m) * z) := by
  let w' := w.drew.alloc (.cells us.toArray T)
  have hs : w'.heap.size = w.heap.size + 1 := by simp [w']
  have hlt : ∀ i, i < w.heap.size → w'.heap[i]? = w.heap[i]? := fun i hi => Go.RowKit.Below.heap_alloc w.drew _ i hi
  let l' : Lay := { l with ow := fun b => if b = w.heap.size then .tok ((n + m) * z) else l.ow b, bt := fun k => if k = key then some (w.heap.size, cap) else l.bt k }
  have hle : Cx.le w (cx w0 w l st.tok) w' (cx w0 w' l' (upd st.tok key (n + m, z))) := by
    refine cxle_of hm rfl (fun b hb hn => (hlt b (Nat.lt_of_lt_of_le hb hm.size)).trans (hm.old b hb hn))
      (fun b o hb => ⟨⟨hb.1, by rw [hs]; exact Nat.lt_succ_of_lt hb.2.1, by simp only [l']; rw [if_neg (Nat.ne_of_lt hb.2.1)]; exact hb.2.2⟩, cell_of_heap (hlt b hb.2.1)⟩) (fun _ _ h => h) (fun k n' a c htc => ?_) (fun D hD => hlt D (hm.fzs.de D hD).2.1)
    obtain ⟨n2, z2, h1, h2, h3⟩ := htc
    by_cases hk : k = key
    · subst hk
      rcases hkey with h0 | ⟨n0, h0, h0'⟩
      · rw [h0] at h1; cases h1
      · rw [h0] at h1
        cases h1
        exact ⟨n + m, z, by simp [upd], by omega, fun e => by omega⟩
    · refine ⟨n2, z2, by simp [upd, hk, h1], h2, fun e => ?_⟩
      have := h3 e
      simpa [l', hk] using this
  refine ⟨l', ⟨hm.os, hm.tape, hm.output, by rw [hs]; exact Nat.le_succ_of_le hm.size, fun b hb hn => (hlt b (Nat.lt_of_lt_of_le hb hm.size)).trans (hm.old b hb hn), hm.bel, hm.ext, hm.extn, hm.inj, ?_, ?_, ?_, ?_, ?_, ?_, ?_, hm.rdok, ?_, ?_, hm.fzs.step (by rw [hs]; exact Nat.le_succ _) (fun D hD => hlt D (hm.fzs.de D hD).2.1) (fun D hD ho => by simp only [l']; rw [if_neg (Nat.ne_of_lt hD)]; exact ho) rfl rfl, fun k c z' hk => (by
    obtain ⟨a, b, q1, cv, T', q2, q3⟩ := hm.xtd k c z' hk
    exact ⟨by simp only [upd]; split; rfl; exact a, b, q1, cv, T', (hlt b (hm.rblt _ _ q1)).trans q2, q3⟩)⟩, hle, rfl, rfl, by simp [l'], by simp [l']⟩
  · intro r b hr
    obtain ⟨cs, h⟩ := hm.dom r b hr
    exact ⟨cs, by cases r <;> exact h⟩
  · intro r cs hr
    rcases hm.obj r cs (by cases r <;> exact hr) with e | ⟨b, h1, h2⟩
    · exact .inl e
    · exact .inr ⟨b, h1, h2.mono hle (hlt b (hm.rblt r b h1))⟩
  · intro r b hr; rw [hs]; exact Nat.lt_succ_of_lt (hm.rblt r b hr)
  · intro k b hr
    have := hm.rbow k b hr
    exact ⟨this.1, by simp only [l']; rw [if_neg (Nat.ne_of_lt (hm.rblt _ _ hr))]; exact this.2⟩
  · intro b hb
    simp only [l'] at hb
    split at hb
    · cases hb
    · exact hm.owobj b hb
  · intro b hb
    rw [hs] at hb
    simp only [l']
    rw [if_neg (by omega)]
    exact hm.owfree b (by omega)
  · intro b hb
    simp only [l']
    rw [if_neg (by have := hm.size; omega)]
    exact hm.owold b hb
  · intro k b c hk
    simp only [l'] at hk
    split at hk
    · rename_i e
      cases hk
      refine ⟨n + m, z, by simp [upd, e], by simp [l'], hm.size, by rw [hs]; exact Nat.lt_succ_self _, hcap, us.toArray, T, heap_alloc_new w.drew _, by simp [hus]⟩
    · rename_i e
      obtain ⟨n2, z2, a1, a2, a3, a4, a5, cv, T', a6, a7⟩ := hm.tokd k b c hk
      exact ⟨n2, z2, by simp [upd, e, a1], by simp only [l']; rw [if_neg (Nat.ne_of_lt a4)]; exact a2, a3, by rw [hs]; exact Nat.lt_succ_of_lt a4, a5, cv, T', (hlt b a4).trans a6, a7⟩
  · intro k k' b c c' hk hk'
    simp only [l'] at hk hk'
    split at hk <;> split at hk'
    · rename_i e e'; rw [e, e']
    · cases hk
      obtain ⟨_, _, _, _, _, h, _⟩ := hm.tokd _ _ _ hk'
      exact absurd h (Nat.lt_irrefl _)
    · cases hk'
      obtain ⟨_, _, _, _, _, h, _⟩ := hm.tokd _ _ _ hk
      exact absurd h (Nat.lt_irrefl _)
    · exact hm.tokinj _ _ _ _ _ hk hk'

/-- Into the room behind. -/
theorem app_fits {key n m z cap b : Nat} {news : List Value} {cv : Array Value} {T : TypeId} (hm : MR w0 w l st) (hkey : st.tok key = some (n, z)) (hbt : l.bt key = some (b, cap)) (hm0 : 0 < m) (hcap : n + m ≤ cap)
    (hcv : w.heap[b]? = some (.cells cv T (0, 0))) (hsz : cap * z ≤ cv.size) (hnews : news.length = m * z) :
    ∃ l', MR w0 (w.setRow b (putL cv.toList (n * z) news).toArray) l' { st with tok := upd st.tok key (n + m, z) } ∧
      Cx.le w (cx w0 w l st.tok) (w.setRow b (putL cv.toList (n * z) news).toArray) (cx w0 (w.setRow b (putL cv.toList (n * z) news).toArray) l' (upd st.tok key (n + m, z))) ∧ l'.rd = l.rd ∧ l'.be = l.be ∧
      l'.bt key = some (b, cap) ∧ l'.ow b = .tok ((n + m) * z) := by
  obtain ⟨n0, z0, t1, t2, t3, t4, t5, cv0, T0, t6, t7⟩ := hm.tokd key b cap hbt
  rw [hkey] at t1
  cases t1
  rw [hcv] at t6
  cases t6
  have hfit : n * z + news.length ≤ cv.size := by
    have := Nat.mul_le_mul_right z hcap
    rw [hnews, ← Nat.add_mul]; omega
  have hplen : (putL cv.toList (n * z) news).length = cv.size := by simp [putL]; omega
  let w' := w.setRow b (putL cv.toList (n * z) news).toArray
  have hs : w'.heap.size = w.heap.size := by simp [w']
  have hob : ∀ k, k ≠ b → w'.heap[k]? = w.heap[k]? := fun k hk => setRow_other w b k _ hk
  have hnew : w'.heap[b]? = some (.cells (putL cv.toList (n * z) news).toArray T (0, 0)) := setRow_heap w b cv _ T _ hcv
  have hold : ∀ b', b' < w0.heap.size → b' ∉ l.be → w'.heap[b']? = w0.heap[b']? := fun b' h1 h2 => by
    rw [hob b' (by omega)]; exact hm.old b' h1 h2
  let l' : Lay := { l with ow := fun b' => if b' = b then .tok ((n + m) * z) else l.ow b' }
  have hcell : ∀ o, o < n * z → w'.cell? ⟨b, o, none⟩ = w.cell? ⟨b, o, none⟩ := fun o ho => by
    rw [cell_in hnew, cell_in hcv]
    rw [← Array.getElem?_toList]
    simp only [putL]
    rw [List.getElem?_append_left (by simp; omega), List.getElem?_append_left (by simp; omega), List.getElem?_take, if_pos ho, Array.getElem?_toList]
  have hdn : ∀ D, D ∈ l.rd.d ++ l.rd.e → D ≠ b := fun D hD e => by
    subst e
    have h4 := (hm.fzs.de D hD).2.2
    rw [t2] at h4
    cases h4
  have hle : Cx.le w (cx w0 w l st.tok) w' (cx w0 w' l' (upd st.tok key (n + m, z))) := by
    refine cxle_of hm rfl hold (fun b' o hb => ?_) (fun _ _ h => h) (fun k n' a c htc => ?_) (fun D hD => hob D (hdn D hD))
    · by_cases e : b' = b
      · subst e
        have h3 : o < n * z := by have := hb.2.2; rw [t2] at this; exact this
        refine ⟨⟨hb.1, by rw [hs]; exact hb.2.1, ?_⟩, hcell o h3⟩
        simp only [l', if_true, whoLets]
        rw [Nat.add_mul]; omega
      · exact ⟨⟨hb.1, by rw [hs]; exact hb.2.1, by simp only [l']; rw [if_neg e]; exact hb.2.2⟩, cell_of_heap (hob b' e)⟩
    · obtain ⟨n2, z2, h1, h2, h3⟩ := htc
      by_cases hk : k = key
      · subst hk
        rw [hkey] at h1
        cases h1
        exact ⟨n + m, z, by simp [upd], by omega, fun e => by omega⟩
      · exact ⟨n2, z2, by simp [upd, hk, h1], h2, h3⟩
  have hnobj : ∀ r b', l.rb r = some b' → b' ≠ b := fun r b' hr e => by
    subst e
    cases r with
    | own k => rw [(hm.rbow k _ hr).2] at t2; cases t2
    | ext i => have h1 := hm.ext i; rw [hr] at h1; exact absurd (hm.bel _ (List.mem_of_getElem? h1.symm)) (Nat.not_lt.2 t3)
  refine ⟨l', ⟨hm.os, hm.tape, hm.output, by rw [hs]; exact hm.size, hold, hm.bel, hm.ext, hm.extn, hm.inj, ?_, ?_, ?_, ?_, ?_, ?_, ?_, hm.rdok, ?_, hm.tokinj, hm.fzs.step (by rw [hs]; exact Nat.le_refl _) (fun D hD => hob D (hdn D hD)) (fun D hD ho => by simp only [l']; rw [if_neg]; exact ho; intro e; subst e; rw [t2] at ho; cases ho) rfl rfl, fun k c z' hk => (by
    obtain ⟨a, b', q1, cv', T', q2, q3⟩ := hm.xtd k c z' hk
    exact ⟨by simp only [upd]; split; rfl; exact a, b', q1, cv', T', (hob b' (hnobj _ _ q1)).trans q2, q3⟩)⟩, hle, rfl, rfl, hbt, by simp [l']⟩
  · intro r b' hr
    obtain ⟨cs, h⟩ := hm.dom r b' hr
    exact ⟨cs, by cases r <;> exact h⟩
  · intro r cs hr
    rcases hm.obj r cs (by cases r <;> exact hr) with e | ⟨b', h1, h2⟩
    · exact .inl e
    · exact .inr ⟨b', h1, h2.mono hle (hob b' (hnobj r b' h1))⟩
  · intro r b' hr; rw [hs]; exact hm.rblt r b' hr
  · intro k b' hr
    have := hm.rbow k b' hr
    exact ⟨this.1, by simp only [l']; rw [if_neg (hnobj _ _ hr)]; exact this.2⟩
  · intro b' hb
    simp only [l'] at hb
    split at hb
    · cases hb
    · exact hm.owobj b' hb
  · intro b' hb
    rw [hs] at hb
    simp only [l']
    rw [if_neg (by omega)]
    exact hm.owfree b' hb
  · intro b' hb
    simp only [l']
    rw [if_neg (by omega)]
    exact hm.owold b' hb
  · intro k b' c hk
    by_cases e : k = key
    · subst e
      have hk' : l.bt k = some (b', c) := hk
      rw [hbt] at hk'
      cases hk'
      exact ⟨n + m, z, by simp [upd], by simp [l'], t3, by rw [hs]; exact t4, hcap, _, T, hnew, by simpa [hplen] using hsz⟩
    · obtain ⟨n2, z2, a1, a2, a3, a4, a5, cv2, T', a6, a7⟩ := hm.tokd k b' c hk
      have hne : b' ≠ b := fun eb => e (hm.tokinj _ _ _ _ _ (eb ▸ hk) hbt)
      exact ⟨n2, z2, by simp [upd, e, a1], by simp only [l']; rw [if_neg hne]; exact a2, a3, by rw [hs]; exact a4, a5, cv2, T', (hob b' hne).trans a6, a7⟩
end Go.Ev
end

section
set_option linter.all false
set_option linter.unusedVariables false
set_option linter.unusedSimpArgs false
namespace Go.Ev
variable {w0 w : World} {l : Lay} {st : St} {P : Program}

theorem fresh_thr {w' : World} {l' : Lay} {b o thr : Nat} (h : w0.heap.size ≤ b) (h2 : b < w'.heap.size) (h3 : l'.ow b = .tok thr) (h4 : o < thr) : fresh w0 w' l' b o := ⟨h, h2, by rw [h3]; exact h4⟩

/-- The result of an append that has written a row: the cells lie at the begin of block b. -/
theorem app_result {w' : World} {l' : Lay} {tk' : Nat → Option (Nat × Nat)} {f g g' : Bool} {k : Knd} {key n m z cap b : Nat} {cs ds : List D} {olds news : List Value}
    (hle : Cx.le w (cx w0 w l st.tok) w' (cx w0 w' l' tk')) (htk : tk' key = some (n + m, z)) (hbt : l'.bt key = some (b, cap)) (how : l'.ow b = .tok ((n + m) * z)) (hb : w0.heap.size ≤ b) (hb2 : b < w'.heap.size)
    (hcap : n + m ≤ cap) (hm0 : 0 < m) (hcs : cs.length = n * z) (hds : ds.length = m * z) (ho : olds.length = n * z)
    (hold : ∀ (j : Nat) (d : D), cs[j]? = some d → ∃ v, olds[j]? = some v ∧ v.oneCell' = true ∧ RD w ((cx w0 w l st.tok).im g) d v)
    (hnew : ∀ (j : Nat) (d : D), ds[j]? = some d → ∃ v, news[j]? = some v ∧ v.oneCell' = true ∧ RD w ((cx w0 w l st.tok).im g') d v)
    (hcells : ∀ (j : Nat) (v : Value), (olds ++ news)[j]? = some v → w'.cell? ⟨b, j, none⟩ = some v) :
    RV w' (cx w0 w' l' tk') (.sl (f || m != 0) (g && g') (if k = .U ∧ m ≠ 0 then .E else k) (.tok key) (n + m) (cs ++ ds)) (.slice (some ⟨b, 0, none⟩) (n + m) cap) := by
  have hf : (f || m != 0) = true := by
    have : (m != 0) = true := by simp; omega
    rw [this, Bool.or_true]
  rw [hf]
  simp only [RV]
  refine ⟨_, _, rfl, hcap, ⟨.inl rfl, fun _ => by omega, RDs.of_get fun j d hj => ?_⟩, ⟨n + m, z, htk, Nat.le_refl _, fun _ => by rw [hbt]; exact ⟨rfl, rfl⟩⟩⟩
  have hlt : j < (n + m) * z := by
    have := (List.getElem?_eq_some_iff.1 hj).1
    rw [List.length_append, hcs, hds, ← Nat.add_mul] at this
    exact this
  refine ⟨.inl (by rw [Nat.zero_add]; exact fresh_thr hb hb2 how hlt), ?_⟩
  have down : ∀ (x : Bool) d v, (x = true → (g && g') = true) ∨ True → RD w ((cx w0 w l st.tok).im x) d v → (∀ b o, (cx w0 w l st.tok).im x b o → (cx w0 w l st.tok).im (g && g') b o) → RD w' ((cx w0 w' l' tk').im (g && g')) d v :=
    fun x d v _ hd hx => RD.mono (fun b o h => hle.im _ b o (hx b o h)) (fun b o h => hle.cell x b o h) d v hd
  rw [List.getElem?_append] at hj
  split at hj
  · rename_i hjl
    obtain ⟨v, a1, a2, a3⟩ := hold j d hj
    refine ⟨v, ?_, a2, down g d v (.inr trivial) a3 (by cases g <;> cases g' <;> simp <;> first | exact cx_down st.tok true | (intro b o h; exact h))⟩
    rw [Nat.zero_add]
    exact hcells j v (by rw [List.getElem?_append_left (by omega)]; exact a1)
  · rename_i hjl
    obtain ⟨v, a1, a2, a3⟩ := hnew _ d hj
    refine ⟨v, ?_, a2, down g' d v (.inr trivial) a3 (by cases g <;> cases g' <;> simp <;> first | exact cx_down st.tok true | (intro b o h; exact h))⟩
    rw [Nat.zero_add]
    exact hcells j v (by rw [List.getElem?_append_right (by omega), ho, ← hcs]; exact a1)

theorem append_ok {ts : Array TypeId} {ty d : Nat} {f g f' g' : Bool} {k k' : Knd} {o o' : Own} {n m : Nat} {cs ds : List D} {e e2 : TypeId} {v1 v2 : Value} {X' : X}
    (hm : MR w0 w l st) (h : fAppendAs P d st.tok f g k n cs f' g' m ds e o = some X') (ht1 : tdesc P ts[0]? = some (.slice e)) (ht2 : tdesc P ts[1]? = some (.slice e2))
    (hv1 : RS w (cx w0 w l st.tok) f g k o n cs v1) (hv2 : RS w (cx w0 w l st.tok) f' g' k' o' m ds v2) :
    ∃ key x, X' = .tok x (key, n + m, P.cellsOf e) ∧ AppDone P w0 w l st (Builtin.append_ ts ty #[v1, v2]) key (n + m) (P.cellsOf e) x := by
  obtain ⟨t1, hts1, hu1⟩ := tdesc_some ht1
  obtain ⟨t2, hts2, hu2⟩ := tdesc_some ht2
  have hv1' := hv1
  have hv2' := hv2
  obtain ⟨a, cap, rfl, hncap, hsh, hown⟩ := hv1
  obtain ⟨a2, cap2, rfl, hmcap, hsh2, _⟩ := hv2
  -- what both forms of the source give
  have main : ∀ key, (n + m) * P.bytesOf e ≤ 140737488355328 → cs.length = n * P.cellsOf e → ds.length = m * P.cellsOf e → 0 < P.bytesOf e → zeroOk P e = true →
      (st.tok key = none ∧ cap = n ∨ st.tok key = some (n, P.cellsOf e) ∧ l.live key n n a cap) →
      AppDone P w0 w l st (Builtin.append_ ts ty #[.slice a n cap, .slice a2 m cap2]) key (n + m) (P.cellsOf e)
        (.sl (f || m != 0) (g && g') (if k = .U ∧ m ≠ 0 then .E else k) (.tok key) (n + m) (cs ++ ds)) := by
    intro key c1 c2 c3 c5 c6 hkey
    obtain ⟨i, zv, hi, hz, hzs, his, hib⟩ := zeroOk_spec c6
    by_cases hm0 : m = 0
    · subst hm0
      have hds : ds = [] := List.eq_nil_of_length_eq_zero (by simpa using c3)
      subst hds
      refine ⟨_, w, l, run_append_none hts1 hts2 hu1 hu2 hi hncap, ?_, ?_, ?_, rfl, rfl⟩
      · have hmr : MR w0 w l { st with tok := upd st.tok key (n + 0, P.cellsOf e) } := by
          have htc : ∀ k2 n2 a2 c2, (cx w0 w l st.tok).tc k2 n2 a2 c2 → (cx w0 w l (upd st.tok key (n + 0, P.cellsOf e))).tc k2 n2 a2 c2 := by
            intro k2 n2 a2 c2 ⟨n3, z3, h1, h2, h3⟩
            by_cases hk : k2 = key
            · subst hk
              rcases hkey with ⟨h0, _⟩ | ⟨h0, _⟩
              · rw [h0] at h1; cases h1
              · rw [h0] at h1; cases h1; exact ⟨n, P.cellsOf e, by simp [upd], h2, h3⟩
            · exact ⟨n3, z3, by simp [upd, hk, h1], h2, h3⟩
          have hle : Cx.le w (cx w0 w l st.tok) w (cx w0 w l (upd st.tok key (n + 0, P.cellsOf e))) := ⟨fun _ _ _ h => h, fun _ _ _ _ => rfl, fun _ _ h => h, htc, fun _ h => h, fun _ _ => rfl, fun _ _ _ h => h⟩
          refine ⟨hm.os, hm.tape, hm.output, hm.size, hm.old, hm.bel, hm.ext, hm.extn, hm.inj, fun r b hr => ?_, fun r cs hr => ?_, hm.rblt, hm.rbow, hm.owobj, hm.owfree, hm.owold, hm.rdok, fun k2 b c hk => ?_, hm.tokinj, hm.fzs, fun k c z' hk => ⟨(by simp only [upd]; split; rfl; exact (hm.xtd k c z' hk).1), (hm.xtd k c z' hk).2⟩⟩
          · obtain ⟨cs, h⟩ := hm.dom r b hr; exact ⟨cs, by cases r <;> exact h⟩
          · rcases hm.obj r cs (by cases r <;> exact hr) with e | ⟨b, h1, h2⟩
            · exact .inl e
            · exact .inr ⟨b, h1, h2.mono hle rfl⟩
          · obtain ⟨n3, z3, a1, a2⟩ := hm.tokd k2 b c hk
            by_cases hk2 : k2 = key
            · subst hk2
              rcases hkey with ⟨h0, _⟩ | ⟨h0, _⟩
              · rw [h0] at a1; cases a1
              · rw [h0] at a1; cases a1; exact ⟨n, P.cellsOf e, by simp [upd], a2⟩
            · exact ⟨n3, z3, by simp [upd, hk2, a1], a2⟩
        exact hmr
      · refine ⟨fun _ _ _ h => h, fun _ _ _ _ => rfl, fun _ _ h => h, ?_, fun _ h => h, fun _ _ => rfl, fun _ _ _ h => h⟩
        intro k2 n2 a2 c2 ⟨n3, z3, h1, h2, h3⟩
        by_cases hk : k2 = key
        · subst hk
          rcases hkey with ⟨h0, _⟩ | ⟨h0, _⟩
          · rw [h0] at h1; cases h1
          · rw [h0] at h1; cases h1; exact ⟨n, P.cellsOf e, by simp [upd], h2, h3⟩
        · exact ⟨n3, z3, by simp [upd, hk, h1], h2, h3⟩
      · simp only [RV]
        refine ⟨a, cap, rfl, hncap, ?_, ⟨n, P.cellsOf e, by simp [upd], Nat.le_refl _, fun _ => ?_⟩⟩
        · have hg : ∀ b o, (cx w0 w l st.tok).im g b o → (cx w0 w l (upd st.tok key (n + 0, P.cellsOf e))).im (g && g') b o := by
            cases g <;> cases g' <;> simp <;> first | exact cx_down st.tok true | (intro b o h; exact h)
          cases a with
          | none => simpa using hsh
          | some ad =>
            refine ⟨by simpa using hsh.1, by simpa using hsh.2.1, ?_⟩
            have := RDs.mono (i1' := (cx w0 w l (upd st.tok key (n + 0, P.cellsOf e))).im (f || 0 != 0)) (w' := w) (by cases f <;> simp <;> (intro b o h; exact h)) (fun _ _ _ => rfl) hg (fun _ _ _ => rfl) cs _ _ hsh.2.2
            simpa using this
        · rcases hkey with ⟨h0, hc⟩ | ⟨h0, hl⟩
          · have : l.bt key = none := by
              cases hb : l.bt key with
              | none => rfl
              | some bc => obtain ⟨b, c⟩ := bc; obtain ⟨_, _, h, _⟩ := hm.tokd key b c hb; rw [h0] at h; cases h
            rw [this]; exact hc
          · exact hl rfl
    · have hmpos : 0 < m := Nat.pos_of_ne_zero hm0
      obtain ⟨olds, o1, o2, o3, o4, o5⟩ := slice_cells (P := P) hv1' (size := i.size) (by rw [his]; exact c2)
      obtain ⟨news, n1, n2, n3, n4, n5⟩ := slice_cells (P := P) hv2' (size := i.size) (by rw [his]; exact c3)
      by_cases hroom : n + m ≤ cap
      · -- room
        rcases hkey with ⟨_, hc⟩ | ⟨h0, hl⟩
        · omega
        · have hl' := hl rfl
          cases hbt : l.bt key with
          | none => rw [hbt] at hl'; simp only at hl'; omega
          | some bc =>
            obtain ⟨b, cap'⟩ := bc
            rw [hbt] at hl'
            obtain ⟨rfl, rfl⟩ := hl'
            obtain ⟨n9, z9, q1, q2, q3, q4, q5, cv, T, q6, q7⟩ := hm.tokd key b cap hbt
            rw [h0] at q1
            cases q1
            have hfit : n * i.size + news.length ≤ cv.size := by
              rw [n1, his, ← Nat.add_mul]
              exact Nat.le_trans (Nat.mul_le_mul_right _ hroom) q7
            have hr := run_append_fits' (P := P) (w := w) (ty := ty) hts1 hts2 hu1 hu2 hi (n2 w rfl) q6 hroom hfit n4
            rw [his] at hr n1 o1 hfit
            obtain ⟨l', m1, m2, m3, m4, m5, m6⟩ := app_fits (m := m) hm h0 hbt hmpos hroom q6 q7 n1
            refine ⟨_, _, l', hr, m1, m2, ?_, m3, m4⟩
            refine app_result m2 (by simp [upd]) m5 m6 q3 (by simpa using q4) hroom hmpos c2 c3 o1 o3 n3 (fun j v hj => ?_)
            rw [cell_in (setRow_heap w b cv _ T _ q6)]
            have ho : ∀ j v, olds[j]? = some v → cv[j]? = some v := fun j v hj => by
              have := o5 ⟨b, 0, none⟩ rfl j v hj
              rw [Nat.zero_add, cell_in q6] at this
              exact this
            simp only [putL]
            rw [List.getElem?_append] at hj
            split at hj
            · rename_i hjl
              have h9 := ho j v hj
              rw [← Array.getElem?_toList, List.getElem?_append_left (by simp; omega), List.getElem?_append_left (by simp; omega), List.getElem?_take, if_pos (by omega), Array.getElem?_toList]
              exact h9
            · rename_i hjl
              have hj2 : j - olds.length < news.length := (List.getElem?_eq_some_iff.1 hj).1
              rw [← Array.getElem?_toList, List.getElem?_append_left (by simp; omega), List.getElem?_append_right (by simp; omega)]
              have : (cv.toList.take (n * P.cellsOf e)).length = olds.length := by simp; omega
              rw [this]
              exact hj
      · -- a new row
        have hr := run_append_big (P := P) (w := w) (ty := ty) hts1 hts2 hu1 hu2 hi hz o2 n2 (by omega) (by rw [hib]; exact c1) (by rw [hib]; exact c5)
        have hge := grownCap_ge w (n + m) cap e
        let us := olds ++ news ++ (Builtin.zeroCells zv.cells (grownCap w (n + m) cap e - (n + m))).toList
        have hus : us.length = grownCap w (n + m) cap e * P.cellsOf e := by
          simp only [us, List.length_append, o1, n1, his, Array.length_toList, size_zeroCells, hzs, ← Nat.add_mul]
          congr 1; omega
        obtain ⟨l', m1, m2, m3, m4, m5, m6⟩ := app_big (T := e) (n := n) (m := m) (z := P.cellsOf e) (key := key) hm (by
          rcases hkey with ⟨h0, _⟩ | ⟨h0, _⟩
          · exact .inl h0
          · exact .inr ⟨n, h0, by omega⟩) hge hus
        refine ⟨_, _, l', hr, m1, m2, ?_, m3, m4⟩
        rw [his] at o1 n1
        refine app_result m2 (by simp [upd]) m5 m6 hm.size (by simp) hge hmpos c2 c3 o1 o3 n3 (fun j v hj => ?_)
        have hh : (w.drew.alloc (.cells us.toArray e)).heap[w.heap.size]? = some (.cells us.toArray e) := heap_alloc_new w.drew _
        rw [cell_in hh]
        have hlt := (List.getElem?_eq_some_iff.1 hj).1
        rw [← Array.getElem?_toList, List.getElem?_append_left hlt]
        exact hj
  cases o with
  | no => cases h
  | grw _ _ => cases h
  | full =>
    simp only [fAppendAs] at h
    split at h
    · rename_i hc
      cases h
      obtain ⟨c1, c2, c3, c4, c5, c6, c7⟩ := hc
      exact ⟨d, _, rfl, main d c1 c2 c3 c5 c6 (.inl ⟨c7, hown⟩)⟩
    · cases h
  | tok key =>
    simp only [fAppendAs] at h
    split at h
    · rename_i hc
      cases h
      obtain ⟨c1, c2, c3, c4, c5, c6, c7⟩ := hc
      obtain ⟨n', z', h1, h2, h3⟩ := hown
      rw [c7] at h1
      cases h1
      exact ⟨key, _, rfl, main key c1 c2 c3 c5 c6 (.inr ⟨c7, h3⟩)⟩
    · cases h
end Go.Ev
end

section
set_option linter.all false
set_option linter.unusedVariables false
set_option linter.unusedSimpArgs false
namespace Go.Ev
variable {w0 w : World} {l : Lay} {st : St} {P : Program}

/-- The state behind an operation. -/
def Good (w0 w : World) (l : Lay) (st : St) (a : Act) : Prop := MR w0 w l st ∧ ER w (cx w0 w l st.tok) st a.tmps

/-- An operation that is done, without a call. -/
def OpDone (P : Program) (w0 w : World) (l : Lay) (o : Oper) (a : Act) (st' : St) : Prop :=
  ∃ v n w' l', (n = .value v ∨ (n = .skip ∧ v = undef)) ∧ (execOp a.eval o).run P w = .ok n w' ∧ Good w0 w' l' st' (a.put o.dst v) ∧ l'.rd = l.rd ∧ l'.be = l.be

theorem MR.put {d : Option Nat} {x : AV} (h : MR w0 w l st) : MR w0 w l (st.put d x) := h.env _ (St.put_own ..) (St.put_ext ..) (St.put_tok ..)

theorem Good.put {a : Act} {d : Option Nat} {x : AV} {v : Value} (h : Good w0 w l st a) (hd : dstOk st.nt d = true) (hv : RV w (cx w0 w l st.tok) x v) : Good w0 w l (st.put d x) (a.put d v) :=
  ⟨h.1.put, by rw [St.put_tok]; exact h.2.put hd hv⟩

theorem Good.alloc {a : Act} (h : Good w0 w l st a) (o : Obj) : Good w0 (w.alloc o) l st a := ⟨(h.1.alloc o).1, h.2.mono (h.1.alloc o).2⟩

theorem quiet_done {o : Oper} {a : Act} {xs : List AV} {os : List (List AV)} {x : AV} (h : Good w0 w l st a) (hq : quiet o.op = true) (hd : dstOk st.nt o.dst = true)
    (hx : st.opds o.op.operands.toList = some xs) (hos : st.mems (foot st o.op xs) = some os) (he : execQ P o.op xs os = some x) : OpDone P w0 w l o a (st.put o.dst x) := by
  obtain ⟨v, w', h1, h2, h3⟩ := execQ_sound (P := P) h.1 hq he hos (opds_sound h.2 hx)
  refine ⟨v, _, w', l, .inl rfl, h1, ?_, rfl, rfl⟩
  rcases h2 with rfl | ⟨ob, rfl⟩
  · exact h.put hd h3
  · exact (h.alloc ob).put hd h3

/-! ### The effects that are no calls -/
theorem mem_one {r : Ref} {os : List (List AV)} (h : st.mems [r] = some os) : ∃ cs, os = [cs] ∧ st.mem r = some cs := by
  simp only [St.mems] at h
  obtain ⟨cs, h1, h⟩ := bnd_eq h
  simp at h
  exact ⟨cs, h.symm, h1⟩

theorem store_run {t : TypeId} {b off : Nat} {v : Value} {cv : Array Value} {T : TypeId} (hi : ∃ i, P.info? t = some i) (hsz : v.cells.size = P.cellsOf t) (hcv : w.heap[b]? = some (.cells cv T (0, 0)))
    (hfit : off + v.cells.size ≤ cv.size) (h1 : ∀ u ∈ v.cells.toList, u.oneCell' = true) :
    (Instr.storeAt t (.pointer (some ⟨b, off, none⟩)) v).run P w = .ok () (w.setRow b (putL cv.toList off v.cells.toList).toArray) := by
  obtain ⟨i, hi⟩ := hi
  have := run_storeCells_at P b off T v.cells.toList 0 cv w hcv (by simpa using hfit) h1
  simp only [Nat.add_zero] at this
  simp [Instr.storeAt, Instr.sureAddr, storeVar, run_sizeOf' hi, hsz, this, putL]

theorem putAt_len {cs xs : List AV} {off : Nat} (h : off + xs.length ≤ cs.length) : (putAt cs off xs).length = cs.length := by simp [putAt]; omega

theorem store_done {o : Oper} {a : Act} {t : TypeId} {y z : Operand} {xs : List AV} {os : List (List AV)} {X' : X} (h : Good w0 w l st a) (hop : o.op = .store t y z) (hd : dstOk st.nt o.dst = true)
    (hx : st.opds o.op.operands.toList = some xs) (hos : st.mems (foot st o.op xs) = some os) (he : fStore P t xs os = some X') : ∃ st', X'.run st o (foot st o.op xs) = .go st' ∧ OpDone P w0 w l o a st' := by
  have hv := opds_sound h.2 hx
  rw [hop] at hv hos ⊢
  simp only [Op.operands, List.map_cons, List.map_nil, foot] at hv hos ⊢
  unfold fStore at he
  split at he
  · rename_i r off x cs
    split at he
    · rename_i hc
      cases he
      obtain ⟨c0, c1, c2, c3⟩ := hc
      obtain ⟨v, u, e, h1, h2⟩ := RVs_two hv
      simp at e
      obtain ⟨e1, e2⟩ := e
      simp only [RV] at h1
      obtain ⟨b, hb, hvp⟩ := h1
      simp only [footP] at hos ⊢
      obtain ⟨cs', e3, hmem⟩ := mem_one hos
      cases e3
      have hb2 : l.rb r = some b := hb
      obtain ⟨b', hb', cv, T, q1, q2, q3⟩ := (h.1.obj r cs hmem).resolve_left fun x => by rw [hb2] at x; cases x.2
      rw [hb2] at hb'
      cases hb'
      obtain ⟨k1, k2⟩ := cells_sound c3 h2
      have hlen : u.cells.size = x.cells.length := by rw [← Array.length_toList]; exact k1.length
      have hinfo : ∃ i, P.info? t = some i := Option.isSome_iff_exists.1 c0
      have hrun := store_run (P := P) (w := w) (t := t) (v := u) (b := b) (off := off) hinfo (by rw [hlen, c1]) q1 (by omega) k2
      have hpl : (putL cv.toList off u.cells.toList).length = cv.size := by simp [putL]; omega
      obtain ⟨m1, m2⟩ := h.1.store r cs hmem b hb2 (putAt cs off x.cells) cv (putL cv.toList off u.cells.toList).toArray T q1 (by rw [putAt_len c2]; simp [hpl]; omega) (.inr trivial) (fun j y hj => by
        have hcvl : cv.toList.length = cv.size := by simp
        simp only [putAt, putL] at hj ⊢
        rw [← Array.getElem?_toList]
        rw [List.getElem?_append] at hj
        split at hj
        · rename_i hjl
          rw [List.getElem?_append] at hj
          split at hj
          · rename_i hj2
            rw [List.getElem?_take] at hj
            split at hj
            · rename_i hj3
              obtain ⟨v2, a1, a2, a3⟩ := q3 j y hj
              refine ⟨v2, ?_, a2, a3⟩
              rw [List.getElem?_append_left (by simp; omega), List.getElem?_append_left (by simp; omega), List.getElem?_take, if_pos hj3, Array.getElem?_toList]; exact a1
            · cases hj
          · rename_i hj2
            have hl2 : (cs.take off).length = off := by simp; omega
            have hl3 : (cv.toList.take off).length = off := by simp; omega
            obtain ⟨v2, a1, a3⟩ := k1.get _ _ hj
            refine ⟨v2, ?_, k2 v2 (List.mem_of_getElem? a1), a3⟩
            rw [hl2] at a1
            rw [List.getElem?_append_left (by simp at hjl ⊢; omega), List.getElem?_append_right (by omega), hl3]
            exact a1
        · rename_i hjl
          have hl2 : (cs.take off ++ x.cells).length = off + x.cells.length := by simp; omega
          have hl3 : (cv.toList.take off ++ u.cells.toList).length = off + x.cells.length := by simp; omega
          rw [hl2] at hj hjl
          rw [List.getElem?_drop] at hj
          obtain ⟨v2, a1, a2, a3⟩ := q3 _ y hj
          refine ⟨v2, ?_, a2, a3⟩
          rw [List.getElem?_append_right (by omega), hl3, List.getElem?_drop, Array.getElem?_toList, Array.length_toList, hlen]
          exact a1) (by simp [hpl])
      refine ⟨_, rfl, undef, .skip, w.setRow b (putL cv.toList off u.cells.toList).toArray, l, .inr ⟨rfl, rfl⟩, ?_, ?_, rfl, rfl⟩
      · have ey : a.eval y = .pointer (some ⟨b, off, none⟩) := by rw [e1]; exact hvp
        have ez : a.eval z = u := e2
        simp only [execOp, hop, ey, ez]
        simp [hrun]
      · have g1 : Good w0 (w.setRow b (putL cv.toList off u.cells.toList).toArray) l (st.setMem r (putAt cs off x.cells)) a := by
          refine ⟨m1, ?_⟩
          have et : (st.setMem r (putAt cs off x.cells)).tok = st.tok := by cases r <;> rfl
          have ee : (st.setMem r (putAt cs off x.cells)).env = st.env := by cases r <;> rfl
          have en : (st.setMem r (putAt cs off x.cells)).nt = st.nt := by cases r <;> rfl
          rw [et]
          have := h.2.mono m2
          exact ⟨by rw [en]; exact this.1, fun d x hdx => by rw [ee] at hdx; rw [en]; exact this.2 d x hdx⟩
        have := g1.put (d := o.dst) (x := .s (.tuple #[])) (v := undef) (by cases r <;> exact hd) (by simp [RV, undef])
        simpa [X.run, St.setAll] using this
    · cases he
  · cases he

theorem Good.newObj {a : Act} (h : Good w0 w l st a) (k : Nat) (hk : st.own k = none) (cells : List AV) (vs : List Value) (T : TypeId) (hv : RVs w (cx w0 w l st.tok) cells vs) (h1 : ∀ u ∈ vs, u.oneCell' = true) :
    ∃ l', Good w0 (w.alloc (.cells vs.toArray T)) l' { st with own := upd st.own k cells } a ∧ l'.rb (.own k) = some w.heap.size ∧ l'.rd = l.rd ∧ l'.be = l.be := by
  have hrb : l.rb (.own k) = none := by
    cases hh : l.rb (.own k) with
    | none => rfl
    | some b => obtain ⟨cs, hc⟩ := h.1.dom _ _ hh; simp [St.mem, hk] at hc
  obtain ⟨l', m1, m2, m3, m4, m5⟩ := h.1.newObj' k hk cells vs T hv h1
  exact ⟨l', ⟨m1, (h.2.mono m2)⟩, m3, m4, m5⟩

theorem alloc_done {o : Oper} {a : Act} {t : TypeId} {X' : X} (h : Good w0 w l st a) (hop : o.op = .alloc t) (hd : dstOk st.nt o.dst = true)
    (he : fAlloc st.own o.dst (zeroCells P t) = some X') : ∃ st', X'.run st o [] = .go st' ∧ OpDone P w0 w l o a st' := by
  unfold fAlloc at he
  split at he
  · rename_i d z hdst hz
    split at he
    · rename_i hc
      cases he
      obtain ⟨zv, z1, z2⟩ := zeroCells_run hz w
      have hv : RVs w (cx w0 w l st.tok) z zv.cells.toList := by rw [z2]; exact RVs.ofCells _
      obtain ⟨l', g1, g2, g3, g4⟩ := h.newObj d hc.2 z zv.cells.toList t hv (hv.all1 hc.1)
      refine ⟨_, rfl, .pointer (some ⟨w.heap.size, 0, none⟩), .value (.pointer (some ⟨w.heap.size, 0, none⟩)), w.alloc (.cells zv.cells.toList.toArray t), l', .inl rfl, ?_, ?_, g3, g4⟩
      · simp [execOp, hop, Instr.alloc, z1, newVar, newRow]
      · have := g1.put (d := o.dst) (x := .ptr (.own d) 0) (v := .pointer (some ⟨w.heap.size, 0, none⟩)) hd (by simp only [RV]; exact ⟨_, g2, rfl⟩)
        simpa [X.run, St.setAll] using this
    · cases he
  · cases he

theorem box_done {o : Oper} {a : Act} {t : TypeId} {y : Operand} {xs : List AV} {X' : X} (h : Good w0 w l st a) (hop : o.op = .box t y) (hd : dstOk st.nt o.dst = true)
    (hx : st.opds o.op.operands.toList = some xs) (he : fBox st.own o.dst xs = some X') : ∃ st', X'.run st o [] = .go st' ∧ OpDone P w0 w l o a st' := by
  have hv := opds_sound h.2 hx
  rw [hop] at hv
  simp only [Op.operands, List.map_cons, List.map_nil] at hv
  unfold fBox at he
  split at he
  · rename_i d x hdst
    split at he
    · rename_i hc
      cases he
      obtain ⟨v, e, h1⟩ := RVs_one hv
      simp at e
      obtain ⟨k1, k2⟩ := cells_sound hc.1 h1
      obtain ⟨l', g1, g2, g3, g4⟩ := h.newObj d hc.2 x.cells v.cells.toList t k1 k2
      refine ⟨_, rfl, .pointer (some ⟨w.heap.size, 0, none⟩), .value (.pointer (some ⟨w.heap.size, 0, none⟩)), w.alloc (.cells v.cells.toList.toArray t), l', .inl rfl, ?_, ?_, g3, g4⟩
      · simp [execOp, hop, Instr.box, newVar, newRow, e]
      · have := g1.put (d := o.dst) (x := .ptr (.own d) 0) (v := .pointer (some ⟨w.heap.size, 0, none⟩)) hd (by simp only [RV]; exact ⟨_, g2, rfl⟩)
        simpa [X.run, St.setAll] using this
    · cases he
  · cases he

theorem assign_done {o : Oper} {a : Act} {y : Operand} {xs : List AV} {X' : X} (h : Good w0 w l st a) (hop : o.op = .assign y) (hd : dstOk st.nt o.dst = true)
    (hx : st.opds o.op.operands.toList = some xs) (he : fAssign xs = some X') : ∃ st', X'.run st o [] = .go st' ∧ OpDone P w0 w l o a st' := by
  have hv := opds_sound h.2 hx
  rw [hop] at hv
  simp only [Op.operands, List.map_cons, List.map_nil] at hv
  unfold fAssign at he
  split at he
  · cases he
    obtain ⟨v, e, h1⟩ := RVs_one hv
    simp at e
    refine ⟨_, rfl, v, .value v, w, l, .inl rfl, by simp [execOp, hop, e], ?_, rfl, rfl⟩
    exact h.put hd h1
  · cases he

theorem append_done {o : Oper} {a : Act} {c : Call} {xs : List AV} {X' : X} (h : Good w0 w l st a) (hop : o.op = .call c) (hc : c.callee = .builtin .append) (hd : dstOk st.nt o.dst = true)
    (hx : st.opds o.op.operands.toList = some xs) (he : fAppend P st.tok (tdesc P c.argTypes[0]?) (tdesc P c.argTypes[1]?) o.dst xs = some X') : ∃ st', X'.run st o [] = .go st' ∧ OpDone P w0 w l o a st' := by
  have hv := opds_sound h.2 hx
  obtain ⟨callee, args, argTypes⟩ := c
  simp only at hc he
  subst hc
  rw [hop] at hv
  unfold fAppend at he
  split at he
  · rename_i e e2 d f g k ow n cs f' g' k' o' m ds hd1 hd2 hdst
    have hv' : RVs w (cx w0 w l st.tok) [.sl f g k ow n cs, .sl f' g' k' o' m ds] (args.map a.eval).toList := by simpa [Op.operands, Call.operands] using hv
    obtain ⟨v1, v2, e3, r1, r2⟩ := RVs_two hv'
    simp only [RV] at r1 r2
    have hargs : args.map a.eval = #[v1, v2] := by apply Array.ext'; simpa using e3
    obtain ⟨key, x, rfl, v, w', l', q1, q2, q3, q4, q5, q6⟩ := append_ok (ty := o.type) h.1 he hd1 hd2 r1 r2
    refine ⟨_, rfl, v, .value v, w', l', .inl rfl, ?_, ?_, q5, q6⟩
    · simp [execOp, hop, resolve, invoke, builtin, hargs, q1]
    · have g1 : Good w0 w' l' { st with tok := upd st.tok key (n + m, P.cellsOf e) } a := ⟨q2, h.2.mono q3⟩
      exact g1.put hd q4
  · cases he
end Go.Ev
end
