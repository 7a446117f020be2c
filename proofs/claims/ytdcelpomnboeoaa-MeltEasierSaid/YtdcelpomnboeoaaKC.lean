/- Lemmas for the claims of this seat: an evaluator over abstract values, its soundness, and the contracts of the functions of melt that it walks; no premise beyond what each theorem states. -/
import Derived.OrdersIn
import Derived.Test.YtdcelpomnboeoaaKX

section
set_option linter.all false
set_option linter.unusedVariables false
set_option linter.unusedSimpArgs false
namespace Go.Ev
variable {w0 w : World} {l : Lay} {st : St} {P : Program} {Fe : Fence}

/-- Every function, at any depth; a function's frame or a round's. -/
class FW (Fe : Fence) : Prop where
  eq : Fe.plain = Fence.wide
instance : FW Fence.wide := ⟨rfl⟩
instance (l : Nat) : FW (Fence.wide.inRound l) := ⟨rfl⟩
theorem FW.fn (Fe : Fence) [h : FW Fe] (f : FuncId) : Fe.fn f := by
  have : Fe.plain.fn f := by rw [h.eq]; trivial
  exact this
theorem FW.dep (Fe : Fence) [h : FW Fe] {p : Prop} : Fe.depth.isSome = true → p := by
  have : Fe.plain.depth = none := by rw [h.eq]; rfl
  have : Fe.depth = none := this
  rw [this]; intro h; cases h
theorem FW.calls (Fe : Fence) [h : FW Fe] {n : Nat} {f : FuncId} {args : Array Value} {w : World} {R : Ending → World → Prop} (hc : Calls P f args w R) : CallsIn Fe n P f args w R := by
  have : CallsIn Fe.plain n P f args w R := by rw [h.eq]; exact callsIn_wide.2 hc
  exact this
theorem FW.round (Fe : Fence) [h : FW Fe] {n m : Nat} {l : Nat} {f : FuncId} {tmps : Array Value} {assign body : Code} {w : World} {R : Ending → World → Prop} (hc : RoundIn Fence.wide m P l f tmps assign body w R) : RoundIn Fe n P l f tmps assign body w R := by
  have : RoundIn Fe.plain n P l f tmps assign body w R := by rw [h.eq]; exact ⟨trivial, fun c cs _ => hc.2 c cs (room_wide _)⟩
  exact this
theorem FW.op [FW Fe] {o : Oper} {a : Act} {K : Act → World → Prop} {Q : Exit → Act → World → Prop} (hnd : ∀ c, o.op ≠ .defer c) (h : o.uponIn Fe 0 P a K Q ((execOp a.eval o).run P w)) : o.wpIn Fe 0 P a w K Q := by
  refine ⟨fun f _ => FW.fn Fe f, ?_⟩
  rw [Oper.semAt_eq _ _ _ hnd]
  exact h

def pchain (v : Value) : List PanicEntry := [{ v := v, recovered := false }]

theorem Framed.of_MR (h : MR w0 w l st) : Framed w0 w l.be := ⟨h.os, h.tape, h.output, h.size, h.old⟩

/-- What is asked behind an operation. -/
def After (w0 : World) (l : Lay) (df : List Deferred) (G : Act → World → Prop) (K : Act → World → Prop) (Q : Exit → Act → World → Prop) : Res → Prop
  | .go st' => ∀ a' w' l', Good w0 w' l' st' a' → l'.rd = l.rd → l'.be = l.be → a'.defers = df → K a' w'
  | .pan v => ∀ a' w', Framed w0 w' l.be → (∀ D, D ∈ l.rd.d → w'.heap[D]? = some (.deferred (some []))) → a'.defers = df → G a' w' → Q (.panic (pchain v)) a' w'

theorem Good.framed {a : Act} {w' : World} (h : Good w0 w l st a) (hF : Framed w w' []) : Good w0 w' l st a := by
  obtain ⟨hm, he⟩ := h
  obtain ⟨f1, f2, f3, f4, f5⟩ := hF
  have f5 : ∀ b, b < w.heap.size → w'.heap[b]? = w.heap[b]? := fun b hb => f5 b hb (by simp)
  have hdn : ∀ D, D ∈ l.rd.d ++ l.rd.e → w'.heap[D]? = w.heap[D]? := fun D hD => f5 D (hm.fzs.de D hD).2.1
  have hle : Cx.le w (cx w0 w l st.tok) w' (cx w0 w' l st.tok) := cxle_of hm rfl (fun b hb hn => (f5 b (Nat.lt_of_lt_of_le hb hm.size)).trans (hm.old b hb hn))
    (fun b o hb => ⟨⟨hb.1, Nat.lt_of_lt_of_le hb.2.1 f4, hb.2.2⟩, cell_of_heap (f5 b hb.2.1)⟩) (fun _ _ h => h) (fun _ _ _ _ h => h) hdn
  refine ⟨⟨f1.trans hm.os, f2.trans hm.tape, f3.trans hm.output, Nat.le_trans hm.size f4, fun b hb hn => (f5 b (Nat.lt_of_lt_of_le hb hm.size)).trans (hm.old b hb hn), hm.bel, hm.ext, hm.extn, hm.inj, hm.dom, fun r cs hr => ?_, fun r b hr => Nat.lt_of_lt_of_le (hm.rblt r b hr) f4, hm.rbow, hm.owobj, fun b hb => hm.owfree b (Nat.le_trans f4 hb), hm.owold, hm.rdok, fun k b cap hk => ?_, hm.tokinj, hm.fzs.step f4 hdn (fun _ _ h => h) rfl rfl, fun k c z hk => (by
    obtain ⟨a, b, q1, cv, T, q2, q3⟩ := hm.xtd k c z hk
    exact ⟨a, b, q1, cv, T, (f5 b (hm.rblt _ _ q1)).trans q2, q3⟩)⟩, he.mono hle⟩
  · rcases hm.obj r cs hr with e | ⟨b, h1, h2⟩
    · exact .inl e
    · exact .inr ⟨b, h1, h2.mono hle (f5 b (hm.rblt r b h1))⟩
  · obtain ⟨n, z, a1, a2, a3, a4, a5, cv, T, a6, a7⟩ := hm.tokd k b cap hk
    exact ⟨n, z, a1, a2, a3, Nat.lt_of_lt_of_le a4 f4, a5, cv, T, (f5 b a4).trans a6, a7⟩

theorem callFunc_run {f : FuncId} (h : Callable P f) (args : Array Value) (w : World) : (callFunc f args).run P w = .ok (.enter f args) w := by
  obtain ⟨fn, c, h1, h2, h3⟩ := h
  have h3' : ¬ fn.name = "runtime.NumGoroutine" := by simpa using h3
  simp [callFunc, h1, h2, h3']

theorem call_wp {Γ : Gam} {o : Oper} {a : Act} {c : Call} {fo : Operand} {xs : List AV} {os : List (List AV)} {X' : X} (hS : Sound P Γ) (h : Good w0 w l st a) (hop : o.op = .call c) (hc : c.callee = .value fo) (hd : dstOk st.nt o.dst = true)
    (hx : st.opds o.op.operands.toList = some xs) (hos : st.mems (foot st o.op xs) = some os) (he : fCall Γ st.own st.tok (foot st o.op xs) os o.dst xs = some X') (K : Act → World → Prop) (Q : Exit → Act → World → Prop)
    (hK : After w0 l a.defers (fun a' w' => foot st o.op xs = [] → Good w0 w' l st a') K Q (X'.run st o (foot st o.op xs))) [FW Fe] : o.wpIn Fe 0 P a w K Q := by
  have hv := opds_sound h.2 hx
  have hnd : ∀ c, o.op ≠ .defer c := by rw [hop]; intro c hc'; cases hc'
  obtain ⟨callee, args, argTypes⟩ := c
  simp only at hc
  subst hc
  rw [hop] at hv hos hK he
  have hnod := footC_nodup (st := st) (xs := xs)
  generalize hrs : foot st (.call ⟨.value fo, args, argTypes⟩) xs = rs at *
  have hn : rs.Nodup := by rw [← hrs]; exact hnod
  clear hnod
  -- behind the call
  have fin : ∀ (f : FuncId) (ys : List AV) (vs : List Value) (d : Nat) (be : List Nat) (out : Out), ((rs.all fun r => match r with | .own k => (st.tok (XK k)).isNone | .ext _ => true) = true ∧ (os.all fun cs => !cs.isEmpty) = true) → o.dst = some d → (∀ (i b : Nat), be[i]? = some b ↔ ∃ r, rs[i]? = some r ∧ l.rb r = some b) →
      fBack st.own st.tok rs d os.length (some out) = some X' → ∀ e w', OutR w (rdAt w0 w l st.tok) be out e w' → (match e, w' with
        | .returned v, w'' => K (a.put o.dst v) w''
        | .panicked chain, w'' => Q (.panic chain) a w''
        | .outgrown, _ => LetsOut Q) := by
    intro f ys vs d be out hcc hdst hbe he e w' hout
    cases out with
    | ret r ext own =>
      simp only [OutR] at hout
      obtain ⟨v, ob, rfl, hR⟩ := hout
      simp only [fBack] at he
      split at he
      · rename_i hcond
        cases he
        obtain ⟨l', g1, g2, g3, g4⟩ := call_post h hn hos hbe hR (d := d) (fun p hp => by
          have := List.all_eq_true.1 hcond.2 p hp
          simpa using this) (fun cs hcs e => by have := List.all_eq_true.1 hcc.2 cs hcs; rw [e] at this; cases this) (fun k hk => by have := List.all_eq_true.1 hcc.1 _ hk; simpa using this)
        simp only [X.run, Option.getD_some] at hK
        refine hK _ _ l' ?_ g3 g4 ?_
        · have hstd : dstOk st.nt o.dst = true := hd
          obtain ⟨hol, hog⟩ := mems_get hos
          have sp := (setAll_spec rs (ext.map (mapRefL (refBack rs (d + 1)))) st hn (by
            have := hcond.1
            rw [List.length_map, this, hol]) (fun r' hr' => by
            obtain ⟨i, hi, rfl⟩ := List.mem_iff_getElem.1 hr'
            obtain ⟨cs, _, h2⟩ := hog i _ (List.getElem?_eq_getElem hi)
            exact ⟨cs, h2⟩)).2.2.2
          refine g1.put (by simp only [sp.2.1]; exact hd) ?_
          simp only [sp.1]
          exact g2
        · cases o.dst <;> rfl
      · cases he
    | rtok k n z cs =>
      simp only [OutR] at hout
      obtain ⟨ad, cap, rfl, hF, hcap, hT⟩ := hout
      simp only [fBack] at he
      split at he
      · rename_i hcond
        cases he
        have hbe0 : be = [] := by
          cases hb : be with
          | nil => rfl
          | cons b bs =>
            obtain ⟨r', hr, _⟩ := (hbe 0 b).1 (by rw [hb]; rfl)
            have := (mems_get hos).1
            rw [hcond.1] at this
            have hrs0 : rs = [] := List.length_eq_zero_iff.1 this.symm
            rw [hrs0] at hr; cases hr
        subst hbe0
        obtain ⟨l', g1, g2, g3, g4⟩ := call_tok h hcond.2 hF hcap hT
        simp only [X.run] at hK
        refine hK _ _ l' ?_ g3 g4 ?_
        · exact g1.put hd g2
        · cases o.dst <;> rfl
      · cases he
    | pan x =>
      simp only [OutR] at hout
      obtain ⟨rfl, hF⟩ := hout
      simp only [fBack] at he
      cases he
      simp only [X.run] at hK
      refine hK _ _ ?_ (fun D hD => ?_) rfl (fun hrs0 => ?_)
      rotate_left
      · have h4 := h.1.fzs.d D hD
        rw [hF.old D h4.2.1 (fun hbe' => ?_)]
        · exact h4.2.2.2
        · obtain ⟨i, hi, hib⟩ := List.mem_iff_getElem.1 hbe'
          obtain ⟨r', hr, hrb⟩ := (hbe i D).1 (by rw [List.getElem?_eq_getElem hi, hib])
          cases r' with
          | own k => have := (h.1.rbow k D hrb).2; rw [h4.2.2.1] at this; cases this
          | ext i => have := h.1.ext i; rw [hrb] at this; exact absurd (h.1.bel _ (List.mem_of_getElem? this.symm)) (Nat.not_lt.2 h4.1)
      · have hbe0 : be = [] := by
          cases hb : be with
          | nil => rfl
          | cons b bs =>
            obtain ⟨r', hr, _⟩ := (hbe 0 b).1 (by rw [hb]; rfl)
            rw [hrs0] at hr; cases hr
        subst hbe0
        exact h.framed hF
      obtain ⟨f1, f2, f3, f4, f5⟩ := hF
      refine ⟨f1.trans h.1.os, f2.trans h.1.tape, f3.trans h.1.output, Nat.le_trans h.1.size f4, fun b hb hnb => ?_⟩
      rw [f5 b (Nat.lt_of_lt_of_le hb h.1.size) (fun hbe' => ?_)]
      · exact h.1.old b hb hnb
      · obtain ⟨i, hi, hib⟩ := List.mem_iff_getElem.1 hbe'
        obtain ⟨r', hr, hrb⟩ := (hbe i b).1 (by rw [List.getElem?_eq_getElem hi, hib])
        cases r' with
        | own k => exact absurd (h.1.rbow k b hrb).1 (Nat.not_le.2 hb)
        | ext i => have := h.1.ext i; rw [hrb] at this; exact hnb (List.mem_of_getElem? this.symm)
  unfold fCall at he
  split at he
  · rename_i d fid cap ys hdst
    have hv' : RVs w (cx w0 w l st.tok) (.fn fid cap :: ys) (a.eval fo :: (args.map a.eval).toList) := by simpa [Op.operands, Call.operands] using hv
    have hv2 := hv'
    simp only [RVs] at hv2
    obtain ⟨vf, rest, e1, h1, h2⟩ := hv2
    simp only [List.cons.injEq] at e1
    obtain ⟨e1, e2⟩ := e1
    subst e1 e2
    simp only [RV] at h1
    obtain ⟨vc, hvf, h3⟩ := h1
    have hall : RVs w (cx w0 w l st.tok) (ys ++ cap) ((args.map a.eval).toList ++ vc) := h2.append h3
    split at he
    · cases he
    rename_i hfid
    unfold fCallAs at he
    split at he
    case isFalse => cases he
    rename_i hcc
    obtain ⟨be, hbe, hpre⟩ := call_pre h.1 hn hos hall (fun cs hcs e => by have := List.all_eq_true.1 hcc.2 cs hcs; rw [e] at this; cases this)
    cases hΓ : Γ fid (mapRefL (refIdx rs) (asArgL (ys ++ cap))) (os.map fun cs => mapRefL (refIdx rs) (asObjL cs)) with
    | none => rw [hΓ] at he; simp [fBack] at he
    | some out =>
      rw [hΓ] at he
      have hAC := hS _ _ _ _ hΓ
      unfold ACalls at hAC
      rw [if_neg hfid] at hAC
      · obtain ⟨hcall, hA⟩ := hAC
        have hcalls := hA w _ be ((args.map a.eval).toList ++ vc).toArray (by simpa using hpre)
        have hrun : (execOp a.eval o).run P w = .ok (.enter fid ((args.map a.eval).toList ++ vc).toArray) w := by
          have e3 : args.map a.eval ++ vc.toArray = ((args.map a.eval).toList ++ vc).toArray := by apply Array.ext'; simp
          simp only [execOp, hop, resolve, hvf, Deferred.ofValue, Sem.run_bind, Sem.run_pure, Result.andThen_ok, invoke, Array.empty_append]
          rw [e3, callFunc_run hcall]
        refine FW.op hnd ?_
        rw [hrun]
        refine ⟨FW.dep Fe, (FW.calls Fe hcalls).mono fun e w' hout => ?_⟩
        have := fin fid ys vc d be out hcc hdst hbe he e w' hout
        cases e <;> exact this
  · rename_i d l' G rs' ys hdst
    have hv' : RVs w (cx w0 w l st.tok) (.yl l' G rs' :: ys) (a.eval fo :: (args.map a.eval).toList) := by simpa [Op.operands, Call.operands] using hv
    have hv2 := hv'
    simp only [RVs] at hv2
    obtain ⟨vf, rest, e1, h1, h2⟩ := hv2
    simp only [List.cons.injEq] at e1
    obtain ⟨e1, e2⟩ := e1
    subst e1 e2
    have hall : RVs w (cx w0 w l st.tok) (ys ++ [.yl l' G rs']) ((args.map a.eval).toList ++ [a.eval fo]) := h2.append (by simp only [RVs]; exact ⟨_, _, rfl, h1, rfl⟩)
    unfold fCallAs at he
    split at he
    case isFalse => cases he
    rename_i hcc
    obtain ⟨be, hbe, hpre⟩ := call_pre h.1 hn hos hall (fun cs hcs e => by have := List.all_eq_true.1 hcc.2 cs hcs; rw [e] at this; cases this)
    cases hΓ : Γ YID (mapRefL (refIdx rs) (asArgL (ys ++ [.yl l' G rs']))) (os.map fun cs => mapRefL (refIdx rs) (asObjL cs)) with
    | none => rw [hΓ] at he; simp [fBack] at he
    | some out =>
      rw [hΓ] at he
      have hAC := hS _ _ _ _ hΓ
      unfold ACalls at hAC
      rw [if_pos rfl] at hAC
      have hAC := hAC.resolve_left fun ⟨d0, e0⟩ => by
        rw [mapRefL_eq, asArgL_eq] at e0
        have hl0 := congrArg List.getLast? e0
        simp only [List.map_append, List.map_cons, List.map_nil, AV.asArg, AV.mapRef, List.getLast?_append, List.getLast?_singleton, Option.some_or, Option.some.injEq] at hl0
        cases hm0 : mapRs (refIdx rs) rs' with
        | none => rw [hm0] at hl0; simp [ylOf] at hl0
        | some q => rw [hm0] at hl0; simp [ylOf] at hl0
      obtain ⟨xs2, l2, G2, rs2, hargs, hA⟩ := hAC
      have hargs2 : mapRefL (refIdx rs) (asArgL ys) ++ [ylOf l' G (mapRs (refIdx rs) rs')] = xs2 ++ [.yl l2 G2 rs2] := by
        rw [← hargs, mapRefL_eq, asArgL_eq, mapRefL_eq, asArgL_eq]
        simp [AV.asArg, AV.mapRef]
      obtain ⟨hx1, hx2⟩ := List.append_inj' hargs2 rfl
      have hl2 : l2 = l' := by
        cases hm : mapRs (refIdx rs) rs' with
        | none => rw [hm] at hx2; simp [ylOf] at hx2
        | some q => rw [hm] at hx2; simp [ylOf] at hx2; exact hx2.1.symm
      subst hl2
      have hlen : (args.map a.eval).toList.length = xs2.length := by
        rw [← hx1, mapRefL_eq, asArgL_eq, List.length_map, List.length_map]
        exact h2.length
      obtain ⟨fn, tmps, assign, body, hy, hround⟩ := hA w _ be _ _ hpre hlen
      simp only [RV] at h1
      have hrun : (execOp a.eval o).run P w = .ok (.round l2 fn tmps assign body) w := by
        simp only [execOp, hop, resolve, h1.1, Deferred.ofValue, Sem.run_bind, Sem.run_pure, Result.andThen_ok, invoke, Array.empty_append, Array.append_empty]
        have e3 : (args.map a.eval).toList.toArray = args.map a.eval := by apply Array.ext'; rfl
        rw [e3] at hy
        exact hy
      refine FW.op hnd ?_
      rw [hrun]
      refine ⟨FW.dep Fe, (FW.round Fe hround).mono fun e w' hout => ?_⟩
      have := fin YID ys [] d be out hcc hdst hbe he e w' hout
      cases e <;> exact this
  · cases he

theorem nd_of_exec {o : Oper} {xs : List AV} {os : List (List AV)} {x : AV} (h : execQ P o.op xs os = some x) : ∀ c, o.op ≠ .defer c := by
  intro c hc
  rw [hc] at h
  cases h
theorem OpDone.wp [FW Fe] {o : Oper} {a : Act} {st' : St} (hnd : ∀ c, o.op ≠ .defer c) (h : ∃ v n w' l', (n = .value v ∨ (n = .skip ∧ v = undef)) ∧ (execOp a.eval o).run P w = .ok n w' ∧ Good w0 w' l' st' (a.put o.dst v) ∧ l'.rd = l.rd ∧ l'.be = l.be)
    (K : Act → World → Prop) (Q : Exit → Act → World → Prop) (hK : ∀ a' w' l', Good w0 w' l' st' a' → l'.rd = l.rd → l'.be = l.be → a'.defers = a.defers → K a' w') : o.wpIn Fe 0 P a w K Q := by
  obtain ⟨v, n, w', l', hn, hr, hg, h1, h2⟩ := h
  refine FW.op hnd ?_
  rw [hr]
  have hk := hK _ w' l' hg h1 h2 (by cases o.dst <;> rfl)
  rcases hn with rfl | ⟨rfl, rfl⟩
  · exact hk
  · exact hk

theorem stepRun_wp [FW Fe] {Γ : Gam} {o : Oper} {a : Act} {r : Res} (hS : Sound P Γ) (h : Good w0 w l st a) (hd : dstOk st.nt o.dst = true) (he : stepRun P Γ st o = some r) (K : Act → World → Prop) (Q : Exit → Act → World → Prop)
    (hK : After w0 l a.defers (fun a' w' => (∀ xs, st.opds o.op.operands.toList = some xs → foot st o.op xs = []) → Good w0 w' l st a') K Q r) : o.wpIn Fe 0 P a w K Q := by
  unfold stepRun at he
  obtain ⟨xs, hx, he⟩ := bnd_eq he
  obtain ⟨os, hos, he⟩ := bnd_eq he
  split at he
  · rename_i hh
    obtain ⟨X', hex, he⟩ := bnd_eq he
    cases he
    obtain ⟨st', h1, h2⟩ := hint_done (P := P) (Γ := Γ) (F := foot st o.op xs) h hd hx hex
    refine OpDone.wp (fun c hc => ?_) h2 K Q (by rw [h1] at hK; exact hK)
    rw [hc] at hex; cases hex
  split at he
  · rename_i hq
    obtain ⟨x, hex, he⟩ := bnd_eq he
    cases he
    exact OpDone.wp (nd_of_exec hex) (quiet_done h hq hd hx hos hex) K Q hK
  · rename_i hq
    obtain ⟨X', hex, he⟩ := bnd_eq he
    cases he
    have nofoot : ∀ {st' : St}, X'.run st o [] = .go st' → foot st o.op xs = [] → After w0 l a.defers (fun a' w' => (∀ xs, st.opds o.op.operands.toList = some xs → foot st o.op xs = []) → Good w0 w' l st a') K Q (X'.run st o (foot st o.op xs)) → ∀ a' w' l', Good w0 w' l' st' a' → l'.rd = l.rd → l'.be = l.be → a'.defers = a.defers → K a' w' := by
      intro st' h1 h2 h3
      rw [h2, h1] at h3
      exact h3
    cases hop : o.op with
    | assign y =>
      rw [hop] at hex
      obtain ⟨st', h1, h2⟩ := assign_done (P := P) h hop hd hx hex
      exact OpDone.wp (by rw [hop]; intro c hc'; cases hc') h2 K Q (nofoot h1 (by rw [hop]; rfl) hK)
    | alloc t =>
      rw [hop] at hex
      obtain ⟨st', h1, h2⟩ := alloc_done (P := P) h hop hd hex
      exact OpDone.wp (by rw [hop]; intro c hc'; cases hc') h2 K Q (nofoot h1 (by rw [hop]; rfl) hK)
    | box t y =>
      rw [hop] at hex
      obtain ⟨st', h1, h2⟩ := box_done (P := P) h hop hd hx hex
      exact OpDone.wp (by rw [hop]; intro c hc'; cases hc') h2 K Q (nofoot h1 (by rw [hop]; rfl) hK)
    | store t y z =>
      rw [hop] at hex
      obtain ⟨st', h1, h2⟩ := store_done (P := P) h hop hd hx hos hex
      exact OpDone.wp (by rw [hop]; intro c hc'; cases hc') h2 K Q (by rw [h1] at hK; exact hK)
    | panic y =>
      rw [hop] at hex
      have hv := opds_sound h.2 hx
      rw [hop] at hv
      simp only [Op.operands, List.map_cons, List.map_nil] at hv
      simp only [execF] at hex
      unfold fPanic at hex
      split at hex
      · rename_i t _ _
        cases hex
        obtain ⟨v, e, h1⟩ := RVs_one hv
        simp only [RV, RVs] at h1
        obtain ⟨u, rfl, vs, rfl, rfl⟩ := h1
        simp only [List.cons.injEq, and_true] at e
        have hk : Q (.panic (pchain (.iface t (.agg #[])))) a w := hK a w (Framed.of_MR h.1) (fun D hD => (h.1.fzs.d D hD).2.2.2) rfl (fun _ => h)
        refine FW.op (by rw [hop]; intro c hc'; cases hc') ?_
        have hrun : (execOp a.eval o).run P w = .halt (.panic (.iface t (.agg #[]))) w := by
          simp [execOp, hop, e, Instr.panic, goPanic, Sem.run]
        rw [hrun]
        exact hk
      · cases hex
    | call c =>
      rw [hop] at hex
      simp only [execF] at hex
      split at hex
      · rename_i hc
        split at hex
        · obtain ⟨st', h1, h2⟩ := copy_done (P := P) (F := foot st o.op xs) h hop hc hd hx hex
          exact OpDone.wp (by rw [hop]; intro c hc'; cases hc') h2 K Q (by rw [h1] at hK; exact hK)
        split at hex
        · obtain ⟨st', h1, h2⟩ := grow_done (P := P) (F := foot st o.op xs) h hop hc hd hx hex
          exact OpDone.wp (by rw [hop]; intro c hc'; cases hc') h2 K Q (by rw [h1] at hK; exact hK)
        obtain ⟨st', h1, h2⟩ := append_done (P := P) h hop hc hd hx hex
        exact OpDone.wp (by rw [hop]; intro c hc'; cases hc') h2 K Q (nofoot h1 (by rw [hop]; simp [foot, hc]) hK)
      · rename_i fo hc
        refine call_wp hS h hop hc hd hx hos (by rw [hop]; exact hex) K Q ?_
        cases hr : X'.run st o (foot st o.op xs) with
        | go s1 => rw [hr] at hK; exact hK
        | pan v =>
          rw [hr] at hK
          intro a' w' q1 q2 q3 q4
          exact hK a' w' q1 q2 q3 (fun hall => q4 (hall xs hx))
      · cases hex
    | _ => rw [hop] at hex; cases hex

theorem stepOp_wp [FW Fe] {Γ : Gam} {ops : Array Oper} {i : Nat} {o : Oper} {a : Act} {r : Res} (hS : Sound P Γ) (h : Good w0 w l st a) (ho : ops[i]? = some o) (he : stepOp P Γ ops.toList st o = some r) (K : Act → World → Prop) (Q : Exit → Act → World → Prop)
    (hK : After w0 l a.defers (fun a' w' => (∀ xs, st.opds o.op.operands.toList = some xs → foot st o.op xs = []) → Good w0 w' l st a') K Q r) : wpOpIn Fe 0 P ops Q i K a w := by
  unfold wpOpIn
  simp only [ho]
  unfold stepOp at he
  split at he
  case isFalse => cases he
  rename_i hd
  split at he
  · rename_i hg
    simp only [Region.wanted, hg, if_true]
    exact stepRun_wp hS h hd he K Q hK
  · rename_i j wt hg
    obtain ⟨x, hx, he1⟩ := bnd_eq he
    obtain ⟨b, hb, he2⟩ := bnd_eq he1
    clear he he1
    have hy : yielded ops a.tmps j = b := by
      unfold guardOf at hx
      split at hx
      · rename_i o2 ho2
        split at hx
        · rename_i d hd2
          obtain ⟨h1, h2⟩ := h.2.2 d x hx
          unfold bit at hb
          split at hb
          · cases hb
            simp only [RV] at h2
            have ho3 : ops[j]? = some o2 := by rw [← Array.getElem?_toList]; exact ho2
            have hsz : d < a.tmps.size := by rw [h.2.1]; exact h1
            rename_i vv
            have : a.tmps[d]? = some vv := by
              rw [Array.getElem?_eq_getElem hsz]
              simpa [Array.getD_eq_getD_getElem?, hsz] using h2
            simp only [yielded, ho3, Option.bind_some, hd2, this]
            cases vv <;> rfl
          · cases hb
        · cases hx
      · cases hx
    simp only [Region.wanted, hg, hy]
    unfold guarded at he2
    split at he2
    · rename_i hbw
      subst hbw
      simp only [beq_self_eq_true, if_true]
      exact stepRun_wp hS h hd he2 K Q hK
    · rename_i hbw
      cases he2
      have : (b == some wt) = false := by simpa using hbw
      simp only [this, Bool.false_eq_true, if_false]
      exact ⟨fun f _ => FW.fn Fe f, hK _ _ l (h.put hd (by simp [RV, undef])) rfl rfl (by cases o.dst <;> rfl)⟩

/-- The marks of this frame's loops over functions, as they stand among its deferred calls. -/
def mks (d : List Nat) : List Deferred := d.map fun D => { target := .collected D, args := #[] }
/-- What is asked behind a piece of code. -/
def PostE (w0 : World) (rd : Rd) (be : List Nat) (df : List Deferred) (Q : Exit → Act → World → Prop) : Ex → St → Prop
  | .pan v, _ => ∀ a w d, Framed w0 w be → (∀ D, D ∈ d → w0.heap.size ≤ D ∧ w.heap[D]? = some (.deferred (some []))) → d.Nodup → a.defers = mks d ++ df → Q (.panic (pchain v)) a w
  | .normal, st => ∀ a w l d, Good w0 w l st a → l.rd = { rd with d := d } → l.be = be → a.defers = mks d ++ df → Q .normal a w
  | .exit id, st => ∀ a w l d, Good w0 w l st a → l.rd = { rd with d := d } → l.be = be → a.defers = mks d ++ df → Q (.exit id) a w
  | .ret, st => ∀ a w l d, Good w0 w l st a → l.rd = { rd with d := d } → l.be = be → a.defers = mks d ++ df → Q .ret a w

theorem runOps_wp [FW Fe] {Γ : Gam} {ops : Array Oper} (hS : Sound P Γ) {Q : Exit → Act → World → Prop} {rd : Rd} {be : List Nat} {df : List Deferred} {dl : List Nat} : ∀ (rest : List Oper) (k : Nat) (st : St) (w : World) (l : Lay) (a : Act) (e : Ex) (st' : St),
    (∀ j, rest[j]? = ops[k + j]?) → runOps P Γ ops.toList rest st = some (e, st') → Good w0 w l st a → l.rd = { rd with d := dl } → l.be = be → a.defers = mks dl ++ df → PostE w0 rd be df Q e st' →
    wpOpsIn Fe 0 P ops Q (List.range' k rest.length) a w
  | [], k, st, w, l, a, e, st', _, h, hg, h1, h2, h3, hP => by
    simp only [runOps, Option.some.injEq, Prod.mk.injEq] at h
    obtain ⟨rfl, rfl⟩ := h
    simp only [List.length_nil, List.range'_zero, wpOpsIn]
    exact hP a w l dl hg h1 h2 h3
  | o :: rest, k, st, w, l, a, e, st', hi, h, hg, h1, h2, h3, hP => by
    simp only [runOps] at h
    obtain ⟨r, hr, h⟩ := bnd_eq h
    have ho : ops[k]? = some o := by have := hi 0; simp at this; exact this.symm
    simp only [List.length_cons, List.range'_succ]
    rw [wpOpsIn_cons]
    refine stepOp_wp hS hg ho hr _ Q ?_
    cases r with
    | go st1 =>
      simp only [Res.next] at h
      intro a' w' l' g1 g2 g3 g4
      exact runOps_wp hS rest (k + 1) st1 w' l' a' e st' (fun j => by have := hi (j + 1); simp at this; rw [this]; congr 1; omega) h g1 (g2.trans h1) (g3.trans h2) (g4.trans h3) hP
    | pan v =>
      simp only [Res.next, Option.some.injEq, Prod.mk.injEq] at h
      obtain ⟨rfl, rfl⟩ := h
      intro a' w' hF hD hdf _
      have e : l.rd.d = dl := by rw [h1]
      exact hP a' w' dl (h2 ▸ hF) (fun D hd => ⟨(hg.1.fzs.d D (by rw [e]; exact hd)).1, hD D (by rw [e]; exact hd)⟩) (by rw [← e]; exact hg.1.fzs.nd) (hdf.trans h3)

theorem region_wp [FW Fe] {Γ : Gam} {id : Nat} {ops : Array Oper} (hS : Sound P Γ) {Q : Exit → Act → World → Prop} {a : Act} {e : Ex} {st' : St} {df : List Deferred} (hg : Good w0 w l st a) (hdf : a.defers = mks l.rd.d ++ df) (h : runOps P Γ ops.toList ops.toList st = some (e, st'))
    (hP : PostE w0 l.rd l.be df Q e st') : (Code.region id ops false).wpIn Fe 0 P Q a w := by
  refine wpIn_region ?_
  rw [List.range_eq_range']
  have := runOps_wp (Fe := Fe) (ops := ops) hS (Q := Q) ops.toList 0 st w l a e st' (fun j => by simp) h hg rfl rfl hdf hP
  simpa using this
end Go.Ev
end

section
set_option linter.all false
set_option linter.unusedVariables false
set_option linter.unusedSimpArgs false
namespace Go.Ev
variable {w0 w : World} {l : Lay} {st : St} {P : Program}

/-! ### A state of which less is told -/
def smOk (T : Nat → Bool) : Own → Bool
  | .grw k _ => T (XK k)
  | _ => true
mutual
/-- All names in a value are among these. -/
def AV.okIn (R : Ref → Bool) (T : Nat → Bool) : AV → Bool
  | .sl _ _ _ o _ _ => match o with | .tok k => T k | _ => true
  | .sm r _ o => R r && smOk T o
  | .ptr r _ => R r
  | .fn _ cap => okInL R T cap
  | .ifc _ x => x.okIn R T
  | .agg cs => okInL R T cs
  | .tup xs => okInL R T xs
  | .yl _ _ rs => rs.all R
  | _ => true
def okInL (R : Ref → Bool) (T : Nat → Bool) : List AV → Bool
  | [] => true
  | x :: r => x.okIn R T && okInL R T r
end

mutual
theorem RV.okIn {c c' : Cx} {R : Ref → Bool} {T : Nat → Bool} (him : ∀ f b o, c.im f b o → c'.im f b o) (hr : ∀ r b, R r = true → c.rb r = some b → c'.rb r = some b) (ht : ∀ k n a cap, T k = true → c.tc k n a cap → c'.tc k n a cap) (hz : ∀ b L, c.fz b → w.heap[b]? = some (.loop L) → c'.fz b) (hx : ∀ k z cap, T (XK k) = true → R (.own k) = true → c.xc k z cap → c'.xc k z cap) :
    ∀ (x : AV) (v : Value), x.okIn R T = true → RV w c x v → RV w c' x v
  | .s x, v, _, hv => by simpa [RV] using hv
  | .sl f g k o n cs, v, hok, hv => by
    simp only [RV] at hv ⊢
    obtain ⟨a, cap, h1, h2, h3, h4⟩ := hv
    refine ⟨a, cap, h1, h2, ?_, ?_⟩
    · cases a with
      | none => exact h3
      | some ad => exact ⟨h3.1, h3.2.1, RDs.mono (him _) (fun _ _ _ => rfl) (him _) (fun _ _ _ => rfl) _ _ _ h3.2.2⟩
    · cases o with
      | no => trivial
      | full => exact h4
      | tok key => exact ht _ _ _ _ hok h4
      | grw _ _ => exact h4.elim
  | .sm r n o, v, hok, hv => by
    simp only [AV.okIn, Bool.and_eq_true] at hok
    simp only [RV] at hv ⊢
    obtain ⟨a, cap, h1, h2, h3, h4⟩ := hv
    refine ⟨a, cap, h1, h2, h3.imp (fun ⟨b, x, y⟩ => ⟨b, hr _ _ hok.1 x, y⟩) id, ?_⟩
    cases o with
    | no => trivial
    | full => exact h4.elim
    | tok _ => exact h4.elim
    | grw k z => exact ⟨h4.1, hx k z cap hok.2 (by rw [← h4.1]; exact hok.1) h4.2⟩
  | .ptr r off, v, hok, hv => by simp only [RV] at hv ⊢; obtain ⟨b, h1, h2⟩ := hv; exact ⟨b, hr _ _ hok h1, h2⟩
  | .pv f g cs, v, _, hv => by simp only [RV] at hv ⊢; obtain ⟨b, o, h1, h2⟩ := hv; exact ⟨b, o, h1, RDs.mono (him _) (fun _ _ _ => rfl) (him _) (fun _ _ _ => rfl) _ _ _ h2⟩
  | .fn f cap, v, hok, hv => by simp only [RV] at hv ⊢; obtain ⟨vs, h1, h2⟩ := hv; exact ⟨vs, h1, RVs.okIn him hr ht hz hx cap vs hok h2⟩
  | .ifc t x, v, hok, hv => by simp only [RV] at hv ⊢; obtain ⟨y, h1, h2⟩ := hv; exact ⟨y, h1, RV.okIn him hr ht hz hx x y hok h2⟩
  | .agg cs, v, hok, hv => by simp only [RV] at hv ⊢; obtain ⟨vs, h1, h2⟩ := hv; exact ⟨vs, h1, RVs.okIn him hr ht hz hx cs vs hok h2⟩
  | .tup xs, v, hok, hv => by simp only [RV] at hv ⊢; obtain ⟨vs, h1, h2⟩ := hv; exact ⟨vs, h1, RVs.okIn him hr ht hz hx xs vs hok h2⟩
  | .junk, _, _, _ => by simp [RV]
  | .yl l G rs, v, hok, hv => by
    simp only [RV, AV.okIn, List.all_eq_true] at hok hv ⊢
    exact ⟨hv.1, hz _ _ hv.2.fz hv.2.lp, hv.2.lp, fun b o hb => ⟨him _ _ _ (hv.2.rd b o hb).1, (hv.2.rd b o hb).2⟩, hv.2.rs.imp fun r hr2 b => hr r b (hok r hr2)⟩
theorem RVs.okIn {c c' : Cx} {R : Ref → Bool} {T : Nat → Bool} (him : ∀ f b o, c.im f b o → c'.im f b o) (hr : ∀ r b, R r = true → c.rb r = some b → c'.rb r = some b) (ht : ∀ k n a cap, T k = true → c.tc k n a cap → c'.tc k n a cap) (hz : ∀ b L, c.fz b → w.heap[b]? = some (.loop L) → c'.fz b) (hx : ∀ k z cap, T (XK k) = true → R (.own k) = true → c.xc k z cap → c'.xc k z cap) :
    ∀ (xs : List AV) (vs : List Value), okInL R T xs = true → RVs w c xs vs → RVs w c' xs vs
  | [], vs, _, hv => by simpa [RVs] using hv
  | x :: xs, vs, hok, hv => by
    simp only [okInL, Bool.and_eq_true] at hok
    simp only [RVs] at hv ⊢
    obtain ⟨v, r, h1, h2, h3⟩ := hv
    exact ⟨v, r, h1, RV.okIn him hr ht hz hx x v hok.1 h2, RVs.okIn him hr ht hz hx xs r hok.2 h3⟩
end

mutual
/-- x tells no more than y; V: the tokens that are new, and how long they are. -/
inductive AVle (V : Nat → Option Nat) : AV → AV → Prop
  | same (x : AV) : AVle V x x
  | junk (y : AV) : AVle V .junk y
  | sl {f g f' g' : Bool} {k k' : Knd} {o o' : Own} {n : Nat} {cs : List D} (hf : f' = true → f = true) (hg : g' = true → g = true) (hk : k' = k ∨ k' = .U ∨ (k' = .Z ∧ n ≠ 0)) (ho : o' = o ∨ o' = .no ∨ ∃ d, o = .full ∧ o' = .tok d ∧ V d = some n) : AVle V (.sl f' g' k' o' n cs) (.sl f g k o n cs)
  | sm {r : Ref} {n : Nat} {o o' : Own} (ho : o' = o ∨ o' = .no) : AVle V (.sm r n o') (.sm r n o)
  | agg {xs ys : List AV} (h : AVles V xs ys) : AVle V (.agg xs) (.agg ys)
  | tup {xs ys : List AV} (h : AVles V xs ys) : AVle V (.tup xs) (.tup ys)
  | ifc {t : TypeId} {x y : AV} (h : AVle V x y) : AVle V (.ifc t x) (.ifc t y)
inductive AVles (V : Nat → Option Nat) : List AV → List AV → Prop
  | nil : AVles V [] []
  | cons {x y : AV} {xs ys : List AV} (h : AVle V x y) (t : AVles V xs ys) : AVles V (x :: xs) (y :: ys)
end

section
variable {V : Nat → Option Nat}
mutual
theorem AVle.sound {c c' : Cx} {R : Ref → Bool} {T : Nat → Bool} (him : ∀ f b o, c.im f b o → c'.im f b o) (hi : ∀ f b o, c'.im f b o → c'.im false b o) (hr : ∀ r b, R r = true → c.rb r = some b → c'.rb r = some b)
    (ht : ∀ k n a cap, T k = true → c.tc k n a cap → c'.tc k n a cap) (hV : ∀ d n a, V d = some n → c'.tc d n a n) (hz : ∀ b L, c.fz b → w.heap[b]? = some (.loop L) → c'.fz b) (hx : ∀ k z cap, T (XK k) = true → R (.own k) = true → c.xc k z cap → c'.xc k z cap) : ∀ {x y : AV}, AVle V x y → ∀ {v : Value}, x.okIn R T = true → RV w c y v → RV w c' x v
  | _, _, .same x, v, hok, hv => RV.okIn him hr ht hz hx x v hok hv
  | _, _, .junk _, v, _, hv => by simp [RV]
  | .sl f' g' k' o' n cs, .sl f g k o _ _, .sl hf hg hk ho, v, hok, hv => by
    simp only [RV] at hv ⊢
    obtain ⟨a, cap, h1, h2, h3, h4⟩ := hv
    have e : ∀ (x y : Bool), (y = true → x = true) → ∀ b o, c.im x b o → c'.im y b o := fun x y hxy b o h => by
      have h := him x b o h
      cases y with
      | false => exact hi x b o h
      | true => rw [hxy rfl] at h; exact h
    refine ⟨a, cap, h1, h2, ?_, ?_⟩
    · cases a with
      | none => exact ⟨h3.1, h3.2.1, h3.2.2.1, by rcases hk with rfl | rfl | ⟨rfl, _⟩; exact h3.2.2.2; simp; simp⟩
      | some ad => exact ⟨h3.1, by rcases hk with rfl | rfl | ⟨rfl, hn⟩; exact h3.2.1; simp; exact fun _ => hn, RDs.mono (e _ _ hf) (fun _ _ _ => rfl) (e _ _ hg) (fun _ _ _ => rfl) _ _ _ h3.2.2⟩
    · rcases ho with rfl | rfl | ⟨d, rfl, rfl, hd⟩
      · cases o' with
        | no => trivial
        | full => exact h4
        | tok key => exact ht _ _ _ _ hok h4
        | grw _ _ => exact h4.elim
      · trivial
      · have : cap = n := h4
        subst this
        exact hV d _ a hd
  | .sm r n o', .sm _ _ o, .sm ho, v, hok, hv => by
    simp only [AV.okIn, Bool.and_eq_true] at hok
    simp only [RV] at hv ⊢
    obtain ⟨a, cap, h1, h2, h3, h4⟩ := hv
    refine ⟨a, cap, h1, h2, h3.imp (fun ⟨b, x, y⟩ => ⟨b, hr _ _ hok.1 x, y⟩) id, ?_⟩
    rcases ho with rfl | rfl
    · cases o' with
      | no => trivial
      | full => exact h4.elim
      | tok _ => exact h4.elim
      | grw k z => exact ⟨h4.1, hx k z cap hok.2 (by rw [← h4.1]; exact hok.1) h4.2⟩
    · trivial
  | _, _, .agg h, v, hok, hv => by
    simp only [RV] at hv ⊢
    obtain ⟨vs, h1, h2⟩ := hv
    exact ⟨vs, h1, h.sound him hi hr ht hV hz hx hok h2⟩
  | _, _, .tup h, v, hok, hv => by
    simp only [RV] at hv ⊢
    obtain ⟨vs, h1, h2⟩ := hv
    exact ⟨vs, h1, h.sound him hi hr ht hV hz hx hok h2⟩
  | _, _, .ifc h, v, hok, hv => by
    simp only [RV] at hv ⊢
    obtain ⟨y, h1, h2⟩ := hv
    exact ⟨y, h1, h.sound him hi hr ht hV hz hx hok h2⟩
theorem AVles.sound {c c' : Cx} {R : Ref → Bool} {T : Nat → Bool} (him : ∀ f b o, c.im f b o → c'.im f b o) (hi : ∀ f b o, c'.im f b o → c'.im false b o) (hr : ∀ r b, R r = true → c.rb r = some b → c'.rb r = some b)
    (ht : ∀ k n a cap, T k = true → c.tc k n a cap → c'.tc k n a cap) (hV : ∀ d n a, V d = some n → c'.tc d n a n) (hz : ∀ b L, c.fz b → w.heap[b]? = some (.loop L) → c'.fz b) (hx : ∀ k z cap, T (XK k) = true → R (.own k) = true → c.xc k z cap → c'.xc k z cap) : ∀ {xs ys : List AV}, AVles V xs ys → ∀ {vs : List Value}, okInL R T xs = true → RVs w c ys vs → RVs w c' xs vs
  | _, _, .nil, vs, _, hv => hv
  | _, _, .cons h t, vs, hok, hv => by
    simp only [okInL, Bool.and_eq_true] at hok
    simp only [RVs] at hv ⊢
    obtain ⟨v, r, h1, h2, h3⟩ := hv
    exact ⟨v, r, h1, h.sound him hi hr ht hV hz hx hok.1 h2, t.sound him hi hr ht hV hz hx hok.2 h3⟩
end
theorem AVles.length : ∀ {xs ys : List AV}, AVles V xs ys → xs.length = ys.length
  | _, _, .nil => rfl
  | _, _, .cons h t => by simp [t.length]
theorem AVles.get : ∀ {xs ys : List AV}, AVles V xs ys → ∀ {i : Nat} {x : AV}, xs[i]? = some x → ∃ y, ys[i]? = some y ∧ AVle V x y
  | _, _, .nil, i, x, h => by simp at h
  | _, _, .cons h t, i, x, hx => by
    cases i with
    | zero => simp at hx; subst hx; exact ⟨_, by simp, h⟩
    | succ i => simpa using t.get (by simpa using hx)
theorem AVles.rfl' : ∀ (xs : List AV), AVles V xs xs
  | [] => .nil
  | x :: xs => .cons (.same x) (AVles.rfl' xs)

@[simp] theorem AVle_same (x : AV) : AVle V x x ↔ True := ⟨fun _ => trivial, fun _ => .same x⟩
@[simp] theorem AVle_junk (x : AV) : AVle V .junk x ↔ True := ⟨fun _ => trivial, fun _ => .junk x⟩
@[simp] theorem AVles_nil : AVles V [] [] ↔ True := ⟨fun _ => trivial, fun _ => .nil⟩
@[simp] theorem AVles_same (xs : List AV) : AVles V xs xs ↔ True := ⟨fun _ => trivial, fun _ => .rfl' xs⟩
@[simp] theorem AVles_cons (x y : AV) (xs ys : List AV) : AVles V (x :: xs) (y :: ys) ↔ AVle V x y ∧ AVles V xs ys := ⟨fun h => by cases h; exact ⟨‹_›, ‹_›⟩, fun h => .cons h.1 h.2⟩
@[simp] theorem AVle_sm {r r' : Ref} {n n' : Nat} {o o' : Own} : AVle V (.sm r' n' o') (.sm r n o) ↔ (o' = o ∨ o' = .no) ∧ r' = r ∧ n' = n :=
  ⟨fun h => by
    cases h with
    | same => simp
    | sm ho => exact ⟨ho, rfl, rfl⟩, fun ⟨h1, h2, h3⟩ => by subst h2 h3; exact .sm h1⟩
@[simp] theorem AVle_agg (xs ys : List AV) : AVle V (.agg xs) (.agg ys) ↔ AVles V xs ys := ⟨fun h => by cases h; exact .rfl' _; assumption, .agg⟩
@[simp] theorem AVle_tup (xs ys : List AV) : AVle V (.tup xs) (.tup ys) ↔ AVles V xs ys := ⟨fun h => by cases h; exact .rfl' _; assumption, .tup⟩
@[simp] theorem AVle_s (x y : Value) : AVle V (.s x) (.s y) ↔ x = y := ⟨fun h => by cases h; rfl, fun h => by rw [h]; exact .same _⟩
@[simp] theorem AVle_sl {f g f' g' : Bool} {k k' : Knd} {o o' : Own} {n n' : Nat} {cs cs' : List D} : AVle V (.sl f' g' k' o' n' cs') (.sl f g k o n cs) ↔ (f' = true → f = true) ∧ (g' = true → g = true) ∧ (k' = k ∨ k' = .U ∨ (k' = .Z ∧ n ≠ 0)) ∧ (o' = o ∨ o' = .no ∨ ∃ d, o = .full ∧ o' = .tok d ∧ V d = some n) ∧ n' = n ∧ cs' = cs :=
  ⟨fun h => by
    cases h with
    | same => simp
    | sl hf hg hk ho => exact ⟨hf, hg, hk, ho, rfl, rfl⟩, fun ⟨h1, h2, h3, h4, h5, h6⟩ => by subst h5 h6; exact .sl h1 h2 h3 h4⟩
end

/-- Tokens that are new. -/
def vt (t' t : Nat → Option (Nat × Nat)) (k : Nat) : Option Nat := if (t k).isSome then none else (t' k).map (·.1)

structure St.le (st' st : St) : Prop where
  nt : st'.nt = st.nt
  env : ∀ d x, st'.env d = some x → ∃ y, st.env d = some y ∧ AVle (vt st'.tok st.tok) x y
  own : ∀ k cs, st'.own k = some cs → ∃ cs', st.own k = some cs' ∧ AVles (vt st'.tok st.tok) cs cs'
  ext : st'.ext.length = st.ext.length ∧ ∀ (i : Nat) (cs : List AV), st'.ext[i]? = some cs → ∃ cs', st.ext[i]? = some cs' ∧ AVles (vt st'.tok st.tok) cs cs'
  tok : ∀ k p, st'.tok k = some p → st.tok k = some p ∨ st.tok k = none
  okE : ∀ d x, st'.env d = some x → x.okIn (fun r => (st'.mem r).isSome) (fun k => (st'.tok k).isSome) = true
  okO : ∀ k cs, st'.own k = some cs → okInL (fun r => (st'.mem r).isSome) (fun k => (st'.tok k).isSome) cs = true
  okX : ∀ cs ∈ st'.ext, okInL (fun r => (st'.mem r).isSome) (fun k => (st'.tok k).isSome) cs = true

theorem okInL_get {R : Ref → Bool} {T : Nat → Bool} : ∀ {xs : List AV}, okInL R T xs = true → ∀ x ∈ xs, x.okIn R T = true
  | [], _, x, hx => by simp at hx
  | y :: ys, h, x, hx => by
    simp only [okInL, Bool.and_eq_true] at h
    rcases List.mem_cons.1 hx with rfl | hx
    · exact h.1
    · exact okInL_get h.2 x hx

theorem Good.le {st' : St} {a : Act} (hle : St.le st' st) (h : Good w0 w l st a) : ∃ l', Good w0 w l' st' a ∧ l'.rd = l.rd ∧ l'.be = l.be := by
  classical
  obtain ⟨hm, he⟩ := h
  let l' : Lay := { l with
    rb := fun r => if (st'.mem r).isSome then l.rb r else none
    ow := fun b => if l.ow b = .obj ∧ ¬ (∃ k, (st'.own k).isSome = true ∧ l.rb (.own k) = some b) then .free else l.ow b
    bt := fun k => if (st'.tok k).isSome then l.bt k else none
    xt := fun k => if (st'.tok (XK k)).isSome = true ∧ (st'.own k).isSome = true then l.xt k else none }
  have hmem : ∀ r cs, st'.mem r = some cs → ∃ cs', st.mem r = some cs' ∧ AVles (vt st'.tok st.tok) cs cs' := fun r cs h => by
    cases r with
    | own k => exact hle.own k cs h
    | ext i => exact hle.ext.2 i cs h
  have hrb : ∀ r b, (st'.mem r).isSome = true → l.rb r = some b → l'.rb r = some b := fun r b h1 h2 => by simp [l', h1, h2]
  have hrb' : ∀ r b, l'.rb r = some b → l.rb r = some b ∧ (st'.mem r).isSome = true := fun r b h => by
    simp only [l'] at h
    split at h
    · rename_i h1; exact ⟨h, h1⟩
    · cases h
  have him : ∀ f b o, (cx w0 w l st.tok).im f b o → (cx w0 w l' st'.tok).im f b o := fun f b o h => by
    rcases h with ⟨h1, h2, h3⟩ | h
    · refine .inl ⟨h1, h2, ?_⟩
      simp only [l']
      split
      · trivial
      · exact h3
    · exact .inr h
  have htc : ∀ k n a cap, (st'.tok k).isSome = true → (cx w0 w l st.tok).tc k n a cap → (cx w0 w l' st'.tok).tc k n a cap := fun k n a cap h1 h2 => by
    obtain ⟨n', z, h3, h4, h5⟩ := h2
    obtain ⟨p, hp⟩ := Option.isSome_iff_exists.1 h1
    have := (hle.tok k p hp).resolve_right (by rw [h3]; simp)
    rw [this] at h3
    cases h3
    exact ⟨n', z, hp, h4, fun e => by have := h5 e; simp only [l', h1, if_true]; exact this⟩
  have hxc : ∀ k z cap, (st'.tok (XK k)).isSome = true → (st'.mem (.own k)).isSome = true → (cx w0 w l st.tok).xc k z cap → (cx w0 w l' st'.tok).xc k z cap := fun k z cap h1 h2 h3 => by
    show (match (if (st'.tok (XK k)).isSome = true ∧ (st'.own k).isSome = true then l.xt k else none) with | some (c, z') => cap = c ∧ z = z' | none => cap = 0)
    rw [if_pos ⟨h1, h2⟩]
    exact h3
  have hV : ∀ d n a, vt st'.tok st.tok d = some n → (cx w0 w l' st'.tok).tc d n a n := fun d n a h => by
    unfold vt at h
    split at h
    · cases h
    · rename_i hn
      obtain ⟨p, hp, rfl⟩ := Option.map_eq_some_iff.1 h
      refine ⟨p.1, p.2, hp, Nat.le_refl _, fun _ => ?_⟩
      have hb : l'.bt d = none := by
        simp only [l']
        split
        · cases hbt : l.bt d with
          | none => rfl
          | some q =>
            obtain ⟨n', z, a1, _⟩ := hm.tokd d q.1 q.2 hbt
            rw [a1] at hn; simp at hn
        · rfl
      rw [hb]
  refine ⟨l', ⟨⟨hm.os, hm.tape, hm.output, hm.size, hm.old, hm.bel, ?_, by rw [hle.ext.1]; exact hm.extn, ?_, ?_, ?_, ?_, ?_, ?_, ?_, ?_, hm.rdok, ?_, ?_, hm.fzs.step (Nat.le_refl _) (fun _ _ => rfl) (fun D _ ho => by simp only [l']; split; rfl; exact ho) rfl rfl, ?_⟩, ?_⟩, rfl, rfl⟩
  · intro i
    simp only [l']
    split
    · exact hm.ext i
    · rename_i h
      have : st'.mem (.ext i) = none := by simpa using h
      simp only [St.mem] at this
      have h2 := List.getElem?_eq_none_iff.1 this
      rw [hle.ext.1] at h2
      rw [eq_comm, List.getElem?_eq_none_iff, ← hm.extn]
      exact h2
  · intro r r' b h1 h2; exact hm.inj _ _ _ (hrb' r b h1).1 (hrb' r' b h2).1
  · intro r b h; exact Option.isSome_iff_exists.1 (hrb' r b h).2
  · intro r cs h
    obtain ⟨cs', hcs, hle'⟩ := hmem r cs h
    rcases hm.obj r cs' hcs with ⟨e0, e1⟩ | ⟨b, h1, h2⟩
    · refine .inl ⟨List.length_eq_zero_iff.1 (by rw [hle'.length, e0]; rfl), ?_⟩
      simp only [l']
      split
      · exact e1
      · rfl
    refine .inr ⟨b, hrb r b (by rw [h]; rfl) h1, ?_⟩
    obtain ⟨cv, T, q1, q2, q3⟩ := h2
    refine ⟨cv, T, q1, by rw [hle'.length]; exact q2, fun j x hj => ?_⟩
    obtain ⟨y, hy, hxy⟩ := hle'.get hj
    obtain ⟨v, a1, a2, a3⟩ := q3 j y hy
    have hok : okInL (fun r => (st'.mem r).isSome) (fun k => (st'.tok k).isSome) cs = true := by
      cases r with
      | own k => exact hle.okO k cs h
      | ext i => exact hle.okX cs (List.mem_of_getElem? h)
    exact ⟨v, a1, a2, hxy.sound him (fun f b o => cx_down st'.tok f b o) hrb htc hV (fun _ _ h _ => h) hxc (okInL_get hok x (List.mem_of_getElem? hj)) a3⟩
  · intro r b h; exact hm.rblt r b (hrb' r b h).1
  · intro k b h
    obtain ⟨h1, h2⟩ := hrb' _ b h
    have := hm.rbow k b h1
    refine ⟨this.1, ?_⟩
    simp only [l']
    rw [if_neg (fun hc => hc.2 ⟨k, h2, h1⟩)]
    exact this.2
  · intro b hb
    simp only [l'] at hb
    split at hb
    · cases hb
    · rename_i hc
      have h1 : ∃ k, (st'.own k).isSome = true ∧ l.rb (.own k) = some b := by
        apply Classical.byContradiction
        intro hn; exact hc ⟨hb, hn⟩
      obtain ⟨k, h2, h3⟩ := h1
      exact ⟨k, hrb _ b h2 h3⟩
  · intro b hb
    simp only [l']
    split
    · rfl
    · exact hm.owfree b hb
  · intro b hb
    simp only [l']
    split
    · rfl
    · exact hm.owold b hb
  · intro k b cap hk
    simp only [l'] at hk
    split at hk
    · rename_i h1
      obtain ⟨n, z, a1, a2, a3⟩ := hm.tokd k b cap hk
      obtain ⟨p, hp⟩ := Option.isSome_iff_exists.1 h1
      have := (hle.tok k p hp).resolve_right (by rw [a1]; simp)
      rw [this] at a1
      cases a1
      exact ⟨n, z, hp, by simp only [l']; rw [if_neg (fun hc => by rw [hc.1] at a2; cases a2)]; exact a2, a3⟩
    · cases hk
  · intro k k' b c c' h1 h2
    simp only [l'] at h1 h2
    split at h1 <;> split at h2
    · exact hm.tokinj _ _ _ _ _ h1 h2
    · cases h2
    · cases h1
    · cases h1
  · intro k c z hk
    simp only [l'] at hk
    split at hk
    · rename_i hc
      obtain ⟨a1, b, q1, q2⟩ := hm.xtd k c z hk
      exact ⟨hc.1, b, hrb (.own k) b hc.2 q1, q2⟩
    · cases hk
  · refine ⟨by rw [hle.nt]; exact he.1, fun d x hd => ?_⟩
    obtain ⟨y, h1, h2⟩ := hle.env d x hd
    obtain ⟨h3, h4⟩ := he.2 d y h1
    exact ⟨by rw [hle.nt]; exact h3, h2.sound him (fun f b o => cx_down st'.tok f b o) hrb htc hV (fun _ _ h _ => h) hxc (hle.okE d x hd) h4⟩

end Go.Ev
end

section
set_option linter.all false
set_option linter.unusedVariables false
set_option linter.unusedSimpArgs false
namespace Go.Ev
variable {P : Program} {Γ : Gam} {ops : List Oper}

/-! ### What an operation looks at and turns -/
inductive Loc where | e (d : Nat) | m (r : Ref) | t (k : Nat)
inductive LV where | a (x : AV) | c (cs : List AV) | n (p : Nat × Nat)
def St.get (s : St) : Loc → Option LV
  | .e d => (s.env d).map .a
  | .m r => (s.mem r).map .c
  | .t k => (s.tok k).map .n
def Same (s s' : St) : Prop := s.nt = s'.nt ∧ s.ext.length = s'.ext.length
def Agree (s s' : St) (L : Loc → Prop) : Prop := ∀ x, L x → s.get x = s'.get x

theorem map_inj {α β : Type} {f : α → β} (hf : ∀ x y, f x = f y → x = y) {a b : Option α} (h : a.map f = b.map f) : a = b := by
  cases a <;> cases b <;> simp at h ⊢
  exact hf _ _ h
theorem get_e {s s' : St} {d : Nat} (h : s.get (.e d) = s'.get (.e d)) : s.env d = s'.env d := map_inj (fun _ _ h => by cases h; rfl) h
theorem get_m {s s' : St} {r : Ref} (h : s.get (.m r) = s'.get (.m r)) : s.mem r = s'.mem r := map_inj (fun _ _ h => by cases h; rfl) h
theorem get_t {s s' : St} {k : Nat} (h : s.get (.t k) = s'.get (.t k)) : s.tok k = s'.tok k := map_inj (fun _ _ h => by cases h; rfl) h

theorem St.ext_get {s s' : St} (h : Same s s') (hg : ∀ x, s.get x = s'.get x) : s = s' := by
  obtain ⟨nt, env, own, ext, tok⟩ := s
  obtain ⟨nt', env', own', ext', tok'⟩ := s'
  obtain ⟨h1, h2⟩ := h
  have e1 : env = env' := funext fun d => get_e (hg (.e d))
  have e2 : own = own' := funext fun k => get_m (hg (.m (.own k)))
  have e3 : ext = ext' := List.ext_getElem? fun i => get_m (hg (.m (.ext i)))
  have e4 : tok = tok' := funext fun k => get_t (hg (.t k))
  simp only at h1
  subst h1 e1 e2 e3 e4
  rfl

structure Frm (f : St → Option Res) (s s1 : St) (R W : Loc → Prop) : Prop where
  run : f s = some (.go s1)
  same : Same s1 s
  off : Agree s1 s (fun x => ¬ W x)
  mv : ∀ t, Same t s → Agree t s (fun x => R x ∨ W x) → ∃ t1, f t = some (.go t1) ∧ Same t1 t ∧ Agree t1 s1 W ∧ Agree t1 t (fun x => ¬ W x)

theorem Same.symm {s t : St} (h : Same s t) : Same t s := ⟨h.1.symm, h.2.symm⟩
theorem Same.trans {s t u : St} (h : Same s t) (h' : Same t u) : Same s u := ⟨h.1.trans h'.1, h.2.trans h'.2⟩

theorem Frm.swap {f g : St → Option Res} {s s1 s2 : St} {Rx Wx Ry Wy : Loc → Prop} (hx : Frm f s s1 Rx Wx) (hy : Frm g s1 s2 Ry Wy) (h1 : ∀ x, Wx x → ¬ Ry x ∧ ¬ Wy x) (h2 : ∀ x, Wy x → ¬ Rx x) :
    ∃ s1', Frm g s s1' Ry Wy ∧ Frm f s1' s2 Rx Wx := by
  have a1 : Agree s s1 (fun x => Ry x ∨ Wy x) := fun x hx' => (hx.off x (fun hw => by
    rcases hx' with h | h
    · exact (h1 x hw).1 h
    · exact (h1 x hw).2 h)).symm
  obtain ⟨t1, b1, b2, b3, b4⟩ := hy.mv s hx.same.symm a1
  have a2 : Agree t1 s (fun x => Rx x ∨ Wx x) := fun x hx' => b4 x (fun hw => by
    rcases hx' with h | h
    · exact h2 x hw h
    · exact (h1 x h).2 hw)
  obtain ⟨t2, c1, c2, c3, c4⟩ := hx.mv t1 b2 a2
  have e : t2 = s2 := by
    refine St.ext_get (c2.trans (b2.trans (hx.same.symm.trans hy.same.symm))) fun x => ?_
    by_cases hwx : Wx x
    · rw [c3 x hwx, hy.off x (h1 x hwx).2]
    · rw [c4 x hwx]
      by_cases hwy : Wy x
      · exact b3 x hwy
      · rw [b4 x hwy, hy.off x hwy, hx.off x hwx]
  subst e
  refine ⟨t1, ⟨b1, b2, b4, fun t ht hag => ?_⟩, ⟨c1, c2, c4, fun t ht hag => ?_⟩⟩
  · obtain ⟨u, d1, d2, d3, d4⟩ := hy.mv t (ht.trans hx.same.symm) (fun x hx' => (hag x hx').trans (a1 x hx'))
    exact ⟨u, d1, d2, fun x hw => (d3 x hw).trans (b3 x hw).symm, d4⟩
  · obtain ⟨u, d1, d2, d3, d4⟩ := hx.mv t (ht.trans b2) (fun x hx' => (hag x hx').trans (a2 x hx'))
    exact ⟨u, d1, d2, fun x hw => (d3 x hw).trans (c3 x hw).symm, d4⟩

def Chain (f : Nat → St → Option Res) (R W : Nat → Loc → Prop) : List Nat → St → St → Prop
  | [], s, s' => s = s'
  | i :: L, s, s' => ∃ s1, Frm (f i) s s1 (R i) (W i) ∧ Chain f R W L s1 s'

def Indep (R W : Nat → Loc → Prop) (j i : Nat) : Prop := (∀ x, W j x → ¬ R i x ∧ ¬ W i x) ∧ (∀ x, W i x → ¬ R j x)

theorem Chain.bubble {f : Nat → St → Option Res} {R W : Nat → Loc → Prop} {i : Nat} {L2 : List Nat} {s' : St} : ∀ (L1 : List Nat) (s : St), (∀ j ∈ L1, Indep R W j i) → Chain f R W (L1 ++ i :: L2) s s' → Chain f R W (i :: (L1 ++ L2)) s s'
  | [], s, _, h => h
  | j :: L1, s, hi, h => by
    obtain ⟨s1, h1, h2⟩ := h
    obtain ⟨s2, h3, h4⟩ := Chain.bubble L1 s1 (fun j hj => hi j (List.mem_cons_of_mem _ hj)) h2
    obtain ⟨i1, i2⟩ := hi j (by simp)
    obtain ⟨s1', k1, k2⟩ := h1.swap h3 i1 i2
    exact ⟨s1', k1, s2, k2, h4⟩

/-! ### Records -/
structure Rec where
  F : List Ref
  N : List Nat
  T : List Nat
def Rec.nil : Rec := ⟨[], [], []⟩
def newsOf : X → List Nat
  | .mem _ _ news => news.map (·.1)
  | _ => []
def toksOf : X → List Nat
  | .tok _ new => [new.1]
  | _ => []
def noGrow : Option X → Option X
  | some (.grow ..) => none
  | x => x
@[congr] theorem noGrow_congr {x y : Option X} (h : x = y) : noGrow x = noGrow y := by rw [h]
@[simp] theorem noGrow_val (x : AV) : noGrow (some (.val x)) = some (.val x) := rfl
@[simp] theorem noGrow_skip : noGrow (some .skip) = some .skip := rfl
@[simp] theorem noGrow_mem (x : Option AV) (os : List (List AV)) (news : List (Nat × List AV)) : noGrow (some (.mem x os news)) = some (.mem x os news) := rfl
@[simp] theorem noGrow_tok (x : AV) (p : Nat × Nat × Nat) : noGrow (some (.tok x p)) = some (.tok x p) := rfl
@[simp] theorem noGrow_pan (v : Value) : noGrow (some (.pan v)) = some (.pan v) := rfl
@[simp] theorem noGrow_none : noGrow none = none := rfl
theorem noGrow_some {o : Option X} {x : X} (h : noGrow o = some x) : o = some x ∧ ∀ y d cs p, x ≠ .grow y d cs p := by
  unfold noGrow at h
  split at h
  · cases h
  · rename_i hn
    subst h
    exact ⟨rfl, fun y d cs p e => hn _ _ _ _ (by rw [e])⟩
def recRun (P : Program) (Γ : Gam) (st : St) (o : Oper) : Option (Rec × Res) :=
  bnd (st.opds o.op.operands.toList) fun xs =>
  bnd (st.mems (foot st o.op xs)) fun os =>
  if hinted Γ o.dst o.op = true then none
  else if quiet o.op then bnd (execQ P o.op xs os) fun x => some (⟨foot st o.op xs, [], []⟩, .go (st.put o.dst x))
  else bnd (noGrow (execF P Γ o.op o.dst xs (foot st o.op xs) os st.own st.tok)) fun x => some (⟨foot st o.op xs, newsOf x, toksOf x⟩, x.run st o (foot st o.op xs))
def guardedR (b : Option Bool) (w : Bool) (x y : Option (Rec × Res)) : Option (Rec × Res) := if b = some w then x else y
@[congr] theorem guardedR_congr {b b' : Option Bool} {w : Bool} {x y : Option (Rec × Res)} (h : b = b') : guardedR b w x y = guardedR b' w x y := by rw [h]
@[simp] theorem guardedR_tt (x y : Option (Rec × Res)) : guardedR (some true) true x y = x := rfl
@[simp] theorem guardedR_ff (x y : Option (Rec × Res)) : guardedR (some false) false x y = x := rfl
@[simp] theorem guardedR_tf (x y : Option (Rec × Res)) : guardedR (some true) false x y = y := rfl
@[simp] theorem guardedR_ft (x y : Option (Rec × Res)) : guardedR (some false) true x y = y := rfl
@[simp] theorem guardedR_n (w : Bool) (x y : Option (Rec × Res)) : guardedR none w x y = y := rfl
def recOp (P : Program) (Γ : Gam) (ops : List Oper) (st : St) (o : Oper) : Option (Rec × Res) :=
  if dstOk st.nt o.dst = true then match o.guard with
  | none => recRun P Γ st o
  | some (j, w) => bnd (guardOf st ops j) fun x => bnd (bit x) fun b => guardedR b w (recRun P Γ st o) (some (Rec.nil, .go (st.put o.dst (.s (.tuple #[])))))
  else none

def rdOf (ops : List Oper) (o : Oper) (rc : Rec) : Loc → Prop
  | .e d => d ∈ o.looksAt ops.toArray
  | .m r => r ∈ rc.F
  | .t k => ∃ j, Ref.own j ∈ rc.F ∧ k = XK j
def wrOf (o : Oper) (rc : Rec) : Loc → Prop
  | .e d => o.dst = some d
  | .m r => (quiet o.op = false ∧ r ∈ rc.F) ∨ ∃ k ∈ rc.N, r = .own k
  | .t k => k ∈ rc.T

theorem recRun_step {st : St} {o : Oper} {rc : Rec} {r : Res} (h : recRun P Γ st o = some (rc, r)) : stepRun P Γ st o = some r := by
  unfold recRun at h
  obtain ⟨xs, h1, h⟩ := bnd_eq h
  obtain ⟨os, h2, h⟩ := bnd_eq h
  unfold stepRun
  rw [h1, bnd_some, h2, bnd_some]
  split at h
  · cases h
  rename_i hh
  rw [if_neg hh]
  split at h
  · rename_i hq
    obtain ⟨x, h3, h⟩ := bnd_eq h
    cases h
    rw [if_pos hq, h3, bnd_some]
  · rename_i hq
    obtain ⟨x, h3, h⟩ := bnd_eq h
    cases h
    rw [if_neg hq, (noGrow_some h3).1, bnd_some]

theorem recOp_step {st : St} {o : Oper} {rc : Rec} {r : Res} (h : recOp P Γ ops st o = some (rc, r)) : stepOp P Γ ops st o = some r := by
  unfold recOp at h
  unfold stepOp
  split at h
  case isFalse => cases h
  rename_i hd
  rw [if_pos hd]
  split at h
  · rename_i hg; simp only [hg]; exact recRun_step h
  · rename_i j w hg
    obtain ⟨x, h1, h⟩ := bnd_eq h
    obtain ⟨b, h2, h⟩ := bnd_eq h
    simp only [hg, h1, bnd_some, h2]
    unfold guardedR at h
    unfold guarded
    split at h
    · rename_i hb; rw [if_pos hb]; exact recRun_step h
    · rename_i hb; rw [if_neg hb]; cases h; rfl

theorem opds_agree {s t : St} : ∀ {l : List Operand}, (∀ d, Operand.tmp d ∈ l → t.env d = s.env d) → t.opds l = s.opds l
  | [], _ => rfl
  | x :: l, h => by
    have h1 : t.opd x = s.opd x := by
      cases x with
      | tmp d => exact h d (by simp)
      | _ => rfl
    simp only [St.opds, h1, opds_agree (l := l) (fun d hd => h d (List.mem_cons_of_mem _ hd))]
theorem mems_agree {s t : St} : ∀ {l : List Ref}, (∀ r ∈ l, t.mem r = s.mem r) → t.mems l = s.mems l
  | [], _ => rfl
  | x :: l, h => by simp only [St.mems, h x (by simp), mems_agree (l := l) (fun r hr => h r (List.mem_cons_of_mem _ hr))]

theorem fBack_agree {own own' : Nat → Option (List AV)} {tk tk' : Nat → Option (Nat × Nat)} {rs : List Ref} {d m : Nat} {o : Option Out} {X' : X} (h : fBack own tk rs d m o = some X') (hN : ∀ k ∈ newsOf X', own' k = own k) (hT : ∀ k ∈ toksOf X', tk' k = tk k) : fBack own' tk' rs d m o = some X' := by
  unfold fBack at h ⊢
  split at h
  · rename_i r ext ow
    split at h
    · rename_i hc
      cases h
      rw [if_pos]
      refine ⟨hc.1, List.all_eq_true.2 fun p hp => ?_⟩
      have := List.all_eq_true.1 hc.2 p hp
      rw [hN _ (by simp only [newsOf, List.map_map, List.mem_map]; exact ⟨p, hp, rfl⟩)]
      exact this
    · cases h
  · exact h
  · split at h
    · rename_i hc
      cases h
      rw [if_pos ⟨hc.1, by rw [hT _ (by simp [toksOf])]; exact hc.2⟩]
    · cases h
  · cases h

theorem inner_agree {s t : St} : ∀ {F : List Ref}, (∀ r ∈ F, t.mem r = s.mem r) → t.inner F = s.inner F
  | [], _ => rfl
  | r :: F, h => by simp only [St.inner]; rw [h r (by simp), inner_agree (fun r hr => h r (by simp [hr]))]
theorem foot_agree {s t : St} {op : Op} {xs : List AV} (h : ∀ r ∈ foot s op xs, t.mem r = s.mem r) : foot t op xs = foot s op xs := by
  unfold foot at h ⊢
  split <;> try rfl
  rename_i c
  split <;> try rfl
  rename_i hc
  simp only [hc] at h
  unfold St.footC at h ⊢
  split <;> try rfl
  · simp only [St.reach] at h ⊢
    rw [inner_agree (fun r hr => h r (List.mem_append_left _ hr))]
  · simp only [St.reach] at h ⊢
    rw [inner_agree (fun r hr => h r (List.mem_append_left _ hr))]
theorem execF_agree {op : Op} {dst : Option Nat} {xs : List AV} {F : List Ref} {os : List (List AV)} {own own' : Nat → Option (List AV)} {tk tk' : Nat → Option (Nat × Nat)} {X' : X} (h : execF P Γ op dst xs F os own tk = some X')
    (hN : ∀ k ∈ newsOf X', own' k = own k) (hT : ∀ k ∈ toksOf X', tk' k = tk k) (hX : ∀ j, Ref.own j ∈ F → tk' (XK j) = tk (XK j)) (hG : ∀ y d cs p, X' ≠ .grow y d cs p) : execF P Γ op dst xs F os own' tk' = some X' := by
  unfold execF at h ⊢
  split at h
  · exact h
  · unfold fAlloc at h ⊢
    split at h
    · split at h
      · rename_i hc
        cases h
        rw [if_pos ⟨hc.1, by rw [hN _ (by simp [newsOf])]; exact hc.2⟩]
      · cases h
    · cases h
  · unfold fBox at h ⊢
    split at h
    · split at h
      · rename_i hc
        cases h
        rw [if_pos ⟨hc.1, by rw [hN _ (by simp [newsOf])]; exact hc.2⟩]
      · cases h
    · cases h
  · exact h
  · exact h
  · split at h
    · split at h
      · rename_i hh
        rw [if_pos hh]
        unfold fAppendC at h ⊢
        split at h
        · split at h
          · rename_i hc
            cases h
            rw [if_pos ⟨hc.1, hc.2.1, hc.2.2.1, hc.2.2.2.1, hc.2.2.2.2.1, by rw [hN _ (by simp [newsOf])]; exact hc.2.2.2.2.2⟩]
          · cases h
        · cases h
      rename_i hC
      rw [if_neg hC]
      split at h
      · rename_i hh
        exfalso
        have hx : ∀ (d : Nat) (e : TypeId) (n m : Nat) (new old : List AV), fAppendX P own tk d e n m new old = some X' → False := fun d e n m new old h => by
          unfold fAppendX at h
          split at h
          · cases h; exact hG _ _ _ _ rfl
          · cases h
        unfold fAppendM at h
        split at h
        · split at h
          · obtain ⟨q, _, h⟩ := bnd_eq h; exact hx _ _ _ _ _ _ h
          · cases h
        · split at h
          · obtain ⟨q, _, h⟩ := bnd_eq h; obtain ⟨q2, _, h⟩ := bnd_eq h; exact hx _ _ _ _ _ _ h
          · cases h
        · cases h
      rename_i hh
      rw [if_neg hh]
      unfold fAppend at h ⊢
      split at h
      · unfold fAppendAs at h ⊢
        split at h
        · split at h
          · rename_i hc
            cases h
            rw [if_pos ⟨hc.1, hc.2.1, hc.2.2.1, hc.2.2.2.1, hc.2.2.2.2.1, hc.2.2.2.2.2.1, by rw [hT _ (by simp [toksOf])]; exact hc.2.2.2.2.2.2⟩]
          · cases h
        · split at h
          · rename_i hc
            cases h
            rw [if_pos ⟨hc.1, hc.2.1, hc.2.2.1, hc.2.2.2.1, hc.2.2.2.2.1, hc.2.2.2.2.2.1, by rw [hT _ (by simp [toksOf])]; exact hc.2.2.2.2.2.2⟩]
          · cases h
        · cases h
        · cases h
      · cases h
    · have hcc : ∀ (d : Nat) (f : FuncId) (ys : List AV), fCallAs Γ own tk F os d f ys = some X' → fCallAs Γ own' tk' F os d f ys = some X' := fun d f ys h => by
        unfold fCallAs at h ⊢
        split at h
        · rename_i hc
          rw [if_pos ⟨List.all_eq_true.2 fun r hr => (by
            have := List.all_eq_true.1 hc.1 r hr
            cases r with
            | own j => simp only at this ⊢; rw [hX j hr]; exact this
            | ext i => rfl), hc.2⟩]
          exact fBack_agree h hN hT
        · cases h
      unfold fCall at h ⊢
      split at h
      · split at h
        · cases h
        · rename_i hf; exact (if_neg hf).trans (hcc _ _ _ h)
      · exact hcc _ _ _ h
      · cases h
    · cases h
  · cases h

theorem foldl_off : ∀ (news : List (Nat × List AV)) (f : Nat → Option (List AV)) (k : Nat), k ∉ news.map (·.1) → (news.foldl (fun f (p : Nat × List AV) => upd f p.1 p.2) f) k = f k
  | [], _, _, _ => rfl
  | p :: news, f, k, h => by
    simp only [List.map_cons, List.mem_cons, not_or] at h
    simp only [List.foldl_cons]
    rw [foldl_off news _ k h.2]
    simp [upd, h.1]
theorem foldl_on : ∀ (news : List (Nat × List AV)) (f g : Nat → Option (List AV)) (k : Nat), (k ∈ news.map (·.1) ∨ f k = g k) → (news.foldl (fun f (p : Nat × List AV) => upd f p.1 p.2) f) k = (news.foldl (fun f (p : Nat × List AV) => upd f p.1 p.2) g) k
  | [], _, _, _, h => by simpa using h
  | p :: news, f, g, k, h => by
    simp only [List.foldl_cons]
    refine foldl_on news _ _ k ?_
    by_cases hk : k = p.1
    · right; simp [upd, hk]
    · rcases h with h | h
      · simp only [List.map_cons, List.mem_cons] at h
        exact .inl (h.resolve_left hk)
      · right; simp [upd, hk, h]

theorem put_e {s : St} {dst : Option Nat} {x : AV} {d : Nat} : (s.put dst x).env d = if dst = some d then some x else s.env d := by
  cases dst with
  | none => simp [St.put]
  | some e =>
    simp only [St.put, upd, Option.some.injEq]
    by_cases h : d = e
    · simp [h]
    · have : ¬ e = d := fun h' => h h'.symm
      simp [h, this]
theorem put_mem {s : St} {dst : Option Nat} {x : AV} {r : Ref} : (s.put dst x).mem r = s.mem r := by
  cases dst <;> cases r <;> rfl

theorem setMem_shape (s : St) (r : Ref) (cs : List AV) : (s.setMem r cs).env = s.env ∧ (s.setMem r cs).tok = s.tok ∧ (s.setMem r cs).nt = s.nt ∧ (s.setMem r cs).ext.length = s.ext.length := by
  cases r <;> simp [St.setMem]
theorem setAll_shape : ∀ (rs : List Ref) (os : List (List AV)) (s : St), (s.setAll rs os).env = s.env ∧ (s.setAll rs os).tok = s.tok ∧ (s.setAll rs os).nt = s.nt ∧ (s.setAll rs os).ext.length = s.ext.length
  | [], os, s => by cases os <;> simp [St.setAll]
  | r :: rs, [], s => by simp [St.setAll]
  | r :: rs, c :: os, s => by
    obtain ⟨a1, a2, a3, a4⟩ := setMem_shape s r c
    obtain ⟨b1, b2, b3, b4⟩ := setAll_shape rs os (s.setMem r c)
    exact ⟨b1.trans a1, b2.trans a2, b3.trans a3, b4.trans a4⟩
theorem setMem_on {s t : St} {q r : Ref} {cs : List AV} (hl : s.ext.length = t.ext.length) (h : s.mem r = t.mem r) : (s.setMem q cs).mem r = (t.setMem q cs).mem r := by
  cases q with
  | own k => cases r with
    | own j => simp only [St.mem, St.setMem, upd] at h ⊢; split <;> simp [h]
    | ext i => exact h
  | ext k => cases r with
    | own j => exact h
    | ext i =>
      simp only [St.mem, St.setMem, List.getElem?_set] at h ⊢
      rw [hl, h]
theorem setAll_on : ∀ (rs : List Ref) (os : List (List AV)) (s t : St) (r : Ref), s.ext.length = t.ext.length → s.mem r = t.mem r → (s.setAll rs os).mem r = (t.setAll rs os).mem r
  | [], os, s, t, r, _, h => by cases os <;> exact h
  | q :: rs, [], s, t, r, _, h => h
  | q :: rs, c :: os, s, t, r, hl, h => setAll_on rs os _ _ r (by rw [(setMem_shape s q c).2.2.2, (setMem_shape t q c).2.2.2, hl]) (setMem_on hl h)
theorem setMem_off {s : St} {q r : Ref} {cs : List AV} (h : r ≠ q) : (s.setMem q cs).mem r = s.mem r := by
  cases q with
  | own k => cases r with
    | own j => have : j ≠ k := fun e => h (by rw [e]); simp [St.mem, St.setMem, upd, this]
    | ext i => rfl
  | ext k => cases r with
    | own j => rfl
    | ext i => have : k ≠ i := fun e => h (by rw [e]); simp [St.mem, St.setMem, List.getElem?_set, this]
theorem setAll_off : ∀ (rs : List Ref) (os : List (List AV)) (s : St) (r : Ref), r ∉ rs → (s.setAll rs os).mem r = s.mem r
  | [], os, s, r, _ => by cases os <;> rfl
  | q :: rs, [], s, r, _ => rfl
  | q :: rs, c :: os, s, r, h => by
    simp only [List.mem_cons, not_or] at h
    simp only [St.setAll]
    rw [setAll_off rs os _ r h.2, setMem_off h.1]

/-- The state behind an effect. -/
def X.after (s : St) (dst : Option Nat) (F : List Ref) : X → St
  | .val x => s.put dst x
  | .skip => s.put dst (.s (.tuple #[]))
  | .mem x os news => { s.setAll F os with own := news.foldl (fun own (p : Nat × List AV) => upd own p.1 p.2) (s.setAll F os).own }.put dst (x.getD (.s (.tuple #[])))
  | .tok x new => { s with tok := upd s.tok new.1 new.2 }.put dst x
  | .grow .. => s
  | .pan _ => s
def X.isGo : X → Bool
  | .pan _ => false
  | .grow .. => false
  | _ => true
theorem X.run_eq {s : St} {o : Oper} {F : List Ref} {x : X} (h : x.isGo = true) : x.run s o F = .go (x.after s o.dst F) := by
  cases x <;> first | rfl | cases h
theorem X.run_go {s s' : St} {o : Oper} {F : List Ref} {x : X} (hG : ∀ y d cs p, x ≠ .grow y d cs p) (h : x.run s o F = .go s') : x.isGo = true ∧ s' = x.after s o.dst F := by
  cases x <;> first | exact absurd rfl (hG _ _ _ _) | (cases h; exact ⟨rfl, rfl⟩) | cases h

def X.touch (dst : Option Nat) (F : List Ref) (x : X) : Loc → Prop
  | .e d => dst = some d
  | .m r => r ∈ F ∨ ∃ k ∈ newsOf x, r = .own k
  | .t k => k ∈ toksOf x

theorem put_same (s : St) (dst : Option Nat) (x : AV) : Same (s.put dst x) s := by cases dst <;> exact ⟨rfl, rfl⟩
theorem put_get_m {s : St} {dst : Option Nat} {x : AV} {r : Ref} : (s.put dst x).get (.m r) = s.get (.m r) := by simp [St.get, put_mem]
theorem put_get_t {s : St} {dst : Option Nat} {x : AV} {k : Nat} : (s.put dst x).get (.t k) = s.get (.t k) := by cases dst <;> rfl
theorem put_get_e {s : St} {dst : Option Nat} {x : AV} {d : Nat} : (s.put dst x).get (.e d) = if dst = some d then some (.a x) else s.get (.e d) := by
  simp only [St.get, put_e]; split <;> rfl

theorem memState_get (s : St) (F : List Ref) (os : List (List AV)) (news : List (Nat × List AV)) :
    (∀ d, St.get { s.setAll F os with own := news.foldl (fun own (p : Nat × List AV) => upd own p.1 p.2) (s.setAll F os).own } (.e d) = s.get (.e d)) ∧
    (∀ k, St.get { s.setAll F os with own := news.foldl (fun own (p : Nat × List AV) => upd own p.1 p.2) (s.setAll F os).own } (.t k) = s.get (.t k)) := by
  obtain ⟨h1, h2, h3, h4⟩ := setAll_shape F os s
  exact ⟨fun d => by simp only [St.get]; rw [h1], fun k => by simp only [St.get]; rw [h2]⟩

theorem X.after_same (s : St) (dst : Option Nat) (F : List Ref) (x : X) : Same (x.after s dst F) s := by
  cases x with
  | val x => exact put_same ..
  | skip => exact put_same ..
  | mem x os news =>
    refine Same.trans (put_same ..) ?_
    obtain ⟨h1, h2, h3, h4⟩ := setAll_shape F os s
    exact ⟨h3, h4⟩
  | tok x new => exact Same.trans (put_same ..) ⟨rfl, rfl⟩
  | grow _ _ _ _ => exact ⟨rfl, rfl⟩
  | pan v => exact ⟨rfl, rfl⟩

theorem X.after_off (s : St) (dst : Option Nat) (F : List Ref) (x : X) : Agree (x.after s dst F) s (fun l => ¬ x.touch dst F l) := by
  intro l hl
  cases x with
  | val x => cases l with
    | e d => simp only [X.after, put_get_e]; rw [if_neg (show ¬ dst = some d from hl)]
    | m r => exact put_get_m
    | t k => exact put_get_t
  | skip => cases l with
    | e d => simp only [X.after, put_get_e]; rw [if_neg (show ¬ dst = some d from hl)]
    | m r => exact put_get_m
    | t k => exact put_get_t
  | mem x os news =>
    obtain ⟨m1, m2⟩ := memState_get s F os news
    cases l with
    | e d => simp only [X.after, put_get_e]; rw [if_neg (show ¬ dst = some d from hl)]; exact m1 d
    | m r =>
      simp only [X.after, put_get_m]
      simp only [X.touch, not_or, not_exists, not_and] at hl
      simp only [St.get]
      congr 1
      cases r with
      | ext i => exact setAll_off F os s (.ext i) hl.1
      | own k =>
        simp only [St.mem]
        rw [foldl_off _ _ _ (fun h => hl.2 k h rfl)]
        exact setAll_off F os s (.own k) hl.1
    | t k => simp only [X.after, put_get_t]; exact m2 k
  | tok x new => cases l with
    | e d => simp only [X.after, put_get_e]; rw [if_neg (show ¬ dst = some d from hl)]; rfl
    | m r => simp only [X.after, put_get_m]; cases r <;> rfl
    | t k =>
      simp only [X.after]
      rw [put_get_t]
      simp only [St.get]
      simp only [X.touch, toksOf, List.mem_singleton] at hl
      simp [upd, hl]
  | grow _ _ _ _ => rfl
  | pan v => rfl

theorem X.after_on {s t : St} {dst : Option Nat} {F : List Ref} {x : X} (hs : Same t s) (hF : ∀ r ∈ F, t.mem r = s.mem r) (hgo : x.isGo = true) : Agree (x.after t dst F) (x.after s dst F) (x.touch dst F) := by
  intro l hl
  cases x with
  | val x => cases l with
    | e d => simp only [X.after, put_get_e]; rw [if_pos (show dst = some d from hl), if_pos (show dst = some d from hl)]
    | m r =>
      simp only [X.after]
      rw [put_get_m, put_get_m]
      simp only [St.get]
      rcases hl with h | ⟨k, h, _⟩
      · rw [hF r h]
      · simp [newsOf] at h
    | t k => simp [X.touch, toksOf] at hl
  | skip => cases l with
    | e d => simp only [X.after, put_get_e]; rw [if_pos (show dst = some d from hl), if_pos (show dst = some d from hl)]
    | m r =>
      simp only [X.after]
      rw [put_get_m, put_get_m]
      simp only [St.get]
      rcases hl with h | ⟨k, h, _⟩
      · rw [hF r h]
      · simp [newsOf] at h
    | t k => simp [X.touch, toksOf] at hl
  | mem x os news => cases l with
    | e d => simp only [X.after, put_get_e]; rw [if_pos (show dst = some d from hl), if_pos (show dst = some d from hl)]
    | m r =>
      simp only [X.after]
      rw [put_get_m, put_get_m]
      simp only [St.get]
      congr 1
      cases r with
      | ext i =>
        rcases hl with h | ⟨k, h, e⟩
        · exact setAll_on F os t s (.ext i) hs.2 (hF _ h)
        · cases e
      | own k =>
        simp only [St.mem]
        refine foldl_on _ _ _ _ ?_
        rcases hl with h | ⟨k', h, e⟩
        · exact .inr (setAll_on F os t s (.own k) hs.2 (hF _ h))
        · cases e; exact .inl h
    | t k => simp [X.touch, toksOf] at hl
  | tok x new => cases l with
    | e d => simp only [X.after, put_get_e]; rw [if_pos (show dst = some d from hl), if_pos (show dst = some d from hl)]
    | m r =>
      simp only [X.after]
      rw [put_get_m, put_get_m]
      simp only [St.get]
      rcases hl with h | ⟨k, h, _⟩
      · have := hF r h
        cases r <;> simp only [St.mem] at this ⊢ <;> rw [this]
      · simp [newsOf] at h
    | t k =>
      simp only [X.touch, toksOf, List.mem_singleton] at hl
      simp only [X.after]
      rw [put_get_t, put_get_t]
      simp [St.get, upd, hl]
  | grow _ _ _ _ => cases hgo
  | pan v => cases hgo

theorem looks_op {o : Oper} {d : Nat} (h : Operand.tmp d ∈ o.op.operands.toList) : d ∈ o.looksAt ops.toArray := by
  unfold Oper.looksAt
  exact List.mem_append_left _ (List.mem_filterMap.2 ⟨_, h, rfl⟩)

theorem recRun_frm {st st' : St} {o : Oper} {rc : Rec} (h : recRun P Γ st o = some (rc, .go st')) : Frm (fun s => stepRun P Γ s o) st st' (rdOf ops o rc) (wrOf o rc) := by
  have hrun := recRun_step h
  unfold recRun at h
  obtain ⟨xs, h1, h⟩ := bnd_eq h
  obtain ⟨os, h2, h⟩ := bnd_eq h
  have mv : ∀ t, Agree t st (rdOf ops o rc) → (∀ r ∈ foot st o.op xs, r ∈ rc.F) → t.opds o.op.operands.toList = some xs ∧ foot t o.op xs = foot st o.op xs ∧ t.mems (foot st o.op xs) = some os := fun t ht hF =>
    ⟨by rw [← h1]; exact opds_agree fun d hd => get_e (ht (.e d) (looks_op hd)), foot_agree fun r hr => get_m (ht (.m r) (hF r hr)), by rw [← h2]; exact mems_agree fun r hr => get_m (ht (.m r) (hF r hr))⟩
  split at h
  · cases h
  rename_i hh
  have hh' : hinted Γ o.dst o.op = false := by simpa using hh
  split at h
  · rename_i hq
    obtain ⟨x, h3, h⟩ := bnd_eq h
    simp only [Option.some.injEq, Prod.mk.injEq, Res.go.injEq] at h
    obtain ⟨rfl, rfl⟩ := h
    have hw : ∀ l, wrOf o ⟨foot st o.op xs, [], []⟩ l → (X.val x).touch o.dst [] l := fun l hl => by
      cases l with
      | e d => exact hl
      | m r => simp [wrOf, hq] at hl
      | t k => simp [wrOf] at hl
    have hw' : ∀ l, (X.val x).touch o.dst [] l → wrOf o ⟨foot st o.op xs, [], []⟩ l := fun l hl => by
      cases l with
      | e d => exact hl
      | m r => simp [X.touch, newsOf] at hl
      | t k => simp [X.touch, toksOf] at hl
    refine ⟨hrun, put_same .., fun l hl => X.after_off st o.dst [] (.val x) l (fun h => hl (hw' l h)), fun t ht hag => ?_⟩
    obtain ⟨k1, kf, k2⟩ := mv t (fun l hl => hag l (.inl hl)) (fun r hr => hr)
    refine ⟨t.put o.dst x, ?_, put_same .., fun l hl => X.after_on (x := .val x) ht (by simp) rfl l (hw l hl), fun l hl => X.after_off t o.dst [] (.val x) l (fun h => hl (hw' l h))⟩
    simp only [stepRun, k1, kf, k2, bnd_some, hh', Bool.false_eq_true, if_false, hq, if_true, h3]
  · rename_i hq
    obtain ⟨x, h3, h5⟩ := bnd_eq h
    obtain ⟨h3, hG⟩ := noGrow_some h3
    simp only [Option.some.injEq, Prod.mk.injEq] at h5
    obtain ⟨rfl, h6⟩ := h5
    obtain ⟨hgo, rfl⟩ := X.run_go hG h6
    have hq' : quiet o.op = false := by simpa using hq
    have hw : ∀ l, wrOf o ⟨foot st o.op xs, newsOf x, toksOf x⟩ l ↔ x.touch o.dst (foot st o.op xs) l := fun l => by
      cases l with
      | e d => exact Iff.rfl
      | m r => simp [wrOf, hq', X.touch]
      | t k => exact Iff.rfl
    refine ⟨hrun, X.after_same .., fun l hl => X.after_off st o.dst _ x l (fun h => hl ((hw l).2 h)), fun t ht hag => ?_⟩
    obtain ⟨k1, kf, k2⟩ := mv t (fun l hl => hag l (.inl hl)) (fun r hr => hr)
    have hx : execF P Γ o.op o.dst xs (foot st o.op xs) os t.own t.tok = some x := execF_agree h3 (fun k hk => get_m (s := t) (s' := st) (r := .own k) (hag (.m (.own k)) (.inr (.inr ⟨k, hk, rfl⟩)))) (fun k hk => get_t (hag (.t k) (.inr hk))) (fun j hj => get_t (hag (.t (XK j)) (.inl ⟨j, hj, rfl⟩))) hG
    refine ⟨x.after t o.dst (foot st o.op xs), ?_, X.after_same .., fun l hl => X.after_on ht (fun r hr => get_m (hag (.m r) (.inl hr))) hgo l ((hw l).1 hl), fun l hl => X.after_off t o.dst _ x l (fun h => hl ((hw l).2 h))⟩
    simp only [stepRun, k1, kf, k2, bnd_some, hh', hq', Bool.false_eq_true, if_false, hx]
    rw [X.run_eq hgo]

theorem Frm.of_eq {f g : St → Option Res} {s s1 : St} {R R' W : Loc → Prop} (h : Frm f s s1 R W) (hR : ∀ l, R l → R' l) (he : ∀ t, Same t s → Agree t s (fun x => R' x ∨ W x) → g t = f t) : Frm g s s1 R' W := by
  refine ⟨by rw [he s ⟨rfl, rfl⟩ (fun _ _ => rfl)]; exact h.run, h.same, h.off, fun t ht hag => ?_⟩
  obtain ⟨t1, a1, a2⟩ := h.mv t ht (fun l hl => hag l (hl.imp (hR l) id))
  exact ⟨t1, by rw [he t ht hag]; exact a1, a2⟩

theorem guardOf_agree {s t : St} {o : Oper} {j : Nat} {w : Bool} (hg : o.guard = some (j, w)) (h : ∀ d ∈ o.looksAt ops.toArray, t.env d = s.env d) : guardOf t ops j = guardOf s ops j := by
  unfold guardOf
  split
  · rename_i o2 ho2
    split
    · rename_i d hd
      exact h d (by
        unfold Oper.looksAt
        refine List.mem_append_right _ ?_
        simp [hg, ho2, hd])
    · rfl
  · rfl

theorem recOp_frm {st st' : St} {o : Oper} {rc : Rec} (h : recOp P Γ ops st o = some (rc, .go st')) : Frm (fun s => stepOp P Γ ops s o) st st' (rdOf ops o rc) (wrOf o rc) := by
  unfold recOp at h
  split at h
  case isFalse => cases h
  rename_i hd
  split at h
  · rename_i hg
    refine (recRun_frm (ops := ops) h).of_eq (fun _ h => h) fun t ht hag => ?_
    simp only [stepOp, ht.1, hd, if_true, hg]
  · rename_i j w hg
    obtain ⟨x, h1, h⟩ := bnd_eq h
    obtain ⟨b, h2, h⟩ := bnd_eq h
    unfold guardedR at h
    have hgt : ∀ t, Agree t st (fun l => rdOf ops o rc l ∨ wrOf o rc l) → guardOf t ops j = some x := fun t hag => by
      rw [← h1]
      exact guardOf_agree hg fun d hd' => get_e (hag (.e d) (.inl hd'))
    split at h
    · rename_i hb
      refine (recRun_frm (ops := ops) h).of_eq (fun _ h => h) fun t ht hag => ?_
      simp only [stepOp, ht.1, hd, if_true, hg, hgt t hag, bnd_some, h2, guarded, if_pos hb]
    · rename_i hb
      simp only [Option.some.injEq, Prod.mk.injEq, Res.go.injEq] at h
      obtain ⟨rfl, rfl⟩ := h
      have hstep : ∀ t, Same t st → Agree t st (fun l => rdOf ops o Rec.nil l ∨ wrOf o Rec.nil l) → stepOp P Γ ops t o = some (.go (t.put o.dst (.s (.tuple #[])))) := fun t ht hag => by
        simp only [stepOp, ht.1, hd, if_true, hg, hgt t hag, bnd_some, h2, guarded, if_neg hb]
      have hw : ∀ l, wrOf o Rec.nil l ↔ (X.skip).touch o.dst [] l := fun l => by
        cases l with
        | e d => exact Iff.rfl
        | m r => simp [wrOf, X.touch, newsOf, Rec.nil]
        | t k => exact Iff.rfl
      exact ⟨hstep st ⟨rfl, rfl⟩ (fun _ _ => rfl), put_same .., fun l hl => X.after_off st o.dst [] .skip l (fun h => hl ((hw l).2 h)), fun t ht hag =>
        ⟨_, hstep t ht hag, put_same .., fun l hl => X.after_on (x := .skip) ht (by simp) rfl l ((hw l).1 hl), fun l hl => X.after_off t o.dst [] .skip l (fun h => hl ((hw l).2 h))⟩⟩
end Go.Ev
end

section
set_option linter.all false
set_option linter.unusedVariables false
set_option linter.unusedSimpArgs false
namespace Go.Ev
variable {w0 w : World} {l : Lay} {P : Program} {Γ : Gam}

/-! ### Regions whose order is drawn: what the text fixes -/
def touches (o : Oper) : Bool :=
  match o.op with
  | .load .. | .store .. | .alloc _ | .box .. => true
  | .call c => !quietC c.callee
  | _ => false

def direct (o : Oper) : List Nat := (o.after.toList.filter (Region.binds .any)).map (·.on)
def tbStep (tb : List (List Nat)) (o : Oper) : List (List Nat) := tb ++ [((direct o) ++ (direct o).flatMap fun j => tb.getD j []).eraseDups]
def mkTb (ops : List Oper) : List (List Nat) := ops.foldl tbStep []

def pairB (ops : List Oper) (pairs : List (Nat × Nat)) (j i : Nat) (oj o : Oper) : Bool :=
  Oper.apart ops.toArray oj o && ((quiet oj.op && quiet o.op) || !(touches oj && touches o) || pairs.contains (j, i))
def rowB (ops : List Oper) (tb : List (List Nat)) (pairs : List (Nat × Nat)) (i : Nat) (o : Oper) (t : List Nat) : Bool :=
  ((direct o).all fun j => decide (j < i)) &&
  (t.all fun x => (direct o).contains x || (direct o).any fun y => (tb.getD y []).contains x) &&
  ((List.range i).all fun j => t.contains j || match ops[j]? with | some oj => pairB ops pairs j i oj o | none => false)
def floatOk (ops : List Oper) (tb : List (List Nat)) (pairs : List (Nat × Nat)) : Bool :=
  (List.range ops.length).all fun i => match ops[i]? with | some o => rowB ops tb pairs i o (tb.getD i []) | none => false

def xkNe (r : Ref) (k : Nat) : Bool := match r with | .own j => !(k == XK j) | .ext _ => true
def Rec.apart (a b : Rec) : Bool :=
  a.F.all (fun r => !(b.F.contains r)) && a.N.all (fun k => !(b.N.contains k) && !(b.F.contains (.own k))) && b.N.all (fun k => !(a.F.contains (.own k))) && a.T.all (fun k => !(b.T.contains k)) && a.T.all (fun k => b.F.all fun r => xkNe r k) && b.T.all (fun k => a.F.all fun r => xkNe r k)
def pairsOk (recs : List Rec) (pairs : List (Nat × Nat)) : Bool :=
  pairs.all fun p => Rec.apart (recs.getD p.1 Rec.nil) (recs.getD p.2 Rec.nil)

def runR.next (rc : Rec) (K : St → Option (List Rec × St)) : Res → Option (List Rec × St)
  | .go st => bnd (K st) fun x => some (rc :: x.1, x.2)
  | .pan _ => none
theorem runR.next_go (rc : Rec) (K : St → Option (List Rec × St)) (st : St) : runR.next rc K (.go st) = bnd (K st) fun x => some (rc :: x.1, x.2) := Eq.trans rfl rfl
def runR (P : Program) (Γ : Gam) (ops : List Oper) : List Oper → St → Option (List Rec × St)
  | [], st => some ([], st)
  | o :: r, st => bnd (recOp P Γ ops st o) fun x => runR.next x.1 (runR P Γ ops r) x.2

theorem runR_length {ops : List Oper} : ∀ {r : List Oper} {st st' : St} {recs : List Rec}, runR P Γ ops r st = some (recs, st') → recs.length = r.length
  | [], _, _, _, h => by simp [runR] at h; rw [h.1]; rfl
  | o :: r, st, st', recs, h => by
    simp only [runR] at h
    obtain ⟨⟨rc, x⟩, h1, h2⟩ := bnd_eq h
    cases x with
    | go st1 =>
      obtain ⟨⟨a, b⟩, h3, h4⟩ := bnd_eq h2
      cases h4
      simp [runR_length h3]
    | pan v => cases h2

theorem quiet_touch {st : St} {o : Oper} {rc : Rec} {r : Res} (h : recRun P Γ st o = some (rc, r)) : (quiet o.op = true → rc.N = [] ∧ rc.T = []) ∧ (touches o = false → rc = Rec.nil) := by
  unfold recRun at h
  obtain ⟨xs, h1, h⟩ := bnd_eq h
  obtain ⟨os, h2, h⟩ := bnd_eq h
  have hf : touches o = false → foot st o.op xs = [] := fun ht => by
    unfold foot
    unfold touches at ht
    split <;> rename_i hop <;> simp only [hop] at ht
    · cases ht
    · cases ht
    · rename_i c
      split
      · rename_i fo hc; simp [hc, quietC] at ht
      · rfl
    · rfl
  split at h
  · cases h
  split at h
  · rename_i hq
    obtain ⟨x, h3, h⟩ := bnd_eq h
    simp only [Option.some.injEq, Prod.mk.injEq] at h
    obtain ⟨rfl, _⟩ := h
    exact ⟨fun _ => ⟨rfl, rfl⟩, fun ht => by rw [hf ht]; rfl⟩
  · rename_i hq
    obtain ⟨x, h3, h⟩ := bnd_eq h
    obtain ⟨h3, _⟩ := noGrow_some h3
    simp only [Option.some.injEq, Prod.mk.injEq] at h
    obtain ⟨rfl, _⟩ := h
    refine ⟨fun h => absurd h hq, fun ht => ?_⟩
    rw [hf ht]
    have : newsOf x = [] ∧ toksOf x = [] := by
      unfold touches at ht
      unfold quiet at hq
      cases hop : o.op with
      | assign y =>
        rw [hop] at h3
        simp only [execF, fAssign] at h3
        split at h3
        · cases h3; exact ⟨rfl, rfl⟩
        · cases h3
      | alloc t => rw [hop] at ht; cases ht
      | box t y => rw [hop] at ht; cases ht
      | store t y z => rw [hop] at ht; cases ht
      | call c => rw [hop] at ht hq; simp only at ht hq; rw [Bool.not_eq_false'] at ht; exact absurd ht hq
      | panic y =>
        rw [hop] at h3
        simp only [execF, fPanic] at h3
        split at h3
        · cases h3; exact ⟨rfl, rfl⟩
        · cases h3
      | _ => rw [hop] at hq; exact absurd rfl hq
    rw [this.1, this.2]; rfl

theorem quiet_touch' {ops : List Oper} {st : St} {o : Oper} {rc : Rec} {r : Res} (h : recOp P Γ ops st o = some (rc, r)) : (quiet o.op = true → rc.N = [] ∧ rc.T = []) ∧ (touches o = false → rc = Rec.nil) := by
  unfold recOp at h
  split at h
  case isFalse => cases h
  split at h
  · exact quiet_touch h
  · obtain ⟨x, h1, h⟩ := bnd_eq h
    obtain ⟨b, h2, h⟩ := bnd_eq h
    unfold guardedR at h
    split at h
    · exact quiet_touch h
    · cases h; exact ⟨fun _ => ⟨rfl, rfl⟩, fun _ => rfl⟩

def fOf (P : Program) (Γ : Gam) (ops : List Oper) (i : Nat) (s : St) : Option Res :=
  match ops[i]? with
  | some o => stepOp P Γ ops s o
  | none => none
def rOf (ops : List Oper) (recs : List Rec) (i : Nat) (x : Loc) : Prop := ∃ o, ops[i]? = some o ∧ rdOf ops o (recs.getD i Rec.nil) x
def wOf (ops : List Oper) (recs : List Rec) (i : Nat) (x : Loc) : Prop := ∃ o, ops[i]? = some o ∧ wrOf o (recs.getD i Rec.nil) x

def RecOk (ops : List Oper) (recs : List Rec) : Prop := ∀ i o, ops[i]? = some o → (quiet o.op = true → (recs.getD i Rec.nil).N = [] ∧ (recs.getD i Rec.nil).T = []) ∧ (touches o = false → recs.getD i Rec.nil = Rec.nil)

theorem chain_of_run {ops : List Oper} {recs : List Rec} : ∀ (rest : List Oper) (k : Nat) (rs : List Rec) (st st' : St), (∀ j, rest[j]? = ops[k + j]?) → (∀ j, rs[j]? = recs[k + j]?) → runR P Γ ops rest st = some (rs, st') →
    Chain (fOf P Γ ops) (rOf ops recs) (wOf ops recs) (List.range' k rest.length) st st' ∧ (∀ j o, rest[j]? = some o → (quiet o.op = true → (rs.getD j Rec.nil).N = [] ∧ (rs.getD j Rec.nil).T = []) ∧ (touches o = false → rs.getD j Rec.nil = Rec.nil))
  | [], k, rs, st, st', _, _, h => by
    simp [runR] at h
    exact ⟨h.2, fun j o hj => by simp at hj⟩
  | o :: rest, k, rs, st, st', h1, h2, h => by
    simp only [runR] at h
    obtain ⟨⟨rc, x⟩, h3, h4⟩ := bnd_eq h
    cases x with
    | pan v => cases h4
    | go st1 =>
      obtain ⟨⟨a, b⟩, h5, h6⟩ := bnd_eq h4
      cases h6
      obtain ⟨i1, i2⟩ := chain_of_run rest (k + 1) a st1 b (fun j => by have := h1 (j + 1); simp at this; rw [this]; congr 1; omega) (fun j => by have := h2 (j + 1); simp at this; rw [this]; congr 1; omega) h5
      have ho : ops[k]? = some o := by have := h1 0; simp at this; exact this.symm
      have hr : recs[k]? = some rc := by have := h2 0; simp at this; exact this.symm
      have hr' : recs.getD k Rec.nil = rc := by simp [List.getD_eq_getElem?_getD, hr]
      refine ⟨?_, fun j o' hj => ?_⟩
      · simp only [List.length_cons, List.range'_succ]
        refine ⟨st1, ?_, i1⟩
        have f := recOp_frm h3
        refine ⟨by simp only [fOf, ho]; exact f.run, f.same, fun x hx => f.off x (fun hw => hx ⟨o, ho, by rw [hr']; exact hw⟩), fun t ht hag => ?_⟩
        obtain ⟨t1, b1, b2, b3, b4⟩ := f.mv t ht (fun x hx => hag x (hx.imp (fun h => ⟨o, ho, by rw [hr']; exact h⟩) (fun h => ⟨o, ho, by rw [hr']; exact h⟩)))
        refine ⟨t1, by simp only [fOf, ho]; exact b1, b2, fun x hx => b3 x ?_, fun x hx => b4 x (fun hw => hx ⟨o, ho, by rw [hr']; exact hw⟩)⟩
        obtain ⟨o', ho', hw⟩ := hx
        rw [ho] at ho'
        cases ho'
        rwa [hr'] at hw
      · cases j with
        | zero => simp at hj; subst hj; simpa using quiet_touch' h3
        | succ j => simpa using i2 j o' (by simpa using hj)

theorem Rec.apart_spec {a b : Rec} (h : Rec.apart a b = true) : (∀ r ∈ a.F, r ∉ b.F) ∧ (∀ k ∈ a.N, k ∉ b.N ∧ Ref.own k ∉ b.F) ∧ (∀ k ∈ b.N, Ref.own k ∉ a.F) ∧ (∀ k ∈ a.T, k ∉ b.T) ∧ (∀ k ∈ a.T, ∀ j, Ref.own j ∈ b.F → k ≠ XK j) ∧ (∀ k ∈ b.T, ∀ j, Ref.own j ∈ a.F → k ≠ XK j) := by
  simp only [Rec.apart, Bool.and_eq_true, List.all_eq_true, Bool.not_eq_true', List.contains_eq_mem, decide_eq_false_iff_not] at h
  obtain ⟨⟨⟨⟨⟨h1, h2⟩, h3⟩, h4⟩, h5⟩, h6⟩ := h
  exact ⟨h1, h2, h3, h4, fun k hk j hj => by simpa [xkNe] using h5 k hk _ hj, fun k hk j hj => by simpa [xkNe] using h6 k hk _ hj⟩

theorem indep_of {ops : List Oper} {recs : List Rec} {pairs : List (Nat × Nat)} (hok : RecOk ops recs) (hp : pairsOk recs pairs = true) {j i : Nat} {oj o : Oper} (hj : ops[j]? = some oj) (hi : ops[i]? = some o) (hb : pairB ops pairs j i oj o = true) : Indep (rOf ops recs) (wOf ops recs) j i := by
  simp only [pairB, Bool.and_eq_true, Bool.or_eq_true, Bool.not_eq_true', Bool.and_eq_false_iff] at hb
  obtain ⟨hap, hb⟩ := hb
  obtain ⟨p1, p2, p3⟩ := Oper.apart_spec hap
  generalize hrj : recs.getD j Rec.nil = rj at *
  generalize hri : recs.getD i Rec.nil = ri at *
  -- what is shared in the memory
  have hmem : (∀ r, wrOf oj rj (.m r) → ¬ rdOf ops o ri (.m r) ∧ ¬ wrOf o ri (.m r)) ∧ (∀ r, wrOf o ri (.m r) → ¬ rdOf ops oj rj (.m r)) ∧ (∀ k, wrOf oj rj (.t k) → ¬ wrOf o ri (.t k)) ∧ (∀ k, wrOf oj rj (.t k) → ¬ rdOf ops o ri (.t k)) ∧ (∀ k, wrOf o ri (.t k) → ¬ rdOf ops oj rj (.t k)) := by
    have qj := hok j oj hj
    have qi := hok i o hi
    rw [hrj] at qj
    rw [hri] at qi
    have empty : ∀ (o : Oper) (rc : Rec), rc.N = [] → rc.T = [] → (quiet o.op = true ∨ rc.F = []) → (∀ r, ¬ wrOf o rc (.m r)) ∧ ∀ k, ¬ wrOf o rc (.t k) := fun o rc h1 h2 h3 => by
      refine ⟨fun r hr => ?_, fun k hk => ?_⟩
      · rcases hr with ⟨h4, h5⟩ | ⟨k, h4, _⟩
        · rcases h3 with h3 | h3
          · rw [h3] at h4; cases h4
          · rw [h3] at h5; cases h5
        · rw [h1] at h4; cases h4
      · simp only [wrOf, h2] at hk; cases hk
    rcases hb with (⟨hq1, hq2⟩ | ht | ht) | hc
    · obtain ⟨e1, e2⟩ := empty oj rj (qj.1 hq1).1 (qj.1 hq1).2 (.inl hq1)
      obtain ⟨e3, e4⟩ := empty o ri (qi.1 hq2).1 (qi.1 hq2).2 (.inl hq2)
      exact ⟨fun r h => absurd h (e1 r), fun r h => absurd h (e3 r), fun k h => absurd h (e2 k), fun k h => absurd h (e2 k), fun k h => absurd h (e4 k)⟩
    · have := qj.2 ht
      subst this
      obtain ⟨e1, e2⟩ := empty oj Rec.nil rfl rfl (.inr rfl)
      exact ⟨fun r h => absurd h (e1 r), fun r _ h => (by simp [rdOf, Rec.nil] at h), fun k h => absurd h (e2 k), fun k h => absurd h (e2 k), fun k _ h => (by simp [rdOf, Rec.nil] at h)⟩
    · have := qi.2 ht
      subst this
      obtain ⟨e1, e2⟩ := empty o Rec.nil rfl rfl (.inr rfl)
      exact ⟨fun r _ => ⟨fun h => by simp [rdOf, Rec.nil] at h, e1 r⟩, fun r h => absurd h (e1 r), fun k _ => e2 k, fun k _ h => (by simp [rdOf, Rec.nil] at h), fun k h => absurd h (e2 k)⟩
    · have := List.all_eq_true.1 hp (j, i) (by simpa using hc)
      simp only [hrj, hri] at this
      obtain ⟨a1, a2, a3, a4, a5, a6⟩ := Rec.apart_spec this
      refine ⟨fun r hr => ?_, fun r hr hr2 => ?_, fun k hk => a4 k hk, fun k hk ⟨j, h1, h2⟩ => a5 k hk j h1 h2, fun k hk ⟨j, h1, h2⟩ => a6 k hk j h1 h2⟩
      · rcases hr with ⟨_, h1⟩ | ⟨k, h1, rfl⟩
        · refine ⟨a1 r h1, fun h2 => ?_⟩
          rcases h2 with ⟨_, h2⟩ | ⟨k, h2, rfl⟩
          · exact a1 r h1 h2
          · exact a3 k h2 h1
        · refine ⟨(a2 k h1).2, fun h2 => ?_⟩
          rcases h2 with ⟨_, h2⟩ | ⟨k', h2, e⟩
          · exact (a2 k h1).2 h2
          · cases e; exact (a2 k h1).1 h2
      · have hr2' : r ∈ rj.F := hr2
        rcases hr with ⟨_, h1⟩ | ⟨k, h1, rfl⟩
        · exact a1 r hr2' h1
        · exact a3 k h1 hr2'
  constructor
  · rintro x ⟨oj', hj', hw⟩
    rw [hj] at hj'
    cases hj'
    rw [hrj] at hw
    constructor
    · rintro ⟨o', ho', hr⟩
      rw [hi] at ho'
      cases ho'
      rw [hri] at hr
      cases x with
      | e d => exact p1 d hw hr
      | m r => exact (hmem.1 r hw).1 hr
      | t k => exact hmem.2.2.2.1 k hw hr
    · rintro ⟨o', ho', hr⟩
      rw [hi] at ho'
      cases ho'
      rw [hri] at hr
      cases x with
      | e d => exact p2 d hw hr
      | m r => exact (hmem.1 r hw).2 hr
      | t k => exact hmem.2.2.1 k hw hr
  · rintro x ⟨o', ho', hw⟩ ⟨oj', hj', hr⟩
    rw [hi] at ho'
    cases ho'
    rw [hj] at hj'
    cases hj'
    rw [hri] at hw
    rw [hrj] at hr
    cases x with
    | e d => exact p3 d hw hr
    | m r => exact hmem.2.1 r hw hr
    | t k => exact hmem.2.2.2.2 k hw hr

theorem direct_mem {o : Oper} {j : Nat} : j ∈ direct o ↔ ∃ e ∈ o.after, Region.binds .any e = true ∧ e.on = j := by
  simp only [direct, List.mem_map, List.mem_filter, Array.mem_toList_iff]
  constructor
  · rintro ⟨e, ⟨h1, h2⟩, h3⟩; exact ⟨e, h1, h2, h3⟩
  · rintro ⟨e, h1, h2, h3⟩; exact ⟨e, ⟨h1, h2⟩, h3⟩

structure Static (ops : List Oper) (tb : List (List Nat)) (pairs : List (Nat × Nat)) : Prop where
  back : ∀ i o, ops[i]? = some o → ∀ j ∈ direct o, j < i
  anc : ∀ i o, ops[i]? = some o → ∀ x ∈ tb.getD i [], x ∈ direct o ∨ ∃ y ∈ direct o, x ∈ tb.getD y []
  pair : ∀ i o, ops[i]? = some o → ∀ j oj, j < i → ops[j]? = some oj → j ∈ tb.getD i [] ∨ pairB ops pairs j i oj o = true

theorem Static.of {ops : List Oper} {tb : List (List Nat)} {pairs : List (Nat × Nat)} (h : floatOk ops tb pairs = true) : Static ops tb pairs := by
  have key : ∀ i o, ops[i]? = some o → rowB ops tb pairs i o (tb.getD i []) = true := fun i o ho => by
    have hlt : i < ops.length := (List.getElem?_eq_some_iff.1 ho).1
    have := List.all_eq_true.1 h i (List.mem_range.2 hlt)
    simpa only [ho] using this
  refine ⟨fun i o ho j hj => ?_, fun i o ho x hx => ?_, fun i o ho j oj hj hoj => ?_⟩
  · have := key i o ho
    simp only [rowB, Bool.and_eq_true] at this
    simpa using List.all_eq_true.1 this.1.1 j hj
  · have := key i o ho
    simp only [rowB, Bool.and_eq_true] at this
    have := List.all_eq_true.1 this.1.2 x hx
    simp only [Bool.or_eq_true, List.contains_eq_mem, decide_eq_true_eq, List.any_eq_true] at this
    exact this
  · have := key i o ho
    simp only [rowB, Bool.and_eq_true] at this
    have := List.all_eq_true.1 this.2 j (List.mem_range.2 hj)
    simp only [Bool.or_eq_true, List.contains_eq_mem, decide_eq_true_eq, hoj] at this
    exact this

/-- All ancestors of what is ready are listed. -/
theorem anc_listed {ops : List Oper} {tb : List (List Nat)} {pairs : List (Nat × Nat)} {listed : Array Bool} (hs : Static ops tb pairs) (hc : ∀ (i : Nat) (o : Oper), ops[i]? = some o → listed.getD i true = true → ∀ j ∈ direct o, listed.getD j true = true) (hlt : ∀ (i : Nat) (o : Oper), ops[i]? = some o → ∀ j ∈ direct o, j < ops.length) :
    ∀ (i : Nat) (o : Oper), ops[i]? = some o → (∀ j ∈ direct o, listed.getD j true = true) → ∀ x ∈ tb.getD i [], listed.getD x true = true := by
  intro i
  induction i using Nat.strongRecOn with
  | _ i ih =>
    intro o ho hr x hx
    rcases hs.anc i o ho x hx with h | ⟨y, hy, h⟩
    · exact hr x h
    · have hyl := hlt i o ho y hy
      obtain ⟨oy, hoy⟩ : ∃ oy, ops[y]? = some oy := ⟨_, List.getElem?_eq_getElem hyl⟩
      exact ih y (hs.back i o ho y hy) oy hoy (hc y oy hoy (hr y hy)) x h

theorem getD_tf {listed : Array Bool} {i : Nat} (hi : i < listed.size) : listed.getD i true = listed.getD i false := by simp [hi]

theorem anyOps_wp {Fe : Fence} [FW Fe] {ops : Array Oper} {tb : List (List Nat)} {pairs : List (Nat × Nat)} {recs : List Rec} (hS : Sound P Γ) (hs : Static ops.toList tb pairs) (hok : RecOk ops.toList recs) (hp : pairsOk recs pairs = true)
    {Q : Exit → Act → World → Prop} {rd : Rd} {be : List Nat} {df : List Deferred} {dl : List Nat} {st' : St} (hP : PostE w0 rd be df Q .normal st') :
    ∀ (n : Nat) (L : List Nat) (listed : Array Bool) (st : St) (w : World) (l : Lay) (a : Act), L.length = n → listed.size = ops.size → L.Pairwise (· < ·) → (∀ i, i ∈ L ↔ i < ops.size ∧ listed.getD i true = false) →
    (∀ i o, ops.toList[i]? = some o → listed.getD i true = true → ∀ j ∈ direct o, listed.getD j true = true) →
    Chain (fOf P Γ ops.toList) (rOf ops.toList recs) (wOf ops.toList recs) L st st' → Good w0 w l st a → l.rd = { rd with d := dl } → l.be = be → a.defers = mks dl ++ df →
    wpAnyIn Fe 0 P .any ops Q n listed a w := by
  have hlt : ∀ i o, ops.toList[i]? = some o → ∀ j ∈ direct o, j < ops.size := fun i o ho j hj => by
    have h1 := hs.back i o ho j hj
    have h2 : i < ops.toList.length := (List.getElem?_eq_some_iff.1 ho).1
    simp at h2
    omega
  intro n
  induction n with
  | zero =>
    intro L listed st w l a hL hsz hpw hmem hcl hch hg h1 h2 h3
    have hL' : L = [] := List.length_eq_zero_iff.1 hL
    subst hL'
    have e : st = st' := hch
    subst e
    refine ⟨?_, hP a w l dl hg h1 h2 h3⟩
    refine List.eq_nil_iff_forall_not_mem.2 fun i hi => ?_
    obtain ⟨k1, o, k2, _⟩ := mem_ready.1 hi
    have := (hmem i).2 ⟨(Array.getElem?_eq_some_iff.1 k2).1, k1⟩
    cases this
  | succ n ih =>
    intro L listed st w l a hL hsz hpw hmem hcl hch hg h1 h2 h3
    constructor
    · intro hr
      exfalso
      cases L with
      | nil => cases hL
      | cons h L' =>
        have hh := (hmem h).1 (by simp)
        have ho : ops[h]? = some ops[h] := Array.getElem?_eq_getElem hh.1
        have : h ∈ Region.ready .any ops listed := mem_ready.2 ⟨hh.2, _, ho, fun e he hb => by
          have hd : e.on ∈ direct ops[h] := direct_mem.2 ⟨e, he, hb, rfl⟩
          have hlt' := hs.back h _ (by simpa using ho) _ hd
          have hsz' : e.on < ops.size := by omega
          rw [← getD_tf (by omega)]
          cases hx : listed.getD e.on true with
          | true => rfl
          | false =>
            have hm := (hmem e.on).2 ⟨hsz', hx⟩
            rcases List.mem_cons.1 hm with hm | hm
            · omega
            · have := List.rel_of_pairwise_cons hpw hm; omega⟩
        rw [hr] at this
        cases this
    · intro i hi
      obtain ⟨k1, o, k2, k3⟩ := mem_ready.1 hi
      have hisz : i < ops.size := (Array.getElem?_eq_some_iff.1 k2).1
      have ho : ops.toList[i]? = some o := by simpa using k2
      have hdl : ∀ j ∈ direct o, listed.getD j true = true := fun j hj => by
        obtain ⟨e, he, hb, rfl⟩ := direct_mem.1 hj
        rw [getD_tf (by have := hlt i o ho e.on hj; omega)]
        exact k3 e he hb
      have hiL : i ∈ L := (hmem i).2 ⟨hisz, k1⟩
      obtain ⟨L1, L2, rfl⟩ := List.append_of_mem hiL
      have hind : ∀ j ∈ L1, Indep (rOf ops.toList recs) (wOf ops.toList recs) j i := fun j hj => by
        have hji : j < i := (List.pairwise_append.1 hpw).2.2 j hj i (by simp)
        have hj' := (hmem j).1 (by simp [hj])
        have hoj : ops.toList[j]? = some ops[j] := by simp [hj'.1]
        rcases hs.pair i o ho j _ hji hoj with h | h
        · have := anc_listed hs hcl (fun i o ho j hj => by simpa using hlt i o ho j hj) i o ho hdl j h
          rw [hj'.2] at this
          cases this
        · exact indep_of hok hp hoj ho h
      obtain ⟨st1, hf, hch'⟩ := Chain.bubble L1 st hind hch
      have hrun := hf.run
      simp only [fOf, ho] at hrun
      refine stepOp_wp hS hg k2 hrun _ Q ?_
      intro a' w' l' g1 g2 g3 g4
      refine ih (L1 ++ L2) _ st1 w' l' a' (by simp at hL ⊢; omega) (by simpa using hsz) ?_ ?_ ?_ hch' g1 (g2.trans h1) (g3.trans h2) (g4.trans h3)
      · have hp2 := List.pairwise_append.1 hpw
        exact List.pairwise_append.2 ⟨hp2.1, (List.pairwise_cons.1 hp2.2.1).2, fun a ha b hb => hp2.2.2 a ha b (by simp [hb])⟩
      · intro j
        have hp2 := List.pairwise_append.1 hpw
        by_cases hji : j = i
        · subst hji
          constructor
          · intro hj
            exfalso
            rcases List.mem_append.1 hj with hj | hj
            · have := hp2.2.2 j hj j (by simp); omega
            · have := List.rel_of_pairwise_cons hp2.2.1 hj; omega
          · rintro ⟨_, hj⟩
            exfalso
            simp [hsz, hisz] at hj
        · rw [getD_set_ne true (fun e => hji e.symm), ← hmem j]
          simp [hji]
      · intro k ok hk hl j hj
        by_cases hki : k = i
        · subst hki
          rw [ho] at hk
          cases hk
          have := hdl j hj
          by_cases hji : j = k
          · subst hji; simp [hsz, hisz]
          · rw [getD_set_ne true (fun e => hji e.symm)]; exact this
        · rw [getD_set_ne true (fun e => hki e.symm)] at hl
          have := hcl k ok hk hl j hj
          by_cases hji : j = i
          · subst hji; simp [hsz, hisz]
          · rw [getD_set_ne true (fun e => hji e.symm)]; exact this

theorem Good.drew {st : St} {a : Act} (h : Good w0 w l st a) : Good w0 w.drew l st a := ⟨h.1.drew.1, h.2.mono h.1.drew.2⟩

theorem drawn_wp {Fe : Fence} [FW Fe] {id : Nat} {ops : Array Oper} {tb : List (List Nat)} {pairs : List (Nat × Nat)} {recs : List Rec} (hm : P.follows .mixedOrders = true) (hS : Sound P Γ) (hs : floatOk ops.toList tb pairs = true) (hp : pairsOk recs pairs = true)
    {Q : Exit → Act → World → Prop} {st st' : St} {a : Act} {df : List Deferred} (hdf : a.defers = mks l.rd.d ++ df) (hr : runR P Γ ops.toList ops.toList st = some (recs, st')) (hg : Good w0 w l st a) (hP : PostE w0 l.rd l.be df Q .normal st') : (Code.region id ops true).wpIn Fe 0 P Q a w := by
  refine wpIn_region_any hm ?_
  obtain ⟨c1, c2⟩ := chain_of_run (recs := recs) ops.toList 0 recs st st' (fun j => by simp) (fun j => by simp) hr
  have hlen : (List.range' 0 ops.toList.length).length = ops.size := by simp
  rw [← hlen]
  refine anyOps_wp hS (Static.of hs) (fun i o ho => c2 i o ho) hp hP _ _ _ st _ l a rfl (by simp) (List.pairwise_lt_range' ..) ?_ ?_ c1 hg.drew rfl rfl hdf
  · intro i
    simp only [List.mem_range'_1]
    constructor
    · intro h
      have hi : i < ops.size := by simp at h; omega
      exact ⟨hi, by simp [hi]⟩
    · intro h; simp; exact h.1
  · intro i o ho hl j hj
    exfalso
    have hi : i < ops.toList.length := (List.getElem?_eq_some_iff.1 ho).1
    simp at hi
    simp [hi] at hl
end Go.Ev
end
