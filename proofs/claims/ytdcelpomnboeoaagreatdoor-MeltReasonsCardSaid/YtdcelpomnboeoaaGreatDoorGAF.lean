/- Lemmas for the claims of this seat: an evaluator over abstract values, its soundness, and the contracts of the functions of melt that it walks; no premise beyond what each theorem states. -/
import Derived.Test.YtdcelpomnboeoaaGreatDoorGAE

section
set_option linter.all false
set_option linter.unusedVariables false
set_option linter.unusedSimpArgs false
namespace Go.Ev
variable {P : Program}

/-! ### A function -/
def resAt (P : Program) (s : St) : ResultVar → Option AV
  | .tmp t => s.env t
  | .cell a t => match s.env a with
    | some (.ptr r off) => bnd (s.mem r) fun cs => cellsAt P t cs off
    | _ => none
def resAll (P : Program) (s : St) : List ResultVar → Option (List AV)
  | [] => some []
  | x :: r => bnd (resAt P s x) fun v => bnd (resAll P s r) fun vs => some (v :: vs)
def resWrap : List AV → AV
  | [x] => x
  | xs => .tup xs

def ResPost (o : Option (List AV)) (r : AV) : Prop := ∃ vs, o = some vs ∧ AVle (fun _ => none) r (resWrap vs)
@[simp] theorem ResPost_some (vs : List AV) (r : AV) : ResPost (some vs) r ↔ AVle (fun _ => none) r (resWrap vs) := ⟨fun ⟨v, h, hp⟩ => by cases h; exact hp, fun h => ⟨_, rfl, h⟩⟩
structure RetOk (P : Program) (rs : List ResultVar) (s : St) (r : AV) (X : List (List AV)) (O : List (Nat × List AV)) : Prop where
  res : ResPost (resAll P s rs) r
  ext : leX (fun _ => none) X s.ext
  own : leO (fun _ => none) O s.own
  nodup : (O.map (·.1)).Nodup
  ok : okLit [(0, r)] O X [] = true

def FnPost (P : Program) (rs : List ResultVar) (out : Out) : Ex → St → Prop
  | .normal, s => ∃ r X O, out = .ret r X O ∧ RetOk P rs s r X O
  | .ret, s => ∃ r X O, out = .ret r X O ∧ RetOk P rs s r X O
  | .pan v, _ => out = .pan v
  | .exit _, _ => False

def envL : Nat → List AV → Nat → Option AV
  | _, [], _ => none
  | i, x :: xs, e => if e = i then some x else envL (i + 1) xs e
def St.init (nt : Nat) (args : List AV) (ext : List (List AV)) : St := ⟨nt, envL 0 args, fun _ => none, ext, fun _ => none⟩

theorem envL_get : ∀ (xs : List AV) (i d : Nat) (x : AV), envL i xs d = some x → ∃ j, d = i + j ∧ xs[j]? = some x
  | [], i, d, x, h => by cases h
  | y :: xs, i, d, x, h => by
    simp only [envL] at h
    split at h
    · rename_i hd; cases h; exact ⟨0, by omega, by simp⟩
    · obtain ⟨j, h1, h2⟩ := envL_get xs (i + 1) d x h
      exact ⟨j + 1, by omega, by simpa using h2⟩

def resSem (tmps : Array Value) : ResultVar → Sem Value
  | .tmp t => pure (tmps.getD t undef)
  | .cell a t => do loadVar t (← asAddr (tmps.getD a undef))
theorem results_eq (fn : Func) (tmps : Array Value) : results fn tmps = (do let vs ← fn.results.mapM (resSem tmps); pure (if h : vs.size = 1 then vs[0] else .tuple vs)) := rfl

theorem results_run {w : World} {c : Cx} {s : St} {tmps : Array Value} (hm : ∀ r cs, s.mem r = some cs → (cs = [] ∧ c.rb r = none) ∨ ∃ b, c.rb r = some b ∧ objR w c b cs) (he : ER w c s tmps) : ∀ {rs : List ResultVar} {vs : List AV}, resAll P s rs = some vs →
    ∃ us, (rs.mapM (resSem tmps)).run P w = .ok us w ∧ RVs w c vs us
  | [], vs, h => by simp [resAll] at h; subst h; exact ⟨[], by simp, by simp [RVs]⟩
  | x :: rs, vs, h => by
    simp only [resAll] at h
    obtain ⟨v, h1, h⟩ := bnd_eq h
    obtain ⟨vs', h2, h⟩ := bnd_eq h
    cases h
    obtain ⟨us, h3, h4⟩ := results_run hm he h2
    have one : ∃ u, (resSem tmps x).run P w = .ok u w ∧ RV w c v u := by
      cases x with
      | tmp t => exact ⟨_, by simp only [resSem, Sem.run_pure], (he.2 t v h1).2⟩
      | cell a t =>
        simp only [resAt] at h1
        split at h1
        · rename_i r off hr
          obtain ⟨cs, h5, h6⟩ := bnd_eq h1
          have h7 := (he.2 _ _ hr).2
          simp only [RV] at h7
          obtain ⟨b, h9, h8⟩ := h7
          obtain ⟨b', k1, k2⟩ := (hm r cs h5).resolve_left fun x => by rw [h9] at x; cases x.2
          have : b' = b := by
            rw [k1] at h9
            exact Option.some.inj h9
          subst this
          obtain ⟨u, a1, a2⟩ := load_obj (P := P) k2 h6
          exact ⟨u, by simp [resSem, h8, asAddr, a1], a2⟩
        · cases h1
    obtain ⟨u, k1, k2⟩ := one
    refine ⟨u :: us, ?_, by simp only [RVs]; exact ⟨u, us, rfl, k2, h4⟩⟩
    rw [List.mapM_cons]
    simp only [Sem.run_bind, k1, Result.andThen_ok, h3, Sem.run_pure]

theorem resWrap_run {w : World} {c : Cx} {vs : List AV} {us : List Value} (h : RVs w c vs us) : RV w c (resWrap vs) (if h : us.toArray.size = 1 then us.toArray[0] else .tuple us.toArray) := by
  have hl := h.length
  match vs, us, h with
  | [x], us, h =>
    simp only [RVs] at h
    obtain ⟨v, r, h1, h2, h3⟩ := h
    subst h3 h1
    simpa [resWrap] using h2
  | [], us, h =>
    have : us = [] := h
    subst this
    simp only [resWrap, RV]
    exact ⟨[], by simp, by simp [RVs]⟩
  | x :: y :: r, us, h =>
    have hne : ¬ us.toArray.size = 1 := by simp at hl ⊢; omega
    rw [dif_neg hne]
    simp only [resWrap, RV]
    exact ⟨us, rfl, h⟩

theorem MR.init {w : World} {rd : Rd} {be : List Nat} {args : List AV} {ext : List (List AV)} {vs : List Value} {nt : Nat} (hp : Pre w rd be args ext vs) :
    MR w w ⟨{ rd with d := [], e := [] }, be, fun r => match r with | .ext i => be[i]? | .own _ => none, fun _ => .free, fun _ => none, fun _ => none⟩ (St.init nt (asObjL args) (ext.map asObjL)) := by
  have himA : ∀ f b o, (c0 rd be).im f b o → (cx w w ⟨{ rd with d := [], e := [] }, be, fun r => match r with | .ext i => be[i]? | .own _ => none, fun _ => .free, fun _ => none, fun _ => none⟩ (fun _ => none)).im false b o := fun f b o h => .inr ⟨rfl, h⟩
  have hrb : ∀ r b, (c0 rd be).rb r = some b → (cx w w ⟨{ rd with d := [], e := [] }, be, fun r => match r with | .ext i => be[i]? | .own _ => none, fun _ => .free, fun _ => none, fun _ => none⟩ (fun _ => none)).rb r = some b := fun r b h => by cases r <;> exact h
  refine ⟨rfl, rfl, rfl, Nat.le_refl _, fun _ _ _ => rfl, hp.lt, fun _ => rfl, by simp [St.init, hp.len], ?_, ?_, ?_, ?_, ?_, ?_, fun _ _ => rfl, fun _ _ => rfl, hp.rdok, ?_, ?_, ⟨hp.rdz, fun D hD => (by cases hD), List.nodup_nil, fun D hD => (by cases hD)⟩, fun k c z h => (by cases h)⟩
  · intro r r' b h1 h2
    cases r with
    | own k => cases h1
    | ext i => cases r' with
      | own k => cases h2
      | ext j =>
        have hi : i < be.length := (List.getElem?_eq_some_iff.1 h1).1
        have : i = j := (List.getElem?_inj hi hp.nodup).1 (h1.trans h2.symm)
        rw [this]
  · intro r b h
    cases r with
    | own k => cases h
    | ext i =>
      have hi : i < be.length := (List.getElem?_eq_some_iff.1 h).1
      rw [hp.len] at hi
      exact ⟨asObjL ext[i], by simp [St.init, St.mem, hi]⟩
  · intro r cs h
    cases r with
    | own k => cases h
    | ext i =>
      simp only [St.init, St.mem, List.getElem?_map, Option.map_eq_some_iff] at h
      obtain ⟨cs0, h1, rfl⟩ := h
      have hi : i < ext.length := (List.getElem?_eq_some_iff.1 h1).1
      rw [← hp.len] at hi
      have hbi : be[i]? = some be[i] := List.getElem?_eq_getElem hi
      refine .inr ⟨be[i], hbi, ?_⟩
      have := hp.exts i be[i] cs0 hbi h1
      rw [asObjL_eq cs0]
      exact this.map AV.asObj (fun x v hv => RV.asObj himA hrb (fun _ h => .inl h) x v hv)
  · intro r b h
    cases r with
    | own k => cases h
    | ext i => exact hp.lt b (List.mem_of_getElem? h)
  · intro k b h; cases h
  · intro b h; cases h
  · intro k b cap h; cases h
  · intro k k' b c c' h; cases h

/-! ### The end of a frame: its marks are taken -/
mutual
theorem okIn_true : ∀ x : AV, x.okIn (fun _ => true) (fun _ => true) = true
  | .s _ => rfl
  | .sl _ _ _ o _ _ => by cases o <;> rfl
  | .sm _ _ o => by cases o <;> rfl
  | .ptr _ _ => rfl
  | .pv _ _ _ => rfl
  | .fn _ cap => by simp only [AV.okIn]; exact okInL_true cap
  | .ifc _ y => by simp only [AV.okIn]; exact okIn_true y
  | .agg cs => by simp only [AV.okIn]; exact okInL_true cs
  | .tup xs => by simp only [AV.okIn]; exact okInL_true xs
  | .junk => rfl
  | .yl _ _ _ => by simp [AV.okIn]
theorem okInL_true : ∀ xs : List AV, okInL (fun _ => true) (fun _ => true) xs = true
  | [] => rfl
  | x :: xs => by simp only [okInL, okIn_true x, okInL_true xs, Bool.and_self]
end
theorem RV.cz {w : World} {c : Cx} {z : Nat → Prop} (hz : ∀ b L, c.fz b → w.heap[b]? = some (.loop L) → z b) (x : AV) (v : Value) (h : RV w c x v) : RV w { c with fz := z } x v :=
  RV.okIn (c := c) (c' := { c with fz := z }) (R := fun _ => true) (T := fun _ => true) (fun _ _ _ h => h) (fun _ _ _ h => h) (fun _ _ _ _ _ h => h) hz (fun _ _ _ _ _ h => h) x v (okIn_true x) h

/-- The world behind the taking of the marks. -/
def takes : World → List Nat → World
  | w, [] => w
  | w, D :: ds => takes (w.putObj D (.deferred none)) ds
theorem takes_spec : ∀ (d : List Nat) (w : World), (∀ D, D ∈ d → w.heap[D]? = some (.deferred (some []))) → d.Nodup →
    (takes w d).os = w.os ∧ (takes w d).tape = w.tape ∧ (takes w d).output = w.output ∧ (takes w d).heap.size = w.heap.size ∧ (∀ b, b ∉ d → (takes w d).heap[b]? = w.heap[b]?) ∧ (∀ b, b ∈ d → (takes w d).heap[b]? = some (.deferred none))
  | [], w, _, _ => ⟨rfl, rfl, rfl, rfl, fun _ _ => rfl, fun b hb => by cases hb⟩
  | D :: ds, w, h, hn => by
    have hn' := List.nodup_cons.1 hn
    have hD := h D (by simp)
    have hlt : D < w.heap.size := (Array.getElem?_eq_some_iff.1 hD).1
    obtain ⟨a1, a2, a3, a4, a5, a6⟩ := takes_spec ds (w.putObj D (.deferred none)) (fun E hE => by
      rw [World.putObj_heap_other (fun e => hn'.1 (by rw [← e]; exact hE))]
      exact h E (by simp [hE])) hn'.2
    refine ⟨a1, a2, a3, by simp only [takes]; rw [a4]; simp, fun b hb => ?_, fun b hb => ?_⟩
    · simp only [List.mem_cons, not_or] at hb
      simp only [takes]
      rw [a5 b hb.2, World.putObj_heap_other hb.1]
    · simp only [takes]
      by_cases e : b ∈ ds
      · exact a6 b e
      · rw [a5 b e]
        have : b = D := by rcases List.mem_cons.1 hb with h | h; exact h; exact absurd h e
        subst this
        exact World.putObj_heap_same hlt
theorem takes_cell {d : List Nat} {w : World} (h : ∀ D, D ∈ d → w.heap[D]? = some (.deferred (some []))) (hn : d.Nodup) (b o : Nat) : (takes w d).cell? ⟨b, o, none⟩ = w.cell? ⟨b, o, none⟩ := by
  obtain ⟨_, _, _, _, a5, a6⟩ := takes_spec d w h hn
  by_cases hb : b ∈ d
  · simp [World.cell?, a6 b hb, h b hb]
  · exact cell_of_heap (a5 b hb)
theorem leaves_takes {fn : Func} {tmps : Array Value} {R : Ending → World → Prop} {u : FrameMode} (hu : u ≠ .run) {df : List Deferred} : ∀ (d : List Nat) (w : World), (∀ D, D ∈ d → w.heap[D]? = some (.deferred (some []))) → d.Nodup →
    LeavesInM Fence.wide 0 P fn tmps R df u (takes w d) → LeavesInM Fence.wide 0 P fn tmps R (mks d ++ df) u w
  | [], w, _, _, h => h
  | D :: ds, w, hD, hn, h => by
    have hn' := List.nodup_cons.1 hn
    refine ⟨hu, .inl ⟨D, w.putObj D (.deferred none), rfl, run_takeDeferred (hD D (by simp)), ?_⟩⟩
    refine leaves_takes hu ds _ (fun E hE => ?_) hn'.2 h
    rw [World.putObj_heap_other (fun e => hn'.1 (by rw [← e]; exact hE))]
    exact hD E (by simp [hE])

theorem Framed.takes {w w' : World} {be : List Nat} {d : List Nat} (h : Framed w w' be) (hD : ∀ D, D ∈ d → w.heap.size ≤ D ∧ w'.heap[D]? = some (.deferred (some []))) (hn : d.Nodup) : Framed w (takes w' d) be := by
  obtain ⟨a1, a2, a3, a4, a5, _⟩ := takes_spec d w' (fun D h => (hD D h).2) hn
  obtain ⟨f1, f2, f3, f4, f5⟩ := h
  refine ⟨a1.trans f1, a2.trans f2, a3.trans f3, by rw [a4]; exact f4, fun b hb hnb => ?_⟩
  rw [a5 b (fun hd => absurd (hD b hd).1 (Nat.not_le.2 hb))]
  exact f5 b hb hnb

/-- What is told at the end of a frame, in a world that is like its last one. -/
theorem ret_core {w w' wB w'' : World} {l : Lay} {s : St} {a : Act} {rd : Rd} {be : List Nat} {rs : List ResultVar} {r : AV} {X : List (List AV)} {O : List (Nat × List AV)} (hr : RetOk P rs s r X O)
    (hg : Good w w' l s a) (h2 : l.be = be) (ec : l.rd.c = rd.c) (z : Nat → Prop) (hz : ∀ b L, (cx w w' l s.tok).fz b → w'.heap[b]? = some (.loop L) → z b) (hzb : ∀ b, z b → w''.heap[b]? = w'.heap[b]?) (hzz : ∀ b, z b → rd.z b)
    (hB : wB.heap.size = w.heap.size) (t4 : w''.heap.size = w'.heap.size) (hcell : ∀ b o, w''.cell? ⟨b, o, none⟩ = w'.cell? ⟨b, o, none⟩)
    (hrow : ∀ (b : Nat) (cv : Array Value) (T : TypeId) (p : Nat × Nat), w'.heap[b]? = some (Obj.cells cv T p) → w''.heap[b]? = some (Obj.cells cv T p)) (hF : Framed wB w'' be) :
    ∃ us, (rs.mapM (resSem a.tmps)).run P w'' = .ok us w'' ∧ OutR wB rd be (.ret r X O) (.returned (if h : us.toArray.size = 1 then us.toArray[0] else .tuple us.toArray)) w'' := by
  let c : Cx := { cx w w' l s.tok with fz := z }
  have hcz : ∀ x v, RV w' (cx w w' l s.tok) x v → RV w' c x v := fun x v h => RV.cz hz x v h
  have hle : Cx.le w' c w'' c := ⟨fun _ _ _ h => h, fun f b o _ => hcell b o, fun _ _ h => h, fun _ _ _ _ h => h, fun _ h => h, fun b hb => hzb b hb, fun _ _ _ h => h⟩
  have hv : ∀ x v, RV w' (cx w w' l s.tok) x v → RV w'' c x v := fun x v h => RV.mono hle x v (hcz x v h)
  have hobj : ∀ rf cs, s.mem rf = some cs → (cs = [] ∧ c.rb rf = none) ∨ ∃ b, c.rb rf = some b ∧ objR w'' c b cs := fun rf cs hcs => by
    rcases hg.1.obj rf cs hcs with e0 | ⟨b, q1, cv, T, q2, q3, q4⟩
    · exact .inl e0
    refine .inr ⟨b, q1, cv, T, hrow b cv T _ q2, q3, fun j x hj => ?_⟩
    obtain ⟨v, b1, b2, b3⟩ := q4 j x hj
    exact ⟨v, b1, b2, hv x v b3⟩
  have hER : ER w'' c s a.tmps := ⟨hg.2.1, fun e x hx => ⟨(hg.2.2 e x hx).1, hv _ _ (hg.2.2 e x hx).2⟩⟩
  obtain ⟨vs', k1, k2⟩ := hr.res
  obtain ⟨us, k3, k4⟩ := results_run (P := P) hobj hER k1
  refine ⟨us, k3, ?_⟩
  have hok := hr.ok
  simp only [okLit, Bool.and_eq_true, List.all_eq_true, List.map_cons, List.map_nil, okInL, Bool.and_true] at hok
  obtain ⟨⟨o1, o2⟩, o3⟩ := hok
  let ob : Nat → Option Nat := fun k => if (O.any fun p => p.1 == k) = true then l.rb (.own k) else none
  have hob : ∀ k b, ob k = some b → l.rb (.own k) = some b ∧ (O.any fun p => p.1 == k) = true := fun k b hk => by
    simp only [ob] at hk
    split at hk
    · rename_i hh; exact ⟨hk, hh⟩
    · cases hk
  obtain ⟨x1, x2⟩ := leX_get hr.ext
  have conv : ∀ (x y : AV) (v : Value), AVle (fun _ => none) x y → x.okIn (hasO O X.length) (hasT []) = true → RV w'' c y v → RV w'' (c1 wB w'' rd be ob) x v := by
    intro x y v hxy hok' hv
    refine hxy.sound (c := c) (c' := c1 wB w'' rd be ob) (T := hasT []) ?_ ?_ ?_ ?_ (fun d n a h => by cases h) (fun b L h _ => hzz b h) (fun k z c h => by simp [hasT] at h) hok' hv
    · intro f b o hi
      rcases hi with ⟨i1, i2, i3⟩ | ⟨i1, i2⟩
      · refine .inl ⟨by rw [hB]; exact i1, by rw [t4]; exact i2, fun k hk => ?_⟩
        have := (hg.1.rbow k b (hob k b hk).1).2
        rw [this] at i3
        exact i3
      · exact .inr ⟨i1, by rw [ec] at i2; exact i2⟩
    · intro f b o hi
      exact hi.imp id (fun h => ⟨rfl, h.2⟩)
    · intro r' b hr' hb'
      cases r' with
      | own k =>
        have : ob k = l.rb (.own k) := by simp only [ob]; exact if_pos hr'
        show ob k = some b
        rw [this]; exact hb'
      | ext i =>
        show be[i]? = some b
        rw [← h2, ← hg.1.ext i]; exact hb'
    · intro k n a cap hk; simp [hasT] at hk
  have objc : ∀ (b : Nat) (cs cs' : List AV), AVles (fun _ => none) cs cs' → okInL (hasO O X.length) (hasT []) cs = true → objR w'' c b cs' → objR w'' (c1 wB w'' rd be ob) b cs := by
    intro b cs cs' hcs hok' ho
    obtain ⟨cv, T, q1, q2, q3⟩ := ho
    refine ⟨cv, T, q1, by rw [hcs.length]; exact q2, fun j x hj => ?_⟩
    obtain ⟨y, hy, hxy⟩ := hcs.get hj
    obtain ⟨v, a1, a2, a3⟩ := q3 j y hy
    exact ⟨v, a1, a2, conv x y v hxy (okInL_get hok' x (List.mem_of_getElem? hj)) a3⟩
  refine ⟨_, ob, rfl, ?_⟩
  refine ⟨hF, ?_, ?_, ?_, ?_, hr.nodup, ?_, ?_, ?_⟩
  · rw [x1, hg.1.extn, h2]
  · intro k k' b e1 e2
    have := hg.1.inj _ _ _ (hob k b e1).1 (hob k' b e2).1
    cases this; rfl
  · intro k b e1
    exact ⟨by rw [hB]; exact (hg.1.rbow k b (hob k b e1).1).1, by rw [t4]; exact hg.1.rblt _ b (hob k b e1).1⟩
  · intro k b e1
    obtain ⟨p, hp, hk⟩ := List.any_eq_true.1 (hob k b e1).2
    exact ⟨p.2, by rw [← (by simpa using hk : p.1 = k)]; exact hp⟩
  · intro p hp
    obtain ⟨cs', e1, e2⟩ := leO_mem hr.own p hp
    rcases hobj (.own p.1) cs' e1 with ⟨e3, e4⟩ | ⟨b, e3, e4⟩
    · refine .inl ⟨List.length_eq_zero_iff.1 (by rw [e2.length, e3]; rfl), ?_⟩
      simp only [ob]
      split
      · exact e4
      · rfl
    refine .inr ⟨b, ?_, objc b _ _ e2 (o2 p hp) e4⟩
    simp only [ob]
    rw [if_pos (List.any_eq_true.2 ⟨p, hp, by simp⟩)]
    exact e3
  · intro i b cs e1 e2
    obtain ⟨cs', e3, e4⟩ := x2 i cs e2
    obtain ⟨b', e5, e6⟩ := (hobj (.ext i) cs' e3).resolve_left fun x => by
      have e7 : l.rb (.ext i) = none := x.2
      rw [hg.1.ext i, h2, e1] at e7; cases e7
    have : b' = b := by
      have e7 := hg.1.ext i
      have e5' : l.rb (.ext i) = some b' := e5
      rw [e5', h2, e1] at e7
      exact Option.some.inj e7
    subst this
    exact objc _ _ _ e4 (o3 cs (List.mem_of_getElem? e2)) e6
  · exact conv r _ _ k2 o1 (resWrap_run k4)

/-- What is told at the end of a frame, in the world behind its marks. -/
theorem ret_out {w w' : World} {l : Lay} {s : St} {a : Act} {rd : Rd} {be : List Nat} {d : List Nat} {rs : List ResultVar} {r : AV} {X : List (List AV)} {O : List (Nat × List AV)} (hr : RetOk P rs s r X O)
    (hg : Good w w' l s a) (h1 : l.rd = { rd with d := d, e := [] }) (h2 : l.be = be) :
    ∃ us, (rs.mapM (resSem a.tmps)).run P (takes w' d) = .ok us (takes w' d) ∧ OutR w rd be (.ret r X O) (.returned (if h : us.toArray.size = 1 then us.toArray[0] else .tuple us.toArray)) (takes w' d) := by
  have ed : l.rd.d = d := by rw [h1]
  have ee : l.rd.e = [] := by rw [h1]
  have ez : l.rd.z = rd.z := by rw [h1]
  have ec : l.rd.c = rd.c := by rw [h1]
  have hdz : ∀ D, D ∈ d → w.heap.size ≤ D ∧ w'.heap[D]? = some (.deferred (some [])) := fun D hD => by
    have := hg.1.fzs.d D (by rw [ed]; exact hD)
    exact ⟨this.1, this.2.2.2⟩
  have hdn : d.Nodup := by rw [← ed]; exact hg.1.fzs.nd
  have hd2 : ∀ D, D ∈ d → w'.heap[D]? = some (.deferred (some [])) := fun D hD => (hdz D hD).2
  obtain ⟨t1, t2, t3, t4, t5, t6⟩ := takes_spec d w' hd2 hdn
  refine ret_core hr hg h2 ec rd.z (fun b L hb hL => ?_) (fun b hb => t5 b fun hd => ?_) (fun _ h => h) rfl t4 (fun b o => takes_cell hd2 hdn b o) (fun b cv T p q2 => ?_) ?_
  · rcases hb with hb | hb
    · rw [ez] at hb; exact hb
    · rw [ed, ee, List.append_nil] at hb; rw [hd2 b hb] at hL; cases hL
  · have := hg.1.fzs.z b (by rw [ez]; exact hb)
    exact absurd (hdz b hd).1 (Nat.not_le.2 this.1)
  · rw [t5 b (fun hd => by rw [hd2 b hd] at q2; cases q2)]; exact q2
  · have := (Framed.of_MR hg.1).takes hdz hdn; rw [h2] at this; exact this

/-- A frame as it begins. -/
theorem Good.init {w : World} {rd : Rd} {be : List Nat} {args : List AV} {ext : List (List AV)} {vs : List Value} {nt : Nat} (hp : Pre w rd be args ext vs) (hsz : args.length ≤ nt) :
    Good w w ⟨{ rd with d := [], e := [] }, be, fun r => match r with | .ext i => be[i]? | .own _ => none, fun _ => .free, fun _ => none, fun _ => none⟩ (St.init nt (asObjL args) (ext.map asObjL)) { tmps := vs.toArray ++ Array.replicate (nt - vs.toArray.size) undef, defers := [] } := by
  have hlen : vs.length = args.length := hp.args.length
  refine ⟨MR.init hp, ?_⟩
  refine ⟨by simp [St.init]; omega, fun d x hd => ?_⟩
  obtain ⟨j, rfl, hj⟩ := envL_get _ _ _ _ hd
  rw [asObjL_eq, List.getElem?_map, Option.map_eq_some_iff] at hj
  obtain ⟨y, hy, rfl⟩ := hj
  obtain ⟨v, k1, k2⟩ := hp.args.get j y hy
  have hjl : j < args.length := (List.getElem?_eq_some_iff.1 hy).1
  refine ⟨by simp [St.init]; omega, ?_⟩
  have : (vs.toArray ++ Array.replicate (nt - vs.toArray.size) undef).getD (0 + j) undef = v := by
    have hjv : j < vs.toArray.size := by simp; omega
    have k1' : vs.toArray[j] = v := by
      have : vs[j]? = some vs.toArray[j] := by simp
      rw [this] at k1
      exact Option.some.inj k1
    simp only [Nat.zero_add, Array.getD_eq_getD_getElem?]
    rw [Array.getElem?_append_left hjv]
    rw [Array.getElem?_eq_getElem hjv, k1']
    try rfl
  rw [this]
  exact RV.asObj (c := c0 rd be) (fun f b o h => Or.inr ⟨rfl, h⟩) (fun r b h => by cases r <;> exact h) (fun _ h => Or.inl h) y v k2

theorem acalls_of_ew {f : FuncId} {fn : Func} {c : Code} {args : List AV} {ext : List (List AV)} {out : Out} (hf : P.funcs[f]? = some fn) (hb : fn.body = some c) (hname : (fn.name == "runtime.NumGoroutine") = false) (hsz : args.length ≤ fn.ntmps) {rs : List ResultVar} (hrs : fn.results.toList = rs)
    (h : EW (Fe := Fence.wide) P c (St.init fn.ntmps (asObjL args) (ext.map asObjL)) (FnPost P rs out)) (hy : f ≠ YID := by decide) : ACalls P f args ext out := by
  unfold ACalls
  rw [if_neg hy]
  refine ⟨⟨fn, c, hf, hb, hname⟩, fun w rd be vs hp => callsIn_wide.1 (callsIn_of_wp_marks (n := 0) hf hb trivial ?_)⟩
  refine h w w _ _ [] _ (Good.init hp hsz) rfl ?_
  intro x s hx
  have fin : ∀ (r : AV) (X : List (List AV)) (O : List (Nat × List AV)), out = .ret r X O → RetOk P rs s r X O → ∀ (a : Act) (w' : World) (l : Lay) (d : List Nat), Good w w' l s a → l.rd = { rd with d := d, e := [] } → l.be = be → a.defers = mks d ++ [] →
      LeavesInM Fence.wide 0 P fn a.tmps (OutR w rd be out) a.defers .returning w' := by
    intro r X O hout hr a w' l d hg h1 h2 h3
    subst hout
    have ed : l.rd.d = d := by rw [h1]
    rw [h3]
    refine leaves_takes (by simp) d w' (fun D hD => (hg.1.fzs.d D (by rw [ed]; exact hD)).2.2.2) (by rw [← ed]; exact hg.1.fzs.nd) ?_
    obtain ⟨us, k1, k2⟩ := ret_out hr hg h1 h2
    refine ⟨_, ?_, k2⟩
    rw [results_eq]
    rw [Array.mapM_eq_mapM_toList, hrs]
    simp only [Sem.run_bind, Sem.run_map, k1, Result.andThen_ok, Sem.run_pure]
  cases x with
  | normal =>
    obtain ⟨r, X, O, h1, h2⟩ := hx
    intro a w' l d g1 g2 g3 g4
    exact fin r X O h1 h2 a w' l d g1 g2 g3 g4
  | ret =>
    obtain ⟨r, X, O, h1, h2⟩ := hx
    intro a w' l d g1 g2 g3 g4
    exact fin r X O h1 h2 a w' l d g1 g2 g3 g4
  | exit id => exact hx.elim
  | pan v =>
    have hx' : out = .pan v := hx
    subst hx'
    intro a w' d hF hD hn hdf
    show LeavesInM Fence.wide 0 P fn a.tmps _ a.defers (.panicking (pchain v)) w'
    rw [hdf]
    refine leaves_takes (by simp) d w' (fun D h => (hD D h).2) hn ?_
    exact ⟨rfl, hF.takes hD hn⟩

/-- The result is a slice, and all the room behind it is new; or it is nil. -/
def TokPost (P : Program) (x : Nat) (k : Knd) (n z : Nat) (cs : List D) : Ex → St → Prop
  | .normal, _ => False
  | .ret, s => (∃ g d k', s.env x = some (.sl true g k' (.tok d) n cs) ∧ s.tok d = some (n, z) ∧ (k = k' ∨ k = .U)) ∨ (∃ f g, s.env x = some (.sl f g .Z .full n cs) ∧ n = 0 ∧ k ≠ .E)
  | .pan v, _ => False
  | .exit _, _ => False

theorem acalls_tok {f : FuncId} {fn : Func} {c : Code} {args : List AV} {k : Knd} {n z : Nat} {cs : List D} (hf : P.funcs[f]? = some fn) (hb : fn.body = some c) (hname : (fn.name == "runtime.NumGoroutine") = false) (hsz : args.length ≤ fn.ntmps) {x : Nat} (hrs : fn.results.toList = [.tmp x])
    (hcs : cs.length ≤ n * z) (hsc : ∀ d ∈ cs, ∃ v, d = .s v)
    (h : EW (Fe := Fence.wide) P c (St.init fn.ntmps (asObjL args) []) (TokPost P x k n z cs)) (hy : f ≠ YID := by decide) : ACalls P f args [] (.rtok k n z cs) := by
  unfold ACalls
  rw [if_neg hy]
  refine ⟨⟨fn, c, hf, hb, hname⟩, fun w rd be vs hp => callsIn_wide.1 (callsIn_of_wp_marks (n := 0) hf hb trivial ?_)⟩
  have hbe0 : be = [] := List.length_eq_zero_iff.1 hp.len
  subst hbe0
  refine h w w _ _ [] _ (Good.init hp hsz) rfl ?_
  intro e s hx
  cases e with
  | normal => exact hx.elim
  | exit id => exact hx.elim
  | pan v => exact hx.elim
  | ret =>
    intro a w' l d hg h1 h2 h3
    have ed : l.rd.d = d := by rw [h1]
    have hdz : ∀ D, D ∈ d → w.heap.size ≤ D ∧ w'.heap[D]? = some (.deferred (some [])) := fun D hD => by
      have := hg.1.fzs.d D (by rw [ed]; exact hD)
      exact ⟨this.1, this.2.2.2⟩
    have hdn : d.Nodup := by rw [← ed]; exact hg.1.fzs.nd
    show LeavesInM Fence.wide 0 P fn a.tmps _ a.defers .returning w'
    rw [h3]
    refine leaves_takes (by simp) d w' (fun D hD => (hdz D hD).2) hdn ?_
    obtain ⟨t1, t2, t3, t4, t5, t6⟩ := takes_spec d w' (fun D hD => (hdz D hD).2) hdn
    have hF : Framed w (takes w' d) [] := by
      have := (Framed.of_MR hg.1).takes hdz hdn
      rw [h2] at this
      exact this
    have hres : (results fn a.tmps).run P (takes w' d) = .ok (a.tmps.getD x undef) (takes w' d) := by
      rw [results_eq, Array.mapM_eq_mapM_toList, hrs]
      simp [resSem]
    refine ⟨_, hres, ?_⟩
    simp only [OutR]
    rcases hx with ⟨g, td, k', e1, e2, ek⟩ | ⟨f, g, e1, e2, e3⟩
    · have hv := (hg.2.2 x _ e1).2
      simp only [RV] at hv
      obtain ⟨ad, cap, q1, q2, q3, q4⟩ := hv
      refine ⟨ad, cap, by rw [q1], hF, q2, ?_⟩
      obtain ⟨n', z', r1, r2, r3⟩ := q4
      rw [e2] at r1
      cases r1
      have r3 := r3 rfl
      cases ad with
      | none => exact ⟨q3.1, q3.2.1, q3.2.2.1, by rcases ek with rfl | rfl; exact q3.2.2.2; simp⟩
      | some A =>
        refine ⟨q3.1, by rcases ek with rfl | rfl; exact q3.2.1; simp, hcs, RDs.of_get fun j dd hj => ?_, ?_⟩
        · obtain ⟨i1, v, i2, i3, i4⟩ := q3.2.2.get j dd hj
          have i1' : fresh w w' l A.block (A.off + j) := by
            rcases i1 with i1 | ⟨i1, _⟩
            · exact i1
            · cases i1
          obtain ⟨u, rfl⟩ := hsc dd (List.mem_of_getElem? hj)
          exact ⟨⟨i1'.1, by rw [t4]; exact i1'.2.1⟩, v, by rw [takes_cell (fun D hD => (hdz D hD).2) hdn]; exact i2, i3, by simpa [RD] using i4⟩
        · cases hb : l.bt td with
          | none => rw [hb] at r3; exact .inl r3
          | some q =>
            obtain ⟨b, cap'⟩ := q
            rw [hb] at r3
            simp only at r3
            obtain ⟨r3, rfl⟩ := r3
            cases r3
            obtain ⟨n2, z2, u1, u2, u3, u4, u5, cv, T, u6, u7⟩ := hg.1.tokd td b cap hb
            rw [e2] at u1
            cases u1
            exact .inr ⟨rfl, rfl, u3, cv, T, by rw [t5 b (fun hd => by rw [(hdz b hd).2] at u6; cases u6)]; exact u6, u7⟩
    · have hv := (hg.2.2 x _ e1).2
      simp only [RV] at hv
      obtain ⟨ad, cap, q1, q2, q3, q4⟩ := hv
      subst e2
      refine ⟨ad, cap, by rw [q1], hF, q2, ?_⟩
      cases ad with
      | none => exact ⟨q3.1, q3.2.1, q3.2.2.1, e3⟩
      | some A => exact absurd rfl (q3.2.1 rfl)
/-- Whether a slice is nil is told by cases. -/
theorem ACalls.knd {P : Program} {f : FuncId} {n : Nat} {cs : List D} {out : Out} (hE : ACalls P f [.sl false false .E .no n cs] [] out) (hZ : ACalls P f [.sl false false .Z .no n cs] [] out) (hy : f ≠ YID := by decide) : ACalls P f [.sl false false .U .no n cs] [] out := by
  unfold ACalls at hE hZ ⊢
  rw [if_neg hy] at hE hZ ⊢
  refine ⟨hE.1, fun w rd be vs hp => ?_⟩
  have hargs := hp.args
  simp only [RVs, RV] at hargs
  obtain ⟨v, r, e1, ⟨a, cap, h1, h2, h3, h4⟩, h5⟩ := hargs
  cases a with
  | none =>
    refine hZ.2 w rd be vs ⟨hp.rdok, hp.rdz, hp.nodup, hp.len, hp.lt, hp.exts, ?_⟩
    simp only [RVs, RV]
    exact ⟨v, r, e1, ⟨none, cap, h1, h2, ⟨h3.1, h3.2.1, h3.2.2.1, by simp⟩, h4⟩, h5⟩
  | some ad =>
    refine hE.2 w rd be vs ⟨hp.rdok, hp.rdz, hp.nodup, hp.len, hp.lt, hp.exts, ?_⟩
    simp only [RVs, RV]
    exact ⟨v, r, e1, ⟨some ad, cap, h1, h2, ⟨h3.1, by simp, h3.2.2⟩, h4⟩, h5⟩
end Go.Ev
end

section
set_option linter.all false
set_option linter.unusedVariables false
set_option linter.unusedSimpArgs false
namespace Go.Ev
variable {P : Program}

/-! ### Plain operations on plain values -/
abbrev wr (n : Int) : Int := IntKind.i64.wrap n
@[simp] theorem wr_def (n : Int) : wr n = IntKind.i64.wrap n := rfl
theorem wr_small {n : Int} (h1 : -9223372036854775808 ≤ n) (h2 : n < 9223372036854775808) : wr n = n := by
  simp only [wr, IntKind.wrap, IntKind.signed, IntKind.bits]
  simp
  split <;> omega

section
variable (t : TypeId) (x y : Operand) (a b : Int) (k : IntKind)
@[simp] theorem q_add : qBinP P .add t x y (some (.int k a)) (some (.int k b)) = some (.s (.int k (k.wrap (a + b)))) := by
  simp [qBinP, eqGuard, binOp, Op.intArith, AV.ofVal, AV.ofCell, AV.ofFn]
@[simp] theorem q_sub : qBinP P .sub t x y (some (.int k a)) (some (.int k b)) = some (.s (.int k (k.wrap (a - b)))) := by
  simp [qBinP, eqGuard, binOp, Op.intArith, AV.ofVal, AV.ofCell, AV.ofFn]
@[simp] theorem q_mul : qBinP P .mul t x y (some (.int k a)) (some (.int k b)) = some (.s (.int k (k.wrap (a * b)))) := by
  simp [qBinP, eqGuard, binOp, Op.intArith, AV.ofVal, AV.ofCell, AV.ofFn]
theorem q_quo (h : b ≠ 0) : qBinP P .quo t x y (some (.int k a)) (some (.int k b)) = some (.s (.int k (k.wrap (a.tdiv b)))) := by
  simp [qBinP, eqGuard, binOp, Op.intDiv, AV.ofVal, AV.ofCell, AV.ofFn, h]
theorem q_rem (h : b ≠ 0) : qBinP P .rem t x y (some (.int k a)) (some (.int k b)) = some (.s (.int k (a.tmod b))) := by
  simp [qBinP, eqGuard, binOp, Op.intDiv, AV.ofVal, AV.ofCell, AV.ofFn, h]
@[simp] theorem q_lss : qBinP P .lss t x y (some (.int k a)) (some (.int k b)) = some (.s (.bool (decide (a < b)))) := by
  simp [qBinP, eqGuard, binOp, Op.intCmp, AV.ofVal, AV.ofCell, AV.ofFn]
@[simp] theorem q_leq : qBinP P .leq t x y (some (.int k a)) (some (.int k b)) = some (.s (.bool (decide (a ≤ b)))) := by
  simp [qBinP, eqGuard, binOp, Op.intCmp, AV.ofVal, AV.ofCell, AV.ofFn]
@[simp] theorem q_gtr : qBinP P .gtr t x y (some (.int k a)) (some (.int k b)) = some (.s (.bool (decide (b < a)))) := by
  simp [qBinP, eqGuard, binOp, Op.intCmp, AV.ofVal, AV.ofCell, AV.ofFn]
@[simp] theorem q_geq : qBinP P .geq t x y (some (.int k a)) (some (.int k b)) = some (.s (.bool (decide (b ≤ a)))) := by
  simp [qBinP, eqGuard, binOp, Op.intCmp, AV.ofVal, AV.ofCell, AV.ofFn]
@[simp] theorem q_eql : qBinP P .eql t x y (some (.int k a)) (some (.int k b)) = some (.s (.bool (decide (a = b)))) := by
  simp [qBinP, eqGuard, binOp, Op.intCmp, AV.ofVal, AV.ofCell, AV.ofFn]
  exact (Bool.beq_eq_decide_eq a b)
@[simp] theorem q_neq : qBinP P .neq t x y (some (.int k a)) (some (.int k b)) = some (.s (.bool (decide (a ≠ b)))) := by
  simp [qBinP, eqGuard, binOp, Op.intCmp, AV.ofVal, AV.ofCell, AV.ofFn]
  rw [bne, Bool.beq_eq_decide_eq]
@[simp] theorem q_not (c : Bool) : qUn P .not [.s (.bool c)] = some (.s (.bool (!c))) := by
  simp [qUn, Op.unary, AV.ofVal, AV.ofCell, AV.ofFn]
end

def xorI (k : IntKind) (a b : Int) : Int := k.wrap (BitVec.ofInt k.bits a ^^^ BitVec.ofInt k.bits b).toNat
section
variable (t : TypeId) (x y : Operand) (a b : Int) (k k' : IntKind)
@[simp] theorem q_xor : qBinP P .xor t x y (some (.int k a)) (some (.int k b)) = some (.s (.int k (xorI k a b))) := by
  simp [qBinP, eqGuard, binOp, Op.intBits, AV.ofVal, AV.ofCell, AV.ofFn, xorI]
theorem q_shl (h : ¬ b < 0) : qBinP P .shl t x y (some (.int k a)) (some (.int k' b)) = some (.s (.int k (k.wrap (a * 2 ^ (min b.toNat k.bits))))) := by
  simp [qBinP, eqGuard, binOp, Op.shift, AV.ofVal, AV.ofCell, AV.ofFn, h]
theorem q_shr (h : ¬ b < 0) : qBinP P .shr t x y (some (.int k a)) (some (.int k' b)) = some (.s (.int k (a.fdiv (2 ^ (min b.toNat k.bits))))) := by
  simp [qBinP, eqGuard, binOp, Op.shift, AV.ofVal, AV.ofCell, AV.ofFn, h]
theorem pureP_bind {α β : Type} (P : Program) : ∀ (x : Sem α) (f : α → Sem β) (a : α), pureP P x = some a → pureP P (x >>= f) = pureP P (f a)
  | .pure b, f, a, h => by simp [pureP] at h; subst h; rfl
  | .program k, f, a, h => by
    simp only [pureP] at h
    exact pureP_bind P (k P) f a h
theorem underlying_pure (c : TypeId) (ud : TypeDesc) (h : P.underlying c = some ud) : pureP P (underlying c) = some ud := by
  show pureP P (program >>= fun p => match p.underlying c with | some d => pure d | none => stuck "no such type") = _
  rw [pureP_bind P program _ P rfl, h]
  rfl
theorem conv_int (c d : TypeId) (ud : TypeDesc) (h1 : P.underlying c = some ud) (h2 : P.underlying d = some (.int k')) : qConv P c d [.s (.int k a)] = some (.s (.int k' (k'.wrap a))) := by
  have : pureP P (convert c d (.int k a)) = some (.int k' (k'.wrap a)) := by
    unfold convert
    rw [pureP_bind P _ _ _ (underlying_pure c ud h1), pureP_bind P _ _ _ (underlying_pure d _ h2)]
    cases ud <;> rfl
  simp [qConv, this, AV.ofVal, AV.ofCell, AV.ofFn]
end
/-- The contracts of some calls. -/
noncomputable def gOf : List (FuncId × List AV × List (List AV) × Out) → FuncId → List AV → List (List AV) → Option Out
  | [], _, _, _ => none
  | (f, a, e, o) :: L, f', a', e' => open Classical in if f' = f ∧ a' = a ∧ e' = e then some o else gOf L f' a' e'
theorem gs_nil : Sound P (gOf []) := fun f a e o h => by cases h
theorem gs_cons {f : FuncId} {a : List AV} {e : List (List AV)} {o : Out} {L : List (FuncId × List AV × List (List AV) × Out)} (h : ACalls P f a e o) (hL : Sound P (gOf L)) : Sound P (gOf ((f, a, e, o) :: L)) := by
  intro f' a' e' o' hg
  simp only [gOf] at hg
  split at hg
  · rename_i hc
    obtain ⟨rfl, rfl, rfl⟩ := hc
    cases hg; exact h
  · exact hL _ _ _ _ hg
attribute [simp] gOf
/-- A table with a function of its own for f. -/
def gAlt (f : FuncId) (g : List AV → List (List AV) → Option Out) (Γ : Gam) : Gam := fun f' a e => if f' = f then g a e else Γ f' a e
theorem gAlt_sound {f : FuncId} {g : List AV → List (List AV) → Option Out} {Γ : Gam} (h : ∀ a e o, g a e = some o → ACalls P f a e o) (hΓ : Sound P Γ) : Sound P (gAlt f g Γ) := by
  intro f' a e o hg
  simp only [gAlt] at hg
  split at hg
  · rename_i hf; subst hf; exact h a e o hg
  · exact hΓ f' a e o hg
def gOr (Γ Γ' : Gam) : Gam := fun f a e => match Γ f a e with | some o => some o | none => Γ' f a e
theorem gOr_sound {Γ Γ' : Gam} (h : Sound P Γ) (h' : Sound P Γ') : Sound P (gOr Γ Γ') := by
  intro f a e o hg
  simp only [gOr] at hg
  split at hg
  · rename_i ho; cases hg; exact h f a e o ho
  · exact h' f a e o hg
attribute [simp] gAlt gOr

/-! ### Laws form by form -/
section
variable (k : IntKind) (n : Int) (b : Bool) (f g : Bool) (kd : Knd) (o : Own) (m : Nat) (cs : List D) (r : Ref) (xs : List AV)
@[simp] theorem av_int : (D.s (.int k n)).av f g = .s (.int k n) := rfl
@[simp] theorem av_bool : (D.s (.bool b)).av f g = .s (.bool b) := rfl
@[simp] theorem av_fn (i : FuncId) : (D.s (.func (.func i) #[] #[])).av f g = .fn i [] := rfl
@[simp] theorem av_sl : (D.sl m cs).av f g = .sl g g .U .no m cs := rfl
@[simp] theorem val_s (v : Value) : (AV.s v).val? = some v := rfl
@[simp] theorem val_sl : (AV.sl f g .U o m cs).val? = none := rfl
@[simp] theorem val_sl_no : (AV.sl f g kd .no m cs).val? = none := by cases kd <;> rfl
@[simp] theorem val_agg : (AV.agg xs).val? = (xs.mapM AV.cell?).map fun l => .agg l.toArray := rfl
@[simp] theorem cell_int : (AV.s (.int k n)).cell? = some (.int k n) := rfl
@[simp] theorem cell_bool : (AV.s (.bool b)).cell? = some (.bool b) := rfl
@[simp] theorem isCell_int : (AV.s (.int k n)).isCell = true := rfl
@[simp] theorem isCell_bool : (AV.s (.bool b)).isCell = true := rfl
@[simp] theorem isCell_ptr0 : (AV.s (.pointer none)).isCell = true := rfl
@[simp] theorem isCell_sl : (AV.sl f g kd o m cs).isCell = true := rfl
@[simp] theorem isCell_sm (w : Own) : (AV.sm r m w).isCell = true := rfl
@[simp] theorem isCell_ptr : (AV.ptr r m).isCell = true := rfl
@[simp] theorem isCell_pv : (AV.pv f g cs).isCell = true := rfl
@[simp] theorem isCell_fn (i : FuncId) : (AV.fn i xs).isCell = true := rfl
@[simp] theorem isCell_ifc (t : TypeId) (x : AV) : (AV.ifc t x).isCell = true := rfl
@[simp] theorem isCell_yl (l : Nat) (G : YG) (rs : List Ref) : (AV.yl l G rs).isCell = true := rfl
@[simp] theorem cells_yl (l : Nat) (G : YG) (rs : List Ref) : (AV.yl l G rs).cells = [.yl l G rs] := rfl
@[simp] theorem cells_s (v : Value) : (AV.s v).cells = [.s v] := rfl
@[simp] theorem cells_sl : (AV.sl f g kd o m cs).cells = [.sl f g kd o m cs] := rfl
@[simp] theorem cells_sm (w : Own) : (AV.sm r m w).cells = [.sm r m w] := rfl
@[simp] theorem cells_ptr : (AV.ptr r m).cells = [.ptr r m] := rfl
@[simp] theorem cells_fn (i : FuncId) : (AV.fn i xs).cells = [.fn i xs] := rfl
@[simp] theorem cells_ifc (t : TypeId) (x : AV) : (AV.ifc t x).cells = [.ifc t x] := rfl
@[simp] theorem cells_agg : (AV.agg xs).cells = xs := rfl
@[simp] theorem toD_int : (AV.s (.int k n)).toD? = some (.s (.int k n), true) := rfl
@[simp] theorem toD_bool : (AV.s (.bool b)).toD? = some (.s (.bool b), true) := rfl
@[simp] theorem toD_sl : (AV.sl f g kd o m cs).toD? = some (.sl m cs, f && g) := rfl
@[simp] theorem toD_fn (i : FuncId) : (AV.fn i []).toD? = some (.s (.func (.func i) #[] #[]), true) := rfl
@[simp] theorem bit_b : bit (.s (.bool b)) = some (some b) := rfl
@[simp] theorem bit_u : bit (.s (.tuple #[])) = some none := rfl
end
section
variable (s : St) (o : Oper) (F : List Ref)
@[simp] theorem run_val (x : AV) : (X.val x).run s o F = .go (s.put o.dst x) := rfl
@[simp] theorem run_skip : (X.skip).run s o F = .go (s.put o.dst (.s (.tuple #[]))) := rfl
@[simp] theorem run_mem (x : Option AV) (os : List (List AV)) (news : List (Nat × List AV)) : (X.mem x os news).run s o F = .go (St.put { s.setAll F os with own := news.foldl (fun own (p : Nat × List AV) => upd own p.1 p.2) (s.setAll F os).own } o.dst (x.getD (.s (.tuple #[])))) := rfl
@[simp] theorem run_tok (x : AV) (new : Nat × Nat × Nat) : (X.tok x new).run s o F = .go (St.put { s with tok := upd s.tok new.1 new.2 } o.dst x) := rfl
@[simp] theorem run_pan (v : Value) : (X.pan v).run s o F = .pan v := rfl
end

@[simp] theorem bits_i64 : IntKind.i64.bits = 64 := rfl
@[simp] theorem bits_u64 : IntKind.u64.bits = 64 := rfl
@[simp] theorem range_lit1 : List.range 1 = [0] := rfl
@[simp] theorem range_lit2 : List.range 2 = [0, 1] := rfl
@[simp] theorem range_lit3 : List.range 3 = [0, 1, 2] := rfl
@[simp] theorem range_lit4 : List.range 4 = [0, 1, 2, 3] := rfl
@[simp] theorem range_lit5 : List.range 5 = [0, 1, 2, 3, 4] := rfl
@[simp] theorem range_lit6 : List.range 6 = [0, 1, 2, 3, 4, 5] := rfl
@[simp] theorem range_lit7 : List.range 7 = [0, 1, 2, 3, 4, 5, 6] := rfl
@[simp] theorem range_lit8 : List.range 8 = [0, 1, 2, 3, 4, 5, 6, 7] := rfl
/-! ### What simp turns -/
attribute [simp] List.findIdx?_cons runOps stepOp stepRun recOp recRun runR runR.next_go Op.operands Call.operands St.opd St.opds St.mems ofL envL upd quiet quietC execQ execF foot footP St.footC St.reach St.inner without fCallAs mapRs ylOf YID St.put St.init
  AV.ofVal AV.ofCell AV.ofFn AV.ofFnAs AV.ofSl toDs? qOne qPick qExtract qLoad qField qIndex qIndexAt qLen qLenOf qBuiltin qMin qMax qNilCheck qEqNil qBin qIface qBuildSlice qBuildAs qSlice qSliceAs qFunc qTA taOf taL fillA
  hinted hintC fAppendC hintM hBuild hMake execH fAppendM fAppendX newCells noMen AV.mentions purgeAV St.purge XK_eq smOk xkNe qMake zeroDs fAlloc fBox fStore fAssign fPanic fAppend fAppendAs fCall fBack refsL AV.refs refsDedup mapRefL AV.mapRef asArgL AV.asArg asObjL AV.asObj refIdx refBack St.setAll St.setMem St.mem  isNil putAt cellsAt cellsAtD fldOff guardOf Res.next_go Res.next_pan
  newsOf toksOf pairsOk Rec.apart Rec.nil tdesc isSlice isIface orElse' dstOk leaveE isNorm
  resAt resAll resWrap leX leO leE leT okLit okInL AV.okIn hasO hasT footP Value.oneCell' vt AV.nilsl
end Go.Ev
end

section
set_option linter.all false
set_option linter.unusedVariables false
set_option linter.unusedSimpArgs false
namespace Go.Ev
variable {P : Program} {w0 w : World} {l : Lay} {st : St}

/-! ### Values in which no yield lies -/
mutual
def AV.noY : AV → Bool
  | .fn _ cap => noYL cap
  | .ifc _ x => x.noY
  | .agg cs => noYL cs
  | .tup xs => noYL xs
  | .yl .. => false
  | _ => true
def noYL : List AV → Bool
  | [] => true
  | x :: r => x.noY && noYL r
end
mutual
theorem RV.noY {w : World} {c : Cx} {z : Nat → Prop} : ∀ (x : AV) (v : Value), x.noY = true → RV w c x v → RV w { c with fz := z } x v
  | .s x, v, _, hv => by simpa [RV] using hv
  | .sl .., v, _, hv => by
    simp only [RV] at hv ⊢
    obtain ⟨a, cap, h1, h2, h3, h4⟩ := hv
    exact ⟨a, cap, h1, h2, h3, by rename_i o _ _; cases o <;> exact h4⟩
  | .sm r n o, v, _, hv => by
    simp only [RV] at hv ⊢
    obtain ⟨a, cap, h1, h2, h3, h4⟩ := hv
    exact ⟨a, cap, h1, h2, h3, by cases o <;> exact h4⟩
  | .ptr r off, v, _, hv => by simpa [RV] using hv
  | .pv f g cs, v, _, hv => by simpa [RV] using hv
  | .fn f cap, v, hn, hv => by simp only [RV, AV.noY] at hn hv ⊢; obtain ⟨vs, h1, h2⟩ := hv; exact ⟨vs, h1, RVs.noY cap vs hn h2⟩
  | .ifc t x, v, hn, hv => by simp only [RV, AV.noY] at hn hv ⊢; obtain ⟨y, h1, h2⟩ := hv; exact ⟨y, h1, RV.noY x y hn h2⟩
  | .agg cs, v, hn, hv => by simp only [RV, AV.noY] at hn hv ⊢; obtain ⟨vs, h1, h2⟩ := hv; exact ⟨vs, h1, RVs.noY cs vs hn h2⟩
  | .tup xs, v, hn, hv => by simp only [RV, AV.noY] at hn hv ⊢; obtain ⟨vs, h1, h2⟩ := hv; exact ⟨vs, h1, RVs.noY xs vs hn h2⟩
  | .junk, _, _, _ => by simp [RV]
  | .yl .., _, hn, _ => by simp [AV.noY] at hn
theorem RVs.noY {w : World} {c : Cx} {z : Nat → Prop} : ∀ (xs : List AV) (vs : List Value), noYL xs = true → RVs w c xs vs → RVs w { c with fz := z } xs vs
  | [], vs, _, hv => by simpa [RVs] using hv
  | x :: xs, vs, hn, hv => by
    simp only [noYL, Bool.and_eq_true] at hn
    simp only [RVs] at hv ⊢
    obtain ⟨v, r, h1, h2, h3⟩ := hv
    exact ⟨v, r, h1, RV.noY x v hn.1 h2, RVs.noY xs r hn.2 h3⟩
end
theorem noYL_get : ∀ {xs : List AV}, noYL xs = true → ∀ x ∈ xs, x.noY = true
  | [], _, x, hx => by simp at hx
  | y :: ys, h, x, hx => by
    simp only [noYL, Bool.and_eq_true] at h
    rcases List.mem_cons.1 hx with rfl | hx
    · exact h.1
    · exact noYL_get h.2 x hx
structure St.noY (st : St) : Prop where
  env : ∀ d x, st.env d = some x → x.noY = true
  mem : ∀ r cs, st.mem r = some cs → noYL cs = true
theorem St.noY_lit {nt : Nat} {E : List (Nat × AV)} {O : List (Nat × List AV)} {X : List (List AV)} {T : List (Nat × (Nat × Nat))} (h1 : noYL (E.map (·.2)) = true) (h2 : (O.all fun p => noYL p.2) = true) (h3 : (X.all fun p => noYL p) = true) : (St.lit nt E O X T).noY := by
  refine ⟨fun d x hx => noYL_get h1 x (List.mem_map.2 ⟨(d, x), ofL_mem hx, rfl⟩), fun r cs h => ?_⟩
  cases r with
  | own k => exact List.all_eq_true.1 h2 _ (ofL_mem (L := O) h)
  | ext i => exact List.all_eq_true.1 h3 _ (List.mem_of_getElem? (l := X) h)

/-- A state without a yield does not mind which blocks are held to be whole. -/
theorem Good.turn {a : Act} (h : Good w0 w l st a) (hn : st.noY) (rd' : Rd) (hc : rd'.c = l.rd.c) (hf : Fzs w0 w { l with rd := rd' }) : Good w0 w { l with rd := rd' } st a := by
  obtain ⟨c', z', d', e'⟩ := rd'
  simp only at hc
  subst hc
  obtain ⟨hm, he⟩ := h
  refine ⟨⟨hm.os, hm.tape, hm.output, hm.size, hm.old, hm.bel, hm.ext, hm.extn, hm.inj, hm.dom, fun r cs hr => ?_, hm.rblt, hm.rbow, hm.owobj, hm.owfree, hm.owold, hm.rdok, hm.tokd, hm.tokinj, hf, hm.xtd⟩, he.1, fun d x hd => ?_⟩
  · rcases hm.obj r cs hr with e0 | ⟨b, h1, cv, T, h2, h3, h4⟩
    · exact .inl e0
    refine .inr ⟨b, h1, cv, T, h2, h3, fun j x hj => ?_⟩
    obtain ⟨v, a1, a2, a3⟩ := h4 j x hj
    exact ⟨v, a1, a2, RV.noY x v (noYL_get (hn.mem r cs hr) x (List.mem_of_getElem? hj)) a3⟩
  · exact ⟨(he.2 d x hd).1, RV.noY x _ (hn.env d x hd) (he.2 d x hd).2⟩

/-- More blocks are held to be whole. -/
theorem Good.more {a : Act} (h : Good w0 w l st a) (rd' : Rd) (hc : rd'.c = l.rd.c) (hf : Fzs w0 w { l with rd := rd' }) (hfz : ∀ b, (l.rd.z b ∨ b ∈ l.rd.d ++ l.rd.e) → rd'.z b ∨ b ∈ rd'.d ++ rd'.e) : Good w0 w { l with rd := rd' } st a := by
  obtain ⟨c', z', d', e'⟩ := rd'
  simp only at hc
  subst hc
  obtain ⟨hm, he⟩ := h
  have hle : Cx.le w (cx w0 w l st.tok) w (cx w0 w { l with rd := ⟨l.rd.c, z', d', e'⟩ } st.tok) := ⟨fun _ _ _ h => h, fun _ _ _ _ => rfl, fun _ _ h => h, fun _ _ _ _ h => h, hfz, fun _ _ => rfl, fun _ _ _ h => h⟩
  exact ⟨⟨hm.os, hm.tape, hm.output, hm.size, hm.old, hm.bel, hm.ext, hm.extn, hm.inj, hm.dom, fun r cs hr => by
    rcases hm.obj r cs hr with e0 | ⟨b, h1, h2⟩
    · exact .inl e0
    exact .inr ⟨b, h1, h2.mono hle rfl⟩, hm.rblt, hm.rbow, hm.owobj, hm.owfree, hm.owold, hm.rdok, hm.tokd, hm.tokinj, hf, hm.xtd⟩, he.mono hle⟩

/-- Another world, in which all cells lie as they lay. -/
theorem Good.world {a : Act} {w0' w' : World} (h : Good w0 w l st a) (hs0 : w0'.heap.size = w0.heap.size) (hs : w'.heap.size = w.heap.size) (hos : w'.os = w0'.os) (htp : w'.tape = w0'.tape) (hou : w'.output = w0'.output)
    (hold : ∀ b, b < w0.heap.size → b ∉ l.be → w'.heap[b]? = w0'.heap[b]?) (hrow : ∀ (b : Nat) (cv : Array Value) (T : TypeId) (p : Nat × Nat), w.heap[b]? = some (Obj.cells cv T p) → w'.heap[b]? = some (Obj.cells cv T p))
    (hcell : ∀ b o, w'.cell? ⟨b, o, none⟩ = w.cell? ⟨b, o, none⟩) (hfz : ∀ b, (l.rd.z b ∨ b ∈ l.rd.d ++ l.rd.e) → w'.heap[b]? = w.heap[b]?) : Good w0' w' l st a := by
  obtain ⟨hm, he⟩ := h
  have hle : Cx.le w (cx w0 w l st.tok) w' (cx w0' w' l st.tok) := ⟨fun f b o hi => by
    rcases hi with ⟨h1, h2, h3⟩ | h
    · exact .inl ⟨by rw [hs0]; exact h1, by rw [hs]; exact h2, h3⟩
    · exact .inr h, fun f b o _ => hcell b o, fun _ _ h => h, fun _ _ _ _ h => h, fun _ h => h, hfz, fun _ _ _ h => h⟩
  refine ⟨⟨hos, htp, hou, by rw [hs0, hs]; exact hm.size, fun b hb hn => hold b (by rw [← hs0]; exact hb) hn, fun b hb => by rw [hs0]; exact hm.bel b hb, hm.ext, hm.extn, hm.inj, hm.dom, fun r cs hr => ?_, fun r b hr => by rw [hs]; exact hm.rblt r b hr, fun k b hk => by rw [hs0]; exact hm.rbow k b hk, hm.owobj,
    fun b hb => hm.owfree b (by rw [← hs]; exact hb), fun b hb => hm.owold b (by rw [← hs0]; exact hb), fun b o hb => by rw [hs0]; exact hm.rdok b o hb, fun k b cap hk => ?_, hm.tokinj, ?_, fun k cap z hk => ?_⟩, he.mono hle⟩
  · rcases hm.obj r cs hr with e0 | ⟨b, h1, cv, T, h2, h3, h4⟩
    · exact .inl e0
    refine .inr ⟨b, h1, cv, T, hrow b cv T _ h2, h3, fun j x hj => ?_⟩
    obtain ⟨v, a1, a2, a3⟩ := h4 j x hj
    exact ⟨v, a1, a2, RV.mono hle x v a3⟩
  · obtain ⟨n, z, a1, a2, a3, a4, a5, cv, T, a6, a7⟩ := hm.tokd k b cap hk
    exact ⟨n, z, a1, a2, by rw [hs0]; exact a3, by rw [hs]; exact a4, a5, cv, T, hrow b cv T _ a6, a7⟩
  · refine ⟨fun b hb => by rw [hs0]; exact hm.fzs.z b hb, fun D hD => ?_, hm.fzs.nd, fun D hD => by rw [hs0, hs]; exact hm.fzs.e D hD⟩
    obtain ⟨a1, a2, a3, a4⟩ := hm.fzs.d D hD
    exact ⟨by rw [hs0]; exact a1, by rw [hs]; exact a2, a3, (hfz D (.inr (List.mem_append_left _ hD))).trans a4⟩
  · obtain ⟨a1, b, a2, cv, T, a3, a4⟩ := hm.xtd k cap z hk
    exact ⟨a1, b, a2, cv, T, hrow b cv T _ a3, a4⟩

theorem putLoop_cell {L : Nat} {r r' : Loop} (h : w.heap[L]? = some (.loop r)) (b o : Nat) : (w.putObj L (.loop r')).cell? ⟨b, o, none⟩ = w.cell? ⟨b, o, none⟩ := by
  have hlt : L < w.heap.size := (Array.getElem?_eq_some_iff.1 h).1
  by_cases e : b = L
  · subst e; simp [World.cell?, World.putObj_heap_same hlt, h]
  · exact cell_of_heap (World.putObj_heap_other e)
theorem putLoop_row {L : Nat} {r : Loop} {o : Obj} (h : w.heap[L]? = some (.loop r)) (b : Nat) (cv : Array Value) (T : TypeId) (p : Nat × Nat) (hb : w.heap[b]? = some (Obj.cells cv T p)) : (w.putObj L o).heap[b]? = some (Obj.cells cv T p) := by
  rw [World.putObj_heap_other (fun e => by subst e; rw [h] at hb; cases hb)]
  exact hb

/-- The record of a loop below the frame is turned. -/
theorem Good.putOld {a : Act} {L : Nat} {r r' : Loop} (h : Good w0 w l st a) (hL : L < w0.heap.size) (hb : L ∉ l.be) (hr : w.heap[L]? = some (.loop r)) (hz : ∀ b, ¬ l.rd.z b) : Good (w0.putObj L (.loop r')) (w.putObj L (.loop r')) l st a := by
  have hlt : L < w.heap.size := (Array.getElem?_eq_some_iff.1 hr).1
  refine h.world (by simp) (by simp) h.1.os h.1.tape h.1.output (fun b h1 h2 => ?_) (putLoop_row hr) (putLoop_cell hr) (fun b hb => ?_)
  · by_cases e : b = L
    · subst e; rw [World.putObj_heap_same hlt, World.putObj_heap_same hL]
    · rw [World.putObj_heap_other e, World.putObj_heap_other e]; exact h.1.old b h1 h2
  · rcases hb with hb | hb
    · exact (hz b hb).elim
    · have := (h.1.fzs.de b hb).1
      exact World.putObj_heap_other (by omega)
/-- The record of a loop of this frame is turned. -/
theorem Good.putNew {a : Act} {L : Nat} {r r' : Loop} (h : Good w0 w l st a) (hL : w0.heap.size ≤ L) (hr : w.heap[L]? = some (.loop r)) (he : L ∉ l.rd.d ++ l.rd.e) : Good w0 (w.putObj L (.loop r')) l st a := by
  refine h.world rfl (by simp) h.1.os h.1.tape h.1.output (fun b h1 h2 => ?_) (putLoop_row hr) (putLoop_cell hr) (fun b hb => ?_)
  · rw [World.putObj_heap_other (by omega)]; exact h.1.old b h1 h2
  · refine World.putObj_heap_other ?_
    intro e
    subst e
    rcases hb with hb | hb
    · exact absurd (h.1.fzs.z b hb).1 (Nat.not_lt.2 hL)
    · exact he hb

/-! ### A round -/
def exts (m : Nat) : List Ref := (List.range m).map .ext
/-- The state in which a round begins. -/
def roundSt (st : St) (rs : List Ref) (p : Nat) (x : AV) (ext : List (List AV)) : St :=
  ⟨st.nt, fun d => if d = p then (if p < st.nt then some x.asArg else none) else (st.env d).map fun y => (y.asArg).mapRef (refIdx rs), fun _ => none, ext.map asObjL, fun _ => none⟩

theorem refsB_get {rb : Ref → Option Nat} : ∀ {rs : List Ref} {bs : List Nat}, RefsB rb rs bs → rs.length = bs.length ∧ ∀ (i : Nat) (r : Ref), rs[i]? = some r → ∃ b, bs[i]? = some b ∧ rb r = some b
  | [], [], _ => by simp
  | [], _ :: _, h => h.elim
  | _ :: _, [], h => h.elim
  | r :: rs, b :: bs, h => by
    obtain ⟨h1, h2⟩ := refsB_get h.2
    refine ⟨by simp [h1], fun i r' hi => ?_⟩
    cases i with
    | zero => simp at hi; subst hi; exact ⟨b, by simp, h.1⟩
    | succ i => simpa using h2 i r' (by simpa using hi)
theorem refsB_of {rb : Ref → Option Nat} : ∀ {rs : List Ref}, (∀ r ∈ rs, ∃ b, rb r = some b) → RefsB rb rs (rs.map fun r => (rb r).getD 0)
  | [], _ => trivial
  | r :: rs, h => by
    obtain ⟨b, hb⟩ := h r (by simp)
    exact ⟨by simp [hb], refsB_of (fun r hr => h r (by simp [hr]))⟩

theorem Good.round {w1 W : World} {a : Act} {L p : Nat} {rs : List Ref} {G : YG} {rd : Rd} {be : List Nat} {x : AV} {v u : Value} {X : List (List AV)} (hg : Good w0 w1 l st a) (hGw : G.w = w1) (hGr : ∀ b o, (cx w0 w1 l st.tok).im false b o → G.rd b o)
    (hGb : RefsB l.rb rs G.be) (hp : Pre W rd be [x, .yl L G (exts rs.length)] X [v, u]) (hn : (roundSt st rs p x X).noY) :
    Good W W ⟨{ rd with z := fun _ => False, d := [], e := [] }, be, fun r => match r with | .ext i => be[i]? | .own _ => none, fun _ => .free, fun _ => none, fun _ => none⟩ (roundSt st rs p x X) { tmps := a.tmps.setIfInBounds p v, defers := [] } := by
  subst hGw
  have hm := MR.init (nt := st.nt) hp
  have hm2 : MR W W ⟨{ rd with d := [], e := [] }, be, fun r => match r with | .ext i => be[i]? | .own _ => none, fun _ => .free, fun _ => none, fun _ => none⟩ (roundSt st rs p x X) := hm.env _ rfl rfl rfl
  have hargs := hp.args
  simp only [RVs] at hargs
  obtain ⟨v', r1, e1, hx, u', r2, e2, hy, e3⟩ := hargs
  simp only [List.cons.injEq] at e1
  obtain ⟨rfl, rfl⟩ := e1
  simp only [List.cons.injEq] at e2
  obtain ⟨rfl, rfl⟩ := e2
  simp only [RV] at hy
  obtain ⟨hyv, hY⟩ := hy
  -- a slot's value, as the round reads it
  have key : ∀ (y : AV) (q : Value), RV G.w (cx w0 G.w l st.tok) y q → ((y.asArg).mapRef (refIdx rs)).noY = true →
      RV W (cx W W ⟨{ rd with d := [], e := [] }, be, fun r => match r with | .ext i => be[i]? | .own _ => none, fun _ => .free, fun _ => none, fun _ => none⟩ (fun _ => none)) ((y.asArg).mapRef (refIdx rs)) q := by
    intro y q hq hny
    let cA : Cx := { cx w0 G.w l st.tok with im := fun f b o => f = false ∧ G.rd b o, tc := fun _ _ _ _ => False, xc := fun _ _ c => c = 0 }
    let cB : Cx := { im := fun f b o => f = false ∧ G.rd b o, rb := fun r => match r with | .ext i => G.be[i]? | .own _ => none, tc := fun _ _ _ _ => False, xc := fun _ _ c => c = 0, fz := (cx w0 G.w l st.tok).fz }
    have h1 : RV G.w cA y.asArg q := RV.asArg (c := cx w0 G.w l st.tok) (c' := cA) (fun f b o h => ⟨rfl, hGr b o (cx_down st.tok f b o h)⟩) (fun _ _ h => h) (fun _ h => h) y q hq
    obtain ⟨hl1, hl2⟩ := refsB_get hGb
    have h2 : RV G.w cB ((y.asArg).mapRef (refIdx rs)) q := RV.mapRef (c := cA) (c' := cB) (fun _ _ _ h => h) (fun _ _ _ _ h => h) (fun r r' b hr hb => by
      simp only [refIdx, Option.map_eq_some_iff] at hr
      obtain ⟨i, hi, rfl⟩ := hr
      obtain ⟨b', k1, k2⟩ := hl2 i r (findIdx_get hi)
      have hb2 : l.rb r = some b := hb
      rw [hb2] at k2
      cases k2
      exact k1) (fun _ h => h) _ q h1
    have h3 : RV G.w { cB with fz := fun _ => False } ((y.asArg).mapRef (refIdx rs)) q := RV.noY _ q hny h2
    refine RV.mono (c := { cB with fz := fun _ => False }) ⟨fun f b o h => ?_, fun f b o h => ?_, fun r b h => ?_, fun _ _ _ _ h => h.elim, fun _ h => h.elim, fun _ h => h.elim, fun _ _ _ h => ?_⟩ _ q h3
    · exact .inr ⟨h.1, (hY.rd b o h.2).1⟩
    · exact (hY.rd b o h.2).2
    · cases r with
      | own k => cases h
      | ext i =>
        obtain ⟨q1, q2⟩ := refsB_get hY.rs
        have hi : i < G.be.length := (List.getElem?_eq_some_iff.1 h).1
        have hi2 : (exts rs.length)[i]? = some (.ext i) := by
          have : i < rs.length := by rw [hl1]; exact hi
          simp [exts, this]
        obtain ⟨b', k1, k2⟩ := q2 i _ hi2
        have h' : G.be[i]? = some b := h
        rw [h'] at k1
        cases k1
        exact k2
    · exact h
  have hg2 : Good W W ⟨{ rd with d := [], e := [] }, be, fun r => match r with | .ext i => be[i]? | .own _ => none, fun _ => .free, fun _ => none, fun _ => none⟩ (roundSt st rs p x X) { tmps := a.tmps.setIfInBounds p v, defers := [] } := by
    refine ⟨hm2, by simp [roundSt, hg.2.1], fun d y hd => ?_⟩
    simp only [roundSt] at hd ⊢
    split at hd
    · rename_i e
      subst e
      split at hd
      · rename_i hlt
        cases hd
        refine ⟨hlt, ?_⟩
        have hlt2 : d < a.tmps.size := by rw [hg.2.1]; exact hlt
        have : (a.tmps.setIfInBounds d v).getD d undef = v := by simp [Array.getD_eq_getD_getElem?, hlt2]
        rw [this]
        exact RV.asArg (c := c0 rd be) (fun f b o h => Or.inr ⟨rfl, h⟩) (fun r b h => by cases r <;> exact h) (fun _ h => Or.inl h) x v hx
      · cases hd
    · rename_i e
      obtain ⟨y0, hy0, rfl⟩ := Option.map_eq_some_iff.1 hd
      obtain ⟨k1, k2⟩ := hg.2.2 d y0 hy0
      refine ⟨k1, ?_⟩
      have : (a.tmps.setIfInBounds p v).getD d undef = a.tmps.getD d undef := by
        simp only [Array.getD_eq_getD_getElem?]
        rw [Array.getElem?_setIfInBounds_ne (fun h => e h.symm)]
      rw [this]
      exact key y0 _ k2 (hn.env d _ (by simp only [roundSt]; rw [if_neg e, hy0]; rfl))
  exact hg2.turn hn _ rfl ⟨fun b h => h.elim, fun D h => (by cases h), List.nodup_nil, fun D h => (by cases h)⟩
end Go.Ev
end

section
set_option linter.all false
set_option linter.unusedVariables false
set_option linter.unusedSimpArgs false
namespace Go.Ev
variable {P : Program} {w0 w : World} {l : Lay} {st : St}

/-- What is told of the rounds of a loop: from the state s, with x, to the state next s x. -/
def Rounds {σ β : Type} (P : Program) (I : σ → Prop) (J : β → Prop) (enc : β → AV) (X : σ → List (List AV)) (next : σ → β → σ) (m L : Nat) (G : YG) : Prop :=
  ∀ s x, I s → J x → ACalls P YID [enc x, .yl L G (exts m)] (X s) (.ret (.s (.bool true)) (X (next s x)) [])

/-- A round's contract out of the walk of its body. -/
theorem rounds_ok {σ β : Type} {I : σ → Prop} {J : β → Prop} {enc : β → AV} {X : σ → List (List AV)} {next : σ → β → σ} {a : Act} {fn : FuncId} {L p D : Nat} {assign body : Code} {rs : List Ref} {G : YG} {w1 : World}
    (hg : Good w0 w1 l st a) (hGw : G.w = w1) (hGr : ∀ b o, (cx w0 w1 l st.tok).im false b o → G.rd b o) (hGb : RefsB l.rb rs G.be)
    (hGl : G.loop = { state := .ready, pending := none, fn, tmps := a.tmps, params := #[p], assign, body, defers := D })
    (hround : ∀ l s x, I s → J x → (roundSt st rs p (enc x) (X s)).noY ∧ EW (Fe := Fence.wide.inRound l) P assign (roundSt st rs p (enc x) (X s)) (fun e s1 => isNorm e = true ∧
      EW (Fe := Fence.wide.inRound l) P body s1 (fun e s2 => isNorm e = true ∧ ∃ r, RetOk P [] s2 r (X (next s x)) []))) :
    Rounds P I J enc X next rs.length L G := by
  intro s x hs hx
  unfold ACalls
  rw [if_pos rfl]
  refine .inr ⟨[enc x], L, G, exts rs.length, rfl, fun W rd be vs u hp hlen => ?_⟩
  obtain ⟨v, rfl⟩ : ∃ v, vs = [v] := by
    match vs, hlen with
    | [v], _ => exact ⟨v, rfl⟩
  have hp' : Pre W rd be [enc x, .yl L G (exts rs.length)] (X s) [v, u] := hp
  obtain ⟨hny, hE⟩ := hround L s x hs hx
  have hY : YR W (c0 rd be) L G (exts rs.length) := by
    have := hp'.args
    simp only [RVs, RV] at this
    obtain ⟨_, _, e1, _, _, _, e2, h, _⟩ := this
    exact h.2
  have hL := hp'.rdz L hY.fz
  have hLr := hY.lp
  rw [hGl] at hLr
  refine ⟨fn, a.tmps.setIfInBounds p v, assign, body, ?_, ?_⟩
  · have := run_yield (P := P) (args := #[v]) hLr rfl
    simpa using this
  · refine roundIn_of_wpIn trivial ?_
    have hg0 := Good.round hg hGw hGr hGb hp' hny
    refine hE _ _ _ _ [] _ hg0 rfl ?_
    intro e s1 he
    obtain ⟨he1, he2⟩ := he
    cases e with
    | normal =>
      intro a1 W1 l1 d1 g1 g2 g3 g4
      have hzn : ∀ b, ¬ l1.rd.z b := fun b hb => by rw [g2] at hb; exact hb
      have hbe1 : L ∉ l1.be := by rw [g3]; exact hL.2
      have hL1 : W1.heap[L]? = some (.loop { state := .ready, pending := none, fn, tmps := a.tmps, params := #[p], assign, body, defers := D }) := by rw [g1.1.old L hL.1 hbe1]; exact hLr
      refine ⟨_, run_beginRound hL1 rfl, ?_⟩
      have hg1 := g1.putOld (r' := { state := .busy, pending := none, fn, tmps := a.tmps, params := #[p], assign, body, defers := D }) hL.1 hbe1 hL1 hzn
      refine he2 _ _ _ _ [] _ hg1 (by rw [g4, g2]) ?_
      intro e2 s2 he2
      obtain ⟨he3, r, hr⟩ := he2
      cases e2 with
      | normal =>
        intro a3 W3 l3 d3 k1 k2 k3 k4
        have hbe3 : l3.be = be := k3.trans g3
        have hL3 : W3.heap[L]? = some (.loop { state := .busy, pending := none, fn, tmps := a.tmps, params := #[p], assign, body, defers := D }) := by
          rw [k1.1.old L (by simpa using hL.1) (by rw [hbe3]; exact hL.2)]
          exact World.putObj_heap_same hL.1
        have hend := run_endRound (P := P) none hL3
        refine ⟨_, _, hend, ?_⟩
        have hfr : Framed W (W3.putObj L (.loop { state := .ready, pending := none, fn, tmps := a.tmps, params := #[p], assign, body, defers := D })) be := by
          have hlt : L < W3.heap.size := (Array.getElem?_eq_some_iff.1 hL3).1
          refine ⟨k1.1.os, k1.1.tape, k1.1.output, by have := k1.1.size; simpa using this, fun b hb hnb => ?_⟩
          by_cases e : b = L
          · subst e; rw [World.putObj_heap_same hlt, hLr]
          · rw [World.putObj_heap_other e, k1.1.old b (by simpa using hb) (by rw [hbe3]; exact hnb), World.putObj_heap_other e]
        obtain ⟨us, q1, q2⟩ := ret_core (rd := rd) (wB := W) (w'' := W3.putObj L (.loop { state := .ready, pending := none, fn, tmps := a.tmps, params := #[p], assign, body, defers := D })) hr k1 hbe3 (by rw [k2, g2]) (fun _ => False) (fun b L' hb hL' => by
          rcases hb with hb | hb
          · rw [k2] at hb; exact (hzn b hb).elim
          · rcases List.mem_append.1 hb with hb | hb
            · have := (k1.1.fzs.d b hb).2.2.2; rw [this] at hL'; cases hL'
            · rw [k2, g2] at hb; cases hb) (fun b h => h.elim) (fun b h => h.elim) (by simp) (by simp) (putLoop_cell hL3) (putLoop_row hL3) hfr
        simp only [OutR] at q2 ⊢
        obtain ⟨v2, ob, e4, hR⟩ := q2
        exact ⟨.bool true, ob, rfl, ⟨hR.fr, hR.len, hR.inj, hR.lt, hR.dom, hR.nodup, hR.objs, hR.exts, by simp [RV]⟩⟩
      | exit id => cases he3
      | ret => cases he3
      | pan v => cases he3
    | exit id => cases he1
    | ret => cases he1
    | pan v => cases he1

/-- A range over a function, all of whose rounds go through. -/
theorem EW.rangeFunc {σ β : Type} {Φ : Ex → St → Prop} {g : Operand} {gf : FuncId} {cap : List AV} {p : Nat} {assign body : Code} (I : σ → Prop) (J : β → Prop) (enc : β → AV) (X : σ → List (List AV)) (next : σ → β → σ) (rs : List Ref) {os ext' : List (List AV)} {r : AV}
    (hg : st.opd g = some (.fn gf cap)) (hos : st.mems (st.reach (refsDedup (rs ++ refsL cap))) = some os)
    (hround : ∀ l s x, I s → J x → (roundSt st rs p (enc x) (X s)).noY ∧ EW (Fe := Fence.wide.inRound l) P assign (roundSt st rs p (enc x) (X s)) (fun e s1 => isNorm e = true ∧
      EW (Fe := Fence.wide.inRound l) P body s1 (fun e s2 => isNorm e = true ∧ ∃ r, RetOk P [] s2 r (X (next s x)) [])))
    (hseq : ∀ L G, Rounds P I J enc X next rs.length L G → ACalls P gf (mapRefL (refIdx (st.reach (refsDedup (rs ++ refsL cap)))) (asArgL (.yl L G rs :: cap))) (os.map fun cs => mapRefL (refIdx (st.reach (refsDedup (rs ++ refsL cap)))) (asObjL cs)) (.ret r ext' []))
    (Sf : St) (hle : St.le Sf (st.setAll (st.reach (refsDedup (rs ++ refsL cap))) (ext'.map (mapRefL (refBack (st.reach (refsDedup (rs ++ refsL cap))) 1))))) (hny : Sf.noY) (hΦ : Φ .normal Sf) (hne : ∀ cs ∈ os, cs ≠ []) (hxk : ∀ k, Ref.own k ∈ st.reach (refsDedup (rs ++ refsL cap)) → st.tok (XK k) = none) (hgf : gf ≠ YID := by decide) :
    EW (Fe := Fence.wide) P (.rangeFunc g #[p] assign body) st Φ := by
  intro w0 w l a df Q hG hdf hP
  have hn : (st.reach (refsDedup (rs ++ refsL cap))).Nodup := reach_nodup (refsDedup_nodup _)
  generalize hF : st.reach (refsDedup (rs ++ refsL cap)) = F at *
  have hsub : ∀ r ∈ rs, r ∈ F := by
    intro r hr
    rw [← hF]
    unfold St.reach
    refine List.mem_append_left _ ?_
    have key : ∀ (xs : List Ref) r, r ∈ xs → r ∈ refsDedup xs := by
      intro xs
      induction xs with
      | nil => intro r h; cases h
      | cons y ys ih =>
        intro r h
        simp only [refsDedup]
        split
        · rename_i hy
          rcases List.mem_cons.1 h with rfl | h
          · exact ih _ hy
          · exact ih _ h
        · rcases List.mem_cons.1 h with rfl | h
          · simp
          · exact List.mem_cons_of_mem _ (ih _ h)
    exact key _ r (List.mem_append_left _ hr)
  have hv := opd_sound hG.2 hg
  simp only [RV] at hv
  obtain ⟨vc, hvf, hvc⟩ := hv
  refine wpIn_rangeFunc fun fn _ => ?_
  let rec0 : Loop := { state := .ready, pending := none, fn, tmps := a.tmps, params := #[p], assign, body, defers := w.heap.size }
  let w1 : World := (w.alloc (.deferred (some []))).alloc (.loop rec0)
  let a1 : Act := { a with defers := [{ target := .collected w.heap.size, args := #[] }] ++ a.defers }
  have hsz1 : w1.heap.size = w.heap.size + 2 := by simp [w1]
  have hD1 : w1.heap[w.heap.size]? = some (.deferred (some [])) := (heap_alloc_lt _ _ _ (by simp)).trans (World.alloc_heap_new w _)
  have hL1 : w1.heap[w.heap.size + 1]? = some (.loop rec0) := by
    have := World.alloc_heap_new (w.alloc (.deferred (some []))) (.loop rec0)
    rwa [World.size_alloc] at this
  have hgA : Good w0 w1 l st a1 := by
    have := (hG.alloc (.deferred (some []))).alloc (.loop rec0)
    exact ⟨this.1, this.2⟩
  have hsz0 : w0.heap.size ≤ w.heap.size := hG.1.size
  let rd1 : Rd := ⟨l.rd.c, l.rd.z, w.heap.size :: l.rd.d, (w.heap.size + 1) :: l.rd.e⟩
  have hof : ∀ b, w.heap.size ≤ b → l.ow b = .free := hG.1.owfree
  have hfz1 : Fzs w0 w1 { l with rd := rd1 } := by
    refine ⟨fun b hb => hG.1.fzs.z b hb, fun D hD => ?_, List.nodup_cons.2 ⟨fun h => absurd (hG.1.fzs.d _ h).2.1 (Nat.lt_irrefl _), hG.1.fzs.nd⟩, fun D hD => ?_⟩
    · rcases List.mem_cons.1 hD with rfl | hD
      · exact ⟨hsz0, by rw [hsz1]; omega, hof _ (Nat.le_refl _), hD1⟩
      · exact hgA.1.fzs.d D hD
    · rcases List.mem_cons.1 hD with rfl | hD
      · exact ⟨by omega, by rw [hsz1]; omega, hof _ (Nat.le_succ _)⟩
      · exact hgA.1.fzs.e D hD
  have hgB : Good w0 w1 { l with rd := rd1 } st a1 := hgA.more rd1 rfl hfz1 (fun b hb => by
    rcases hb with hb | hb
    · exact .inl hb
    · refine .inr ?_
      rcases List.mem_append.1 hb with hb | hb
      · exact List.mem_append_left _ (List.mem_cons_of_mem _ hb)
      · exact List.mem_append_right _ (List.mem_cons_of_mem _ hb))
  let G : YG := ⟨rec0, w1, (cx w0 w1 { l with rd := rd1 } st.tok).im false, rs.map fun r => (l.rb r).getD 0⟩
  have hGb : RefsB l.rb rs G.be := refsB_of (fun r hr => by
    obtain ⟨i, hi, rfl⟩ := List.mem_iff_getElem.1 (hsub r hr)
    obtain ⟨cs, h1, h2⟩ := (mems_get hos).2 i _ (List.getElem?_eq_getElem hi)
    obtain ⟨b, h3, _⟩ := (hG.1.obj _ cs h2).resolve_left fun x => hne cs (List.mem_of_getElem? h1) x.1
    exact ⟨b, h3⟩)
  have hR := rounds_ok (L := w.heap.size + 1) (G := G) hgB rfl (fun b o h => h) hGb rfl hround
  have hAC := hseq _ G hR
  unfold ACalls at hAC
  rw [if_neg hgf] at hAC
  obtain ⟨hcall, hA⟩ := hAC
  have hargs : RVs w1 (cx w0 w1 { l with rd := rd1 } st.tok) (.yl (w.heap.size + 1) G rs :: cap) (.func (.yield (w.heap.size + 1)) #[] #[] :: vc) := by
    simp only [RVs]
    refine ⟨_, _, rfl, ?_, ?_⟩
    · simp only [RV]
      exact ⟨trivial, .inr (List.mem_append_right _ (by simp [rd1])), hL1, fun b o h => ⟨h, rfl⟩, hGb⟩
    · have h1 := RVs.mono (hG.1.alloc (.deferred (some []))).2 _ _ hvc
      have h2 := RVs.mono ((hG.1.alloc (.deferred (some []))).1.alloc (.loop rec0)).2 _ _ h1
      refine RVs.mono (c := cx w0 w1 l st.tok) (c' := cx w0 w1 { l with rd := rd1 } st.tok) (w := w1) ⟨fun _ _ _ h => h, fun _ _ _ _ => rfl, fun _ _ h => h, fun _ _ _ _ h => h, fun b hb => ?_, fun _ _ => rfl, fun _ _ _ h => h⟩ _ _ h2
      rcases hb with hb | hb
      · exact .inl hb
      · refine .inr ?_
        rcases List.mem_append.1 hb with hb | hb
        · exact List.mem_append_left _ (List.mem_cons_of_mem _ hb)
        · exact List.mem_append_right _ (List.mem_cons_of_mem _ hb)
  obtain ⟨be, hbe, hpre⟩ := call_pre hgB.1 hn hos hargs hne
  have hcalls := hA w1 _ be (.func (.yield (w.heap.size + 1)) #[] #[] :: vc).toArray (by simpa using hpre)
  refine ⟨w.heap.size + 1, [{ target := .collected w.heap.size, args := #[] }], w1, { target := .fn (.func gf) vc.toArray, args := #[.func (.yield (w.heap.size + 1)) #[] #[]] }, w1, gf, (.func (.yield (w.heap.size + 1)) #[] #[] :: vc).toArray, w1,
    run_enterLoop_outer _ _ _ _ _, ?_, fun _ _ => trivial, ?_, (fun h => by cases h), ?_⟩
  · have hvf' : a.eval g = .func (.func gf) #[] vc.toArray := hvf
    simp only [resolve, hvf']
    simp [go_sem]
  · have e3 : #[Value.func (.yield (w.heap.size + 1)) #[] #[]] ++ vc.toArray = (.func (.yield (w.heap.size + 1)) #[] #[] :: vc).toArray := by apply Array.ext'; simp
    simp only [invoke, e3, callFunc_run hcall]
  · refine (FW.calls Fence.wide hcalls).mono ?_
    intro e w2 hout
    simp only [OutR] at hout
    obtain ⟨v, ob, rfl, hRet⟩ := hout
    obtain ⟨l2, k1, k2, k3, k4⟩ := call_post (d := 0) hgB hn hos hbe hRet (fun p hp => by cases hp) hne hxk
    -- the record lies as it lay
    have hnb : ∀ b, w.heap.size ≤ b → b ∉ be := fun b hb hmem => by
      obtain ⟨i, hi, hib⟩ := List.mem_iff_getElem.1 hmem
      obtain ⟨r', _, hr⟩ := (hbe i b).1 (by rw [List.getElem?_eq_getElem hi, hib])
      have hr' : l.rb r' = some b := hr
      exact absurd (hG.1.rblt _ _ hr') (Nat.not_lt.2 hb)
    have hL2 : w2.heap[w.heap.size + 1]? = some (.loop rec0) := by
      rw [hRet.fr.old _ (by rw [hsz1]; omega) (hnb _ (by omega))]
      exact hL1
    refine ⟨none, _, run_endLoop hL2 (by simp [rec0]), ?_⟩
    have k1' : Good w0 w2 l2 (st.setAll F (ext'.map (mapRefL (refBack F 1)))) a1 := k1
    obtain ⟨l3, m1, m2, m3⟩ := k1'.le hle
    have hrd3 : l3.rd = rd1 := m2.trans k3
    have hF3 := m1.1.fzs
    have m4 : Good w0 w2 { l3 with rd := ⟨l.rd.c, l.rd.z, w.heap.size :: l.rd.d, l.rd.e⟩ } Sf a1 := by
      refine m1.turn hny _ (by rw [hrd3]) ⟨fun b hb => ?_, fun D hD => ?_, ?_, fun D hD => ?_⟩
      · exact hF3.z b (by rw [hrd3]; exact hb)
      · exact hF3.d D (by rw [hrd3]; exact hD)
      · have := hF3.nd; rw [hrd3] at this; exact this
      · exact hF3.e D (by rw [hrd3]; exact List.mem_cons_of_mem _ hD)
    have m5 := m4.putNew (r' := { rec0 with state := .exhausted }) (by omega) hL2 (by
      show w.heap.size + 1 ∉ (w.heap.size :: l.rd.d) ++ l.rd.e
      intro h
      rcases List.mem_append.1 h with h | h
      · rcases List.mem_cons.1 h with h | h
        · omega
        · have := (hG.1.fzs.d _ h).2.1; omega
      · have := (hG.1.fzs.e _ h).2.1; omega)
    refine hP _ _ hΦ _ _ _ (w.heap.size :: l.rd.d) m5 ?_ ?_ ?_
    · rfl
    · exact m3.trans k4
    · show [_] ++ a.defers = _
      rw [hdf]; rfl
end Go.Ev
end
