/- Lemmas for the claims of this seat: an evaluator over abstract values, its soundness, and the contracts of the functions of melt that it walks; no premise beyond what each theorem states. -/
import Derived.RangeFuncRecord
import Derived.Test.YtdcelpomnboeoaaGreatDoorGAB

section
set_option linter.all false
set_option linter.unusedVariables false
set_option linter.unusedSimpArgs false
namespace Go.Ev
variable {w0 w : World} {l : Lay} {st : St} {P : Program}

def c0 (rd : Rd) (be : List Nat) : Cx where
  im _ := rd.c
  fz := rd.z
  rb r := match r with | .ext i => be[i]? | .own _ => none
  tc _ _ _ _ := False
  xc _ _ _ := False
def c1 (w w' : World) (rd : Rd) (be : List Nat) (ob : Nat → Option Nat) : Cx where
  im f b o := (w.heap.size ≤ b ∧ b < w'.heap.size ∧ ∀ k, ob k ≠ some b) ∨ (f = false ∧ rd b o)
  rb r := match r with | .ext i => be[i]? | .own k => ob k
  tc _ _ _ _ := False
  xc _ _ _ := False
  fz := rd.z

/-- What lay there is as it was, but for the blocks 'be'. -/
structure Framed (w w' : World) (be : List Nat) : Prop where
  os : w'.os = w.os
  tape : w'.tape = w.tape
  output : w'.output = w.output
  size : w.heap.size ≤ w'.heap.size
  old : ∀ b, b < w.heap.size → b ∉ be → w'.heap[b]? = w.heap[b]?

structure RetR (w : World) (rd : Rd) (be : List Nat) (r : AV) (ext : List (List AV)) (own : List (Nat × List AV)) (v : Value) (w' : World) (ob : Nat → Option Nat) : Prop where
  fr : Framed w w' be
  len : ext.length = be.length
  inj : ∀ k k' b, ob k = some b → ob k' = some b → k = k'
  lt : ∀ k b, ob k = some b → w.heap.size ≤ b ∧ b < w'.heap.size
  dom : ∀ k b, ob k = some b → ∃ cs, (k, cs) ∈ own
  nodup : (own.map (·.1)).Nodup
  objs : ∀ p ∈ own, (p.2 = [] ∧ ob p.1 = none) ∨ ∃ b, ob p.1 = some b ∧ objR w' (c1 w w' rd be ob) b p.2
  exts : ∀ (i b : Nat) (cs : List AV), be[i]? = some b → ext[i]? = some cs → objR w' (c1 w w' rd be ob) b cs
  ret : RV w' (c1 w w' rd be ob) r v

/-- A slice in new memory, with the room behind it. -/
def TokR (w w' : World) (k : Knd) (n z : Nat) (cs : List D) (cap : Nat) : Option Addr → Prop
  | none => n = 0 ∧ cap = 0 ∧ cs = [] ∧ k ≠ .E
  | some ad => (ad.spot = none ∨ (n = 0 ∧ cs = [])) ∧ (k = .Z → n ≠ 0) ∧ cs.length ≤ n * z ∧ RDs w' (fun b _ => w.heap.size ≤ b ∧ b < w'.heap.size) (fun _ _ => False) cs ad.block ad.off ∧
      (cap = n ∨ (ad.spot = none ∧ ad.off = 0 ∧ w.heap.size ≤ ad.block ∧ ∃ (cv : Array Value) (T : TypeId), w'.heap[ad.block]? = some (Obj.cells cv T (0, 0)) ∧ cap * z ≤ cv.size))
def OutR (w : World) (rd : Rd) (be : List Nat) : Out → Ending → World → Prop
  | .ret r ext own, e, w' => ∃ v ob, e = .returned v ∧ RetR w rd be r ext own v w' ob
  | .rtok k n z cs, e, w' => ∃ a cap, e = .returned (.slice a n cap) ∧ Framed w w' be ∧ n ≤ cap ∧ TokR w w' k n z cs cap a
  | .pan x, e, w' => e = .panicked [{ v := x, recovered := false }] ∧ Framed w w' be

def Callable (P : Program) (f : FuncId) : Prop := ∃ fn c, P.funcs[f]? = some fn ∧ fn.body = some c ∧ (fn.name == "runtime.NumGoroutine") = false

structure Pre (w : World) (rd : Rd) (be : List Nat) (args : List AV) (ext : List (List AV)) (vs : List Value) : Prop where
  rdok : ∀ b o, rd b o → b < w.heap.size ∧ b ∉ be
  rdz : ∀ b, rd.z b → b < w.heap.size ∧ b ∉ be
  nodup : be.Nodup
  len : be.length = ext.length
  lt : ∀ b ∈ be, b < w.heap.size
  exts : ∀ (i b : Nat) (cs : List AV), be[i]? = some b → ext[i]? = some cs → objR w (c0 rd be) b cs
  args : RVs w (c0 rd be) args vs

/-- A call of what a loop over a function hands out. -/
def YieldWp (P : Program) (l : Nat) (vs : Array Value) (w : World) (R : Ending → World → Prop) : Prop :=
  ∃ fn tmps assign body, (Instr.yield l vs).run P w = .ok (.round l fn tmps assign body) w ∧ RoundIn Fence.wide 0 P l fn tmps assign body w R
/-- What is known of a round. -/
def ACallsY (P : Program) (args : List AV) (ext : List (List AV)) (out : Out) : Prop :=
  (∃ d : Int, args = [.s (.int .i64 d)]) ∨ ∃ xs l G rs, args = xs ++ [.yl l G rs] ∧ ∀ (w : World) (rd : Rd) (be : List Nat) (vs : List Value) (v : Value), Pre w rd be args ext (vs ++ [v]) → vs.length = xs.length → YieldWp P l vs.toArray w (OutR w rd be out)
/-- The contract of a function, over abstract values. -/
def ACalls (P : Program) (f : FuncId) (args : List AV) (ext : List (List AV)) (out : Out) : Prop :=
  if f = YID then ACallsY P args ext out else
  Callable P f ∧ ∀ (w : World) (rd : Rd) (be : List Nat) (vs : Array Value), Pre w rd be args ext vs.toList → Calls P f vs w (OutR w rd be out)

def Sound (P : Program) (Γ : Gam) : Prop := ∀ f args ext out, Γ f args ext = some out → ACalls P f args ext out

theorem bnd_eq' {α β : Type} {x : Option α} {f : α → Option β} {b : β} (h : bnd x f = some b) : ∃ a, x = some a ∧ f a = some b := by
  cases x with
  | none => cases h
  | some a => exact ⟨a, rfl, h⟩
theorem mapRs_sound {rb rb' : Ref → Option Nat} {ρ : Ref → Option Ref} (hρ : ∀ r r' b, ρ r = some r' → rb r = some b → rb' r' = some b) : ∀ {rs rs' : List Ref} {bs : List Nat}, mapRs ρ rs = some rs' → RefsB rb rs bs → RefsB rb' rs' bs
  | [], rs', [], h, _ => by simp [mapRs] at h; subst h; trivial
  | [], _, _ :: _, _, h => h.elim
  | _ :: _, _, [], _, h => h.elim
  | r :: rs, rs', b :: bs, h, hb => by
    simp only [mapRs] at h
    obtain ⟨r', h1, h⟩ := bnd_eq' h
    obtain ⟨rs2, h2, h⟩ := bnd_eq' h
    cases h
    exact ⟨hρ r r' b h1 hb.1, mapRs_sound hρ h2 hb.2⟩

/-! ### names of objects are turned -/
mutual
theorem RV.mapRef {c c' : Cx} {ρ : Ref → Option Ref} (him : ∀ f b o, c.im f b o → c'.im f b o) (htc : ∀ k n a cap, c.tc k n a cap → c'.tc k n a cap) (hρ : ∀ r r' b, ρ r = some r' → c.rb r = some b → c'.rb r' = some b) (hfz : ∀ b, c.fz b → c'.fz b) :
    ∀ (x : AV) (v : Value), RV w c x v → RV w c' (x.mapRef ρ) v
  | .s x, v, hv => by simpa [RV, AV.mapRef] using hv
  | .sl .., v, hv => by
    simp only [RV, AV.mapRef] at hv ⊢
    obtain ⟨a, cap, h1, h2, h3, h4⟩ := hv
    refine ⟨a, cap, h1, h2, ?_, ?_⟩
    · cases a with
      | none => exact h3
      | some ad => exact ⟨h3.1, h3.2.1, RDs.mono (him _) (fun _ _ _ => rfl) (him _) (fun _ _ _ => rfl) _ _ _ h3.2.2⟩
    · rename_i o _ _
      cases o with
      | no => trivial
      | full => exact h4
      | tok key => exact htc _ _ _ _ h4
      | grw _ _ => exact h4.elim
  | .sm r n o, v, hv => by
    simp only [RV, AV.mapRef] at hv ⊢
    obtain ⟨a, cap, h1, h2, h3, h4⟩ := hv
    cases h : ρ r with
    | none => simp [RV]
    | some r' => simp only [RV]; exact ⟨a, cap, h1, h2, h3.imp (fun ⟨b, x, y⟩ => ⟨b, hρ _ _ _ h x, y⟩) id, trivial⟩
  | .ptr r off, v, hv => by
    simp only [RV, AV.mapRef] at hv ⊢
    obtain ⟨b, h1, h2⟩ := hv
    cases h : ρ r with
    | none => simp [RV]
    | some r' => simp only [RV]; exact ⟨b, hρ _ _ _ h h1, h2⟩
  | .pv f g cs, v, hv => by
    simp only [RV, AV.mapRef] at hv ⊢
    obtain ⟨b, o, h1, h2⟩ := hv
    exact ⟨b, o, h1, RDs.mono (him _) (fun _ _ _ => rfl) (him _) (fun _ _ _ => rfl) _ _ _ h2⟩
  | .fn f cap, v, hv => by simp only [RV, AV.mapRef] at hv ⊢; obtain ⟨vs, h1, h2⟩ := hv; exact ⟨vs, h1, RVs.mapRef him htc hρ hfz cap vs h2⟩
  | .ifc t x, v, hv => by simp only [RV, AV.mapRef] at hv ⊢; obtain ⟨y, h1, h2⟩ := hv; exact ⟨y, h1, RV.mapRef him htc hρ hfz x y h2⟩
  | .agg cs, v, hv => by simp only [RV, AV.mapRef] at hv ⊢; obtain ⟨vs, h1, h2⟩ := hv; exact ⟨vs, h1, RVs.mapRef him htc hρ hfz cs vs h2⟩
  | .tup xs, v, hv => by simp only [RV, AV.mapRef] at hv ⊢; obtain ⟨vs, h1, h2⟩ := hv; exact ⟨vs, h1, RVs.mapRef him htc hρ hfz xs vs h2⟩
  | .junk, _, _ => by simp [RV, AV.mapRef]
  | .yl l G rs, v, hv => by
    simp only [RV, AV.mapRef] at hv ⊢
    cases h : mapRs ρ rs with
    | none => simp [ylOf, RV]
    | some rs' =>
      simp only [ylOf, RV]
      exact ⟨hv.1, hfz _ hv.2.fz, hv.2.lp, fun b o hb => ⟨him _ _ _ (hv.2.rd b o hb).1, (hv.2.rd b o hb).2⟩, mapRs_sound hρ h hv.2.rs⟩
theorem RVs.mapRef {c c' : Cx} {ρ : Ref → Option Ref} (him : ∀ f b o, c.im f b o → c'.im f b o) (htc : ∀ k n a cap, c.tc k n a cap → c'.tc k n a cap) (hρ : ∀ r r' b, ρ r = some r' → c.rb r = some b → c'.rb r' = some b) (hfz : ∀ b, c.fz b → c'.fz b) :
    ∀ (xs : List AV) (vs : List Value), RVs w c xs vs → RVs w c' (mapRefL ρ xs) vs
  | [], vs, hv => by simpa [RVs, mapRefL] using hv
  | x :: xs, vs, hv => by
    simp only [RVs, mapRefL] at hv ⊢
    obtain ⟨v, r, h1, h2, h3⟩ := hv
    exact ⟨v, r, h1, RV.mapRef him htc hρ hfz x v h2, RVs.mapRef him htc hρ hfz xs r h3⟩
end

mutual
theorem RV.asArg {c c' : Cx} (him : ∀ f b o, c.im f b o → c'.im false b o) (hrb : ∀ r b, c.rb r = some b → c'.rb r = some b) (hfz : ∀ b, c.fz b → c'.fz b) :
    ∀ (x : AV) (v : Value), RV w c x v → RV w c' x.asArg v
  | .s x, v, hv => by simpa [RV, AV.asArg] using hv
  | .sl .., v, hv => by
    simp only [RV, AV.asArg] at hv ⊢
    obtain ⟨a, cap, h1, h2, h3, h4⟩ := hv
    refine ⟨a, cap, h1, h2, ?_, trivial⟩
    cases a with
    | none => exact ⟨h3.1, h3.2.1, h3.2.2.1, by simp⟩
    | some ad => exact ⟨h3.1, by simp, RDs.mono (him _) (fun _ _ _ => rfl) (him _) (fun _ _ _ => rfl) _ _ _ h3.2.2⟩
  | .sm r n o, v, hv => by simp only [RV, AV.asArg] at hv ⊢; obtain ⟨a, cap, h1, h2, h3, h4⟩ := hv; exact ⟨a, cap, h1, h2, h3.imp (fun ⟨b, x, y⟩ => ⟨b, hrb _ _ x, y⟩) id, trivial⟩
  | .ptr r off, v, hv => by simp only [RV, AV.asArg] at hv ⊢; obtain ⟨b, h1, h2⟩ := hv; exact ⟨b, hrb _ _ h1, h2⟩
  | .pv f g cs, v, hv => by
    simp only [RV, AV.asArg] at hv ⊢
    obtain ⟨b, o, h1, h2⟩ := hv
    exact ⟨b, o, h1, RDs.mono (him _) (fun _ _ _ => rfl) (him _) (fun _ _ _ => rfl) _ _ _ h2⟩
  | .fn f cap, v, hv => by simp only [RV, AV.asArg] at hv ⊢; obtain ⟨vs, h1, h2⟩ := hv; exact ⟨vs, h1, RVs.asArg him hrb hfz cap vs h2⟩
  | .ifc t x, v, hv => by simp only [RV, AV.asArg] at hv ⊢; obtain ⟨y, h1, h2⟩ := hv; exact ⟨y, h1, RV.asArg him hrb hfz x y h2⟩
  | .agg cs, v, hv => by simp only [RV, AV.asArg] at hv ⊢; obtain ⟨vs, h1, h2⟩ := hv; exact ⟨vs, h1, RVs.asArg him hrb hfz cs vs h2⟩
  | .tup xs, v, hv => by simp only [RV, AV.asArg] at hv ⊢; obtain ⟨vs, h1, h2⟩ := hv; exact ⟨vs, h1, RVs.asArg him hrb hfz xs vs h2⟩
  | .junk, _, _ => by simp [RV, AV.asArg]
  | .yl l G rs, v, hv => by
    simp only [RV, AV.asArg] at hv ⊢
    exact ⟨hv.1, hfz _ hv.2.fz, hv.2.lp, fun b o hb => ⟨him _ _ _ (hv.2.rd b o hb).1, (hv.2.rd b o hb).2⟩, hv.2.rs.imp fun r _ b => hrb r b⟩
theorem RVs.asArg {c c' : Cx} (him : ∀ f b o, c.im f b o → c'.im false b o) (hrb : ∀ r b, c.rb r = some b → c'.rb r = some b) (hfz : ∀ b, c.fz b → c'.fz b) :
    ∀ (xs : List AV) (vs : List Value), RVs w c xs vs → RVs w c' (asArgL xs) vs
  | [], vs, hv => by simpa [RVs, asArgL] using hv
  | x :: xs, vs, hv => by
    simp only [RVs, asArgL] at hv ⊢
    obtain ⟨v, r, h1, h2, h3⟩ := hv
    exact ⟨v, r, h1, RV.asArg him hrb hfz x v h2, RVs.asArg him hrb hfz xs r h3⟩
end

mutual
theorem RV.asObj {c c' : Cx} (him : ∀ f b o, c.im f b o → c'.im false b o) (hrb : ∀ r b, c.rb r = some b → c'.rb r = some b) (hfz : ∀ b, c.fz b → c'.fz b) :
    ∀ (x : AV) (v : Value), RV w c x v → RV w c' x.asObj v
  | .s x, v, hv => by simpa [RV, AV.asObj] using hv
  | .sl .., v, hv => by
    simp only [RV, AV.asObj] at hv ⊢
    obtain ⟨a, cap, h1, h2, h3, h4⟩ := hv
    refine ⟨a, cap, h1, h2, ?_, trivial⟩
    cases a with
    | none => exact h3
    | some ad => exact ⟨h3.1, h3.2.1, RDs.mono (him _) (fun _ _ _ => rfl) (him _) (fun _ _ _ => rfl) _ _ _ h3.2.2⟩
  | .sm r n o, v, hv => by simp only [RV, AV.asObj] at hv ⊢; obtain ⟨a, cap, h1, h2, h3, h4⟩ := hv; exact ⟨a, cap, h1, h2, h3.imp (fun ⟨b, x, y⟩ => ⟨b, hrb _ _ x, y⟩) id, trivial⟩
  | .ptr r off, v, hv => by simp only [RV, AV.asObj] at hv ⊢; obtain ⟨b, h1, h2⟩ := hv; exact ⟨b, hrb _ _ h1, h2⟩
  | .pv f g cs, v, hv => by
    simp only [RV, AV.asObj] at hv ⊢
    obtain ⟨b, o, h1, h2⟩ := hv
    exact ⟨b, o, h1, RDs.mono (him _) (fun _ _ _ => rfl) (him _) (fun _ _ _ => rfl) _ _ _ h2⟩
  | .fn f cap, v, hv => by simp only [RV, AV.asObj] at hv ⊢; obtain ⟨vs, h1, h2⟩ := hv; exact ⟨vs, h1, RVs.asObj him hrb hfz cap vs h2⟩
  | .ifc t x, v, hv => by simp only [RV, AV.asObj] at hv ⊢; obtain ⟨y, h1, h2⟩ := hv; exact ⟨y, h1, RV.asObj him hrb hfz x y h2⟩
  | .agg cs, v, hv => by simp only [RV, AV.asObj] at hv ⊢; obtain ⟨vs, h1, h2⟩ := hv; exact ⟨vs, h1, RVs.asObj him hrb hfz cs vs h2⟩
  | .tup xs, v, hv => by simp only [RV, AV.asObj] at hv ⊢; obtain ⟨vs, h1, h2⟩ := hv; exact ⟨vs, h1, RVs.asObj him hrb hfz xs vs h2⟩
  | .junk, _, _ => by simp [RV, AV.asObj]
  | .yl l G rs, v, hv => by
    simp only [RV, AV.asObj] at hv ⊢
    exact ⟨hv.1, hfz _ hv.2.fz, hv.2.lp, fun b o hb => ⟨him _ _ _ (hv.2.rd b o hb).1, (hv.2.rd b o hb).2⟩, hv.2.rs.imp fun r _ b => hrb r b⟩
theorem RVs.asObj {c c' : Cx} (him : ∀ f b o, c.im f b o → c'.im false b o) (hrb : ∀ r b, c.rb r = some b → c'.rb r = some b) (hfz : ∀ b, c.fz b → c'.fz b) :
    ∀ (xs : List AV) (vs : List Value), RVs w c xs vs → RVs w c' (asObjL xs) vs
  | [], vs, hv => by simpa [RVs, asObjL] using hv
  | x :: xs, vs, hv => by
    simp only [RVs, asObjL] at hv ⊢
    obtain ⟨v, r, h1, h2, h3⟩ := hv
    exact ⟨v, r, h1, RV.asObj him hrb hfz x v h2, RVs.asObj him hrb hfz xs r h3⟩
end

theorem asObjL_eq : ∀ xs, asObjL xs = xs.map AV.asObj
  | [] => rfl
  | x :: xs => by simp [asObjL, asObjL_eq xs]
theorem mapRefL_eq (ρ : Ref → Option Ref) : ∀ xs, mapRefL ρ xs = xs.map (AV.mapRef ρ)
  | [] => rfl
  | x :: xs => by simp [mapRefL, mapRefL_eq ρ xs]
theorem asArgL_eq : ∀ xs, asArgL xs = xs.map AV.asArg
  | [] => rfl
  | x :: xs => by simp [asArgL, asArgL_eq xs]

theorem objR.map {c c' : Cx} {b : Nat} {cs : List AV} (F : AV → AV) (hF : ∀ x v, RV w c x v → RV w c' (F x) v) (h : objR w c b cs) : objR w c' b (cs.map F) := by
  obtain ⟨cv, T, h1, h2, h3⟩ := h
  refine ⟨cv, T, h1, by simpa using h2, fun j x hj => ?_⟩
  rw [List.getElem?_map, Option.map_eq_some_iff] at hj
  obtain ⟨y, hy, rfl⟩ := hj
  obtain ⟨v, a1, a2, a3⟩ := h3 j y hy
  exact ⟨v, a1, a2, hF y v a3⟩

theorem refsDedup_nodup : ∀ rs, (refsDedup rs).Nodup
  | [] => by simp [refsDedup]
  | r :: rs => by
    simp only [refsDedup]
    split
    · exact refsDedup_nodup rs
    · rename_i h
      refine List.nodup_cons.2 ⟨fun hm => h ?_, refsDedup_nodup rs⟩
      have sub : ∀ rs r, r ∈ refsDedup rs → r ∈ rs := by
        intro rs
        induction rs with
        | nil => simp [refsDedup]
        | cons a rs ih =>
          intro r hr
          simp only [refsDedup] at hr
          split at hr
          · exact List.mem_cons_of_mem _ (ih r hr)
          · rcases List.mem_cons.1 hr with rfl | hr
            · simp
            · exact List.mem_cons_of_mem _ (ih r hr)
      exact sub rs r hm

theorem without_nodup {F : List Ref} {rs : List Ref} : ∀ r ∈ without F rs, r ∉ F := by
  induction rs with
  | nil => intro r h; cases h
  | cons a rs ih =>
    intro r h
    simp only [without] at h
    split at h
    · exact ih r h
    · rename_i hn
      rcases List.mem_cons.1 h with rfl | h
      · exact hn
      · exact ih r h
theorem dedup_mem : ∀ (rs : List Ref) (r : Ref), r ∈ refsDedup rs → r ∈ rs := by
  intro rs
  induction rs with
  | nil => simp [refsDedup]
  | cons a rs ih =>
    intro r hr
    simp only [refsDedup] at hr
    split at hr
    · exact List.mem_cons_of_mem _ (ih r hr)
    · rcases List.mem_cons.1 hr with rfl | hr
      · simp
      · exact List.mem_cons_of_mem _ (ih r hr)
theorem reach_nodup {st : St} {F : List Ref} (h : F.Nodup) : (st.reach F).Nodup := by
  unfold St.reach
  refine List.nodup_append.2 ⟨h, refsDedup_nodup _, fun a ha b hb e => ?_⟩
  subst e
  exact without_nodup a (dedup_mem _ a hb) ha
theorem footC_nodup {st : St} {xs : List AV} : (st.footC xs).Nodup := by
  unfold St.footC
  split
  · exact reach_nodup (refsDedup_nodup _)
  · exact reach_nodup (refsDedup_nodup _)
  · exact List.nodup_nil

theorem mems_get : ∀ {rs : List Ref} {os : List (List AV)}, st.mems rs = some os → os.length = rs.length ∧ ∀ (i : Nat) (r : Ref), rs[i]? = some r → ∃ cs, os[i]? = some cs ∧ st.mem r = some cs
  | [], os, h => by simp [St.mems] at h; subst h; simp
  | r :: rs, os, h => by
    simp only [St.mems] at h
    obtain ⟨c, h1, h⟩ := bnd_eq h
    obtain ⟨cs, h2, h⟩ := bnd_eq h
    cases h
    obtain ⟨k1, k2⟩ := mems_get h2
    refine ⟨by simp [k1], fun i r' hi => ?_⟩
    cases i with
    | zero => simp at hi; subst hi; exact ⟨c, by simp, h1⟩
    | succ i => simpa using k2 i r' (by simpa using hi)
end Go.Ev
end

section
set_option linter.all false
set_option linter.unusedVariables false
set_option linter.unusedSimpArgs false
namespace Go.Ev
variable {w0 w : World} {l : Lay} {st : St} {P : Program}

theorem setMem_mem_other {r r' : Ref} {cs : List AV} (h : r' ≠ r) : (st.setMem r cs).mem r' = st.mem r' := by
  cases r with
  | own k =>
    cases r' with
    | own j => have : j ≠ k := fun e => h (by rw [e]); simp [St.mem, St.setMem, upd, this]
    | ext i => rfl
  | ext i =>
    cases r' with
    | own j => rfl
    | ext j => have : i ≠ j := fun e => h (by rw [e]); simp [St.mem, St.setMem, List.getElem?_set, this]
theorem setMem_mem_self {r : Ref} {cs old : List AV} (h : st.mem r = some old) : (st.setMem r cs).mem r = some cs := by
  cases r with
  | own k => simp [St.mem, St.setMem, upd]
  | ext i =>
    simp only [St.mem] at h
    have : i < st.ext.length := (List.getElem?_eq_some_iff.1 h).1
    simp [St.mem, St.setMem, this]

theorem setAll_spec : ∀ (rs : List Ref) (os : List (List AV)) (st : St), rs.Nodup → os.length = rs.length → (∀ r ∈ rs, ∃ old, st.mem r = some old) →
    (∀ r, r ∉ rs → (st.setAll rs os).mem r = st.mem r) ∧ (∀ (i : Nat) (r : Ref), rs[i]? = some r → (st.setAll rs os).mem r = os[i]?) ∧
    (st.setAll rs os).env = st.env ∧ (st.setAll rs os).tok = st.tok ∧ (st.setAll rs os).nt = st.nt ∧ (st.setAll rs os).ext.length = st.ext.length
  | [], os, st, _, _, _ => by cases os <;> simp [St.setAll]
  | r :: rs, [], st, _, h, _ => by simp at h
  | r :: rs, c :: os, st, hn, hl, hm => by
    have hn' := List.nodup_cons.1 hn
    obtain ⟨old, ho⟩ := hm r (by simp)
    have ih := setAll_spec rs os (st.setMem r c) hn'.2 (by simpa using hl) (fun r' hr' => by
      obtain ⟨o2, h2⟩ := hm r' (by simp [hr'])
      exact ⟨o2, by rw [setMem_mem_other (fun e => hn'.1 (by rw [← e]; exact hr'))]; exact h2⟩)
    obtain ⟨i1, i2, i3, i4, i5, i6⟩ := ih
    simp only [St.setAll]
    refine ⟨fun r' hr' => ?_, fun i r' hi => ?_, ?_, ?_, ?_, ?_⟩
    · rw [i1 r' (fun h => hr' (by simp [h])), setMem_mem_other (fun e => hr' (by simp [e]))]
    · cases i with
      | zero =>
        simp at hi
        subst hi
        rw [i1 r hn'.1, setMem_mem_self ho]
        simp
      | succ i => simpa using i2 i r' (by simpa using hi)
    · rw [i3]; cases r <;> rfl
    · rw [i4]; cases r <;> rfl
    · rw [i5]; cases r <;> rfl
    · rw [i6]; cases r <;> simp [St.setMem]

theorem foldl_upd : ∀ (own : List (Nat × List AV)) (f : Nat → Option (List AV)), (own.map (·.1)).Nodup →
    (∀ p ∈ own, (own.foldl (fun f (p : Nat × List AV) => upd f p.1 p.2) f) p.1 = some p.2) ∧ (∀ k, k ∉ own.map (·.1) → (own.foldl (fun f (p : Nat × List AV) => upd f p.1 p.2) f) k = f k)
  | [], f, _ => by simp
  | p :: own, f, h => by
    simp only [List.map_cons, List.nodup_cons] at h
    obtain ⟨i1, i2⟩ := foldl_upd own (upd f p.1 p.2) h.2
    simp only [List.foldl_cons]
    refine ⟨fun q hq => ?_, fun k hk => ?_⟩
    · rcases List.mem_cons.1 hq with rfl | hq
      · rw [i2 _ h.1]; simp [upd]
      · exact i1 q hq
    · simp only [List.map_cons, List.mem_cons, not_or] at hk
      rw [i2 k hk.2]
      simp [upd, hk.1]

theorem findIdx_get : ∀ {rs : List Ref} {r : Ref} {i : Nat}, rs.findIdx? (· == r) = some i → rs[i]? = some r := by
  intro rs r i h
  rw [List.findIdx?_eq_some_iff_getElem] at h
  obtain ⟨hlt, h1, _⟩ := h
  rw [List.getElem?_eq_getElem hlt]
  simpa using h1

/-- What the callee may read. -/
def rdAt (w0 w : World) (l : Lay) (tk : Nat → Option (Nat × Nat)) : Rd := ⟨(cx w0 w l tk).im false, fun b => l.rd.z b ∨ b ∈ l.rd.d ++ l.rd.e, [], []⟩
/-- The world at a call, as the callee is handed it. -/
theorem call_pre {args : List AV} {vs : List Value} {rs : List Ref} {os : List (List AV)} (hm : MR w0 w l st) (hn : rs.Nodup) (hos : st.mems rs = some os) (hv : RVs w (cx w0 w l st.tok) args vs) (hne : ∀ cs ∈ os, cs ≠ []) :
    ∃ be : List Nat, (∀ (i b : Nat), be[i]? = some b ↔ ∃ r, rs[i]? = some r ∧ l.rb r = some b) ∧
      Pre w (rdAt w0 w l st.tok) be (mapRefL (refIdx rs) (asArgL args)) (os.map fun cs => mapRefL (refIdx rs) (asObjL cs)) vs := by
  obtain ⟨hol, hog⟩ := mems_get hos
  have hrb : ∀ r ∈ rs, ∃ b, l.rb r = some b := fun r hr => by
    obtain ⟨i, hi, rfl⟩ := List.mem_iff_getElem.1 hr
    obtain ⟨cs, h1, h2⟩ := hog i _ (List.getElem?_eq_getElem hi)
    obtain ⟨b, h3, _⟩ := (hm.obj _ cs h2).resolve_left fun x => hne cs (List.mem_of_getElem? h1) x.1
    exact ⟨b, h3⟩
  let be := rs.map fun r => (l.rb r).getD 0
  have hbe : ∀ (i b : Nat), be[i]? = some b ↔ ∃ r, rs[i]? = some r ∧ l.rb r = some b := fun i b => by
    simp only [be, List.getElem?_map, Option.map_eq_some_iff]
    constructor
    · rintro ⟨r, hr, rfl⟩
      obtain ⟨b, hb⟩ := hrb r (List.mem_of_getElem? hr)
      exact ⟨r, hr, by simp [hb]⟩
    · rintro ⟨r, hr, hb⟩
      exact ⟨r, hr, by simp [hb]⟩
  have hnd : be.Nodup := by
    refine List.pairwise_iff_getElem.2 fun i j hi hj hij => ?_
    have hi' : i < rs.length := by simpa [be] using hi
    have hj' : j < rs.length := by simpa [be] using hj
    obtain ⟨bi, hbi⟩ := hrb rs[i] (List.getElem_mem _)
    obtain ⟨bj, hbj⟩ := hrb rs[j] (List.getElem_mem _)
    simp only [be, List.getElem_map, hbi, hbj, Option.getD_some]
    intro e
    have hrr := hm.inj _ _ _ hbi (e ▸ hbj)
    have := (List.pairwise_iff_getElem.1 hn) i j hi' hj' hij
    exact this hrr
  have harg : ∀ x v, RV w (cx w0 w l st.tok) x v → RV w (c0 (rdAt w0 w l st.tok) be) ((x.asArg).mapRef (refIdx rs)) v := fun x v h => by
    have h1 := RV.asArg (c' := { cx w0 w l st.tok with im := fun _ => (cx w0 w l st.tok).im false, tc := fun _ _ _ _ => False }) (fun f b o => cx_down st.tok f b o) (fun _ _ h => h) (fun _ h => h) x v h
    refine RV.mapRef (c := { cx w0 w l st.tok with im := fun _ => (cx w0 w l st.tok).im false, tc := fun _ _ _ _ => False }) (c' := c0 (rdAt w0 w l st.tok) be) (fun _ _ _ h => h) (fun _ _ _ _ h => h.elim) (fun r r' b hr hb => ?_) (fun _ h => h) _ _ h1
    simp only [refIdx, Option.map_eq_some_iff] at hr
    obtain ⟨i, hi, rfl⟩ := hr
    exact (hbe i b).2 ⟨r, findIdx_get hi, hb⟩
  have hobjs : ∀ x v, RV w (cx w0 w l st.tok) x v → RV w (c0 (rdAt w0 w l st.tok) be) ((x.asObj).mapRef (refIdx rs)) v := fun x v h => by
    have h1 := RV.asObj (c' := { cx w0 w l st.tok with im := fun _ => (cx w0 w l st.tok).im false, tc := fun _ _ _ _ => False }) (fun f b o => cx_down st.tok f b o) (fun _ _ h => h) (fun _ h => h) x v h
    refine RV.mapRef (c := { cx w0 w l st.tok with im := fun _ => (cx w0 w l st.tok).im false, tc := fun _ _ _ _ => False }) (c' := c0 (rdAt w0 w l st.tok) be) (fun _ _ _ h => h) (fun _ _ _ _ h => h.elim) (fun r r' b hr hb => ?_) (fun _ h => h) _ _ h1
    simp only [refIdx, Option.map_eq_some_iff] at hr
    obtain ⟨i, hi, rfl⟩ := hr
    exact (hbe i b).2 ⟨r, findIdx_get hi, hb⟩
  have hargs : ∀ xs vs, RVs w (cx w0 w l st.tok) xs vs → RVs w (c0 (rdAt w0 w l st.tok) be) (mapRefL (refIdx rs) (asArgL xs)) vs := by
    intro xs
    induction xs with
    | nil => intro vs h; simpa [asArgL, mapRefL, RVs] using h
    | cons x xs ih =>
      intro vs h
      simp only [RVs] at h
      obtain ⟨v, r, rfl, h1, h2⟩ := h
      simp only [asArgL, mapRefL, RVs]
      exact ⟨v, r, rfl, harg x v h1, ih r h2⟩
  refine ⟨be, hbe, ?_, ?_, hnd, by simp [be, hol], ?_, ?_, hargs _ _ hv⟩
  · intro b o h
    rcases h with h | ⟨_, h⟩
    · refine ⟨h.2.1, fun hb => ?_⟩
      obtain ⟨i, hi, hib⟩ := List.mem_iff_getElem.1 hb
      obtain ⟨r, hr, hrb'⟩ := (hbe i b).1 (by rw [List.getElem?_eq_getElem hi, hib])
      cases r with
      | own k => have := (hm.rbow k b hrb').2; have h3 := h.2.2; rw [this] at h3; exact h3
      | ext j => have := hm.ext j; rw [hrb'] at this; exact absurd (hm.bel _ (List.mem_of_getElem? this.symm)) (Nat.not_lt.2 h.1)
    · have h2 := hm.rdok b o h
      refine ⟨Nat.lt_of_lt_of_le h2.1 hm.size, fun hb => ?_⟩
      obtain ⟨i, hi, hib⟩ := List.mem_iff_getElem.1 hb
      obtain ⟨r, hr, hrb'⟩ := (hbe i b).1 (by rw [List.getElem?_eq_getElem hi, hib])
      cases r with
      | own k => exact absurd (hm.rbow k b hrb').1 (Nat.not_le.2 h2.1)
      | ext j => have := hm.ext j; rw [hrb'] at this; exact h2.2 (List.mem_of_getElem? this.symm)
  · intro b h
    rcases h with h | h
    · have h2 := hm.fzs.z b h
      refine ⟨Nat.lt_of_lt_of_le h2.1 hm.size, fun hb => ?_⟩
      obtain ⟨i, hi, hib⟩ := List.mem_iff_getElem.1 hb
      obtain ⟨r, hr, hrb'⟩ := (hbe i b).1 (by rw [List.getElem?_eq_getElem hi, hib])
      cases r with
      | own k => exact absurd (hm.rbow k b hrb').1 (Nat.not_le.2 h2.1)
      | ext j => have := hm.ext j; rw [hrb'] at this; exact h2.2 (List.mem_of_getElem? this.symm)
    · have h2 := hm.fzs.de b h
      refine ⟨h2.2.1, fun hb => ?_⟩
      obtain ⟨i, hi, hib⟩ := List.mem_iff_getElem.1 hb
      obtain ⟨r, hr, hrb'⟩ := (hbe i b).1 (by rw [List.getElem?_eq_getElem hi, hib])
      cases r with
      | own k => have := (hm.rbow k b hrb').2; rw [h2.2.2] at this; cases this
      | ext j => have := hm.ext j; rw [hrb'] at this; exact absurd (hm.bel _ (List.mem_of_getElem? this.symm)) (Nat.not_lt.2 h2.1)
  · intro b hb
    obtain ⟨i, hi, hib⟩ := List.mem_iff_getElem.1 hb
    obtain ⟨r, hr, hrb'⟩ := (hbe i b).1 (by rw [List.getElem?_eq_getElem hi, hib])
    exact hm.rblt r b hrb'
  · intro i b cs hb hcs
    obtain ⟨r, hr, hrb'⟩ := (hbe i b).1 hb
    obtain ⟨cs0, h1, h2⟩ := hog i r hr
    rw [List.getElem?_map, h1] at hcs
    simp only [Option.map_some, Option.some.injEq] at hcs
    subst hcs
    obtain ⟨b', h3, h4⟩ := (hm.obj r cs0 h2).resolve_left fun x => by rw [hrb'] at x; cases x.2
    rw [hrb'] at h3
    cases h3
    rw [mapRefL_eq, asObjL_eq, List.map_map]
    exact h4.map _ hobjs

/-- The state behind a call. -/
theorem call_post {rs : List Ref} {be : List Nat} {os ext : List (List AV)} {own : List (Nat × List AV)} {r : AV} {v : Value} {w' : World} {ob : Nat → Option Nat} {d : Nat} {a : Act}
    (hg : Good w0 w l st a) (hn : rs.Nodup) (hos : st.mems rs = some os) (hbe : ∀ (i b : Nat), be[i]? = some b ↔ ∃ r, rs[i]? = some r ∧ l.rb r = some b)
    (hR : RetR w (rdAt w0 w l st.tok) be r ext own v w' ob) (hfree : ∀ p ∈ own, st.own (1000 * (d + 1) + p.1) = none) (hne : ∀ cs ∈ os, cs ≠ []) (hxk : ∀ k, Ref.own k ∈ rs → st.tok (XK k) = none) :
    ∃ l', Good w0 w' l' { (st.setAll rs (ext.map (mapRefL (refBack rs (d + 1))))) with
        own := (own.map fun (k, cs) => (1000 * (d + 1) + k, mapRefL (refBack rs (d + 1)) cs)).foldl (fun f (p : Nat × List AV) => upd f p.1 p.2) (st.setAll rs (ext.map (mapRefL (refBack rs (d + 1))))).own } a ∧
      RV w' (cx w0 w' l' st.tok) (r.mapRef (refBack rs (d + 1))) v ∧ l'.rd = l.rd ∧ l'.be = l.be := by
  classical
  obtain ⟨hm, he⟩ := hg
  obtain ⟨hol, hog⟩ := mems_get hos
  obtain ⟨f1, f2, f3, f4, f5⟩ := hR.fr
  have hbl : be.length = rs.length := by
    rcases Nat.lt_trichotomy be.length rs.length with h | h | h
    · exfalso
      have hr := List.getElem?_eq_getElem h
      obtain ⟨cs, h1, h2⟩ := hog _ _ hr
      obtain ⟨b, h3, _⟩ := (hm.obj _ cs h2).resolve_left fun x => hne cs (List.mem_of_getElem? h1) x.1
      have := (hbe be.length b).2 ⟨_, hr, h3⟩
      simp at this
    · exact h
    · exfalso
      obtain ⟨r', hr, _⟩ := (hbe rs.length _).1 (List.getElem?_eq_getElem h)
      simp at hr
  have hxl : (ext.map (mapRefL (refBack rs (d + 1)))).length = rs.length := by rw [List.length_map, hR.len, hbl]
  obtain ⟨s1, s2, s3, s4, s5, s6⟩ := setAll_spec rs (ext.map (mapRefL (refBack rs (d + 1)))) st hn hxl (fun r' hr' => by
    obtain ⟨i, hi, rfl⟩ := List.mem_iff_getElem.1 hr'
    obtain ⟨cs, _, h2⟩ := hog i _ (List.getElem?_eq_getElem hi)
    exact ⟨cs, h2⟩)
  -- blocks of 'be' are objects
  have hbobj : ∀ b ∈ be, ∃ r' ∈ rs, l.rb r' = some b := fun b hb => by
    obtain ⟨i, hi, hib⟩ := List.mem_iff_getElem.1 hb
    obtain ⟨r', hr, hrb⟩ := (hbe i b).1 (by rw [List.getElem?_eq_getElem hi, hib])
    exact ⟨r', List.mem_of_getElem? hr, hrb⟩
  have hnotbe : ∀ r' b, r' ∉ rs → l.rb r' = some b → b ∉ be := fun r' b hr hb hmem => by
    obtain ⟨r2, h1, h2⟩ := hbobj b hmem
    exact hr (hm.inj _ _ _ hb h2 ▸ h1)
  let K := 1000 * (d + 1)
  let l' : Lay := { l with
    rb := fun r' => match r' with | .own k => (match l.rb (.own k) with | some b => some b | none => if K ≤ k then ob (k - K) else none) | .ext i => l.rb (.ext i)
    ow := fun b => if w.heap.size ≤ b ∧ (∃ k, ob k = some b) then .obj else l.ow b }
  have howold : ∀ b, b < w.heap.size → l'.ow b = l.ow b := fun b hb => by simp only [l']; rw [if_neg (by omega)]
  have hobfree : ∀ k b, ob k = some b → l.rb (.own (K + k)) = none := fun k b hk => by
    obtain ⟨cs, hcs⟩ := hR.dom k b hk
    have := hfree _ hcs
    cases hh : l.rb (.own (K + k)) with
    | none => rfl
    | some b2 => obtain ⟨cs2, h2⟩ := hm.dom _ _ hh; simp only [St.mem] at h2; rw [this] at h2; cases h2
  have hrbnew : ∀ k b, ob k = some b → l'.rb (.own (K + k)) = some b := fun k b hk => by
    simp only [l', hobfree k b hk]
    rw [if_pos (Nat.le_add_right K k), Nat.add_sub_cancel_left]
    exact hk
  have hrbold : ∀ r' b, l.rb r' = some b → l'.rb r' = some b := fun r' b hr => by
    cases r' with
    | own k => simp [l', hr]
    | ext i => exact hr
  have hrbinv : ∀ r' b, l'.rb r' = some b → l.rb r' = some b ∨ ∃ k, r' = .own (K + k) ∧ ob k = some b ∧ w.heap.size ≤ b := fun r' b hr => by
    cases r' with
    | ext i => exact .inl hr
    | own k =>
      simp only [l'] at hr
      split at hr
      · rename_i b2 h2; cases hr; exact .inl h2
      · split at hr
        · rename_i hk; exact .inr ⟨k - K, by rw [Nat.add_sub_cancel' hk], hr, (hR.lt _ _ hr).1⟩
        · cases hr
  have hold0 : ∀ b, b < w0.heap.size → b ∉ l.be → w'.heap[b]? = w0.heap[b]? := fun b h1 h2 => by
    rw [f5 b (Nat.lt_of_lt_of_le h1 hm.size) (fun hb => ?_)]
    · exact hm.old b h1 h2
    · obtain ⟨r', _, hr⟩ := hbobj b hb
      cases r' with
      | own k => exact absurd (hm.rbow k b hr).1 (Nat.not_le.2 h1)
      | ext i => have := hm.ext i; rw [hr] at this; exact h2 (List.mem_of_getElem? this.symm)
  have hfr : ∀ b o, fresh w0 w l b o → b ∉ be := fun b o hf hb => by
    obtain ⟨r', _, hr⟩ := hbobj b hb
    cases r' with
    | own k => have := (hm.rbow k b hr).2; have h3 := hf.2.2; rw [this] at h3; exact h3
    | ext i => have := hm.ext i; rw [hr] at this; exact absurd (hm.bel _ (List.mem_of_getElem? this.symm)) (Nat.not_lt.2 hf.1)
  have hdn : ∀ D, D ∈ l.rd.d ++ l.rd.e → w'.heap[D]? = w.heap[D]? := fun D hD => by
    have h4 := hm.fzs.de D hD
    exact f5 D h4.2.1 (hfr D 0 ⟨h4.1, h4.2.1, by rw [h4.2.2]; trivial⟩)
  have hle : Cx.le w (cx w0 w l st.tok) w' (cx w0 w' l' st.tok) := cxle_of hm rfl hold0
    (fun b o hf => ⟨⟨hf.1, Nat.lt_of_lt_of_le hf.2.1 f4, by rw [howold b hf.2.1]; exact hf.2.2⟩, cell_of_heap (f5 b hf.2.1 (hfr b o hf))⟩) hrbold (fun _ _ _ _ h => h) hdn
  -- what the callee tells, in the caller's names
  have hback : ∀ x u, RV w' (c1 w w' (rdAt w0 w l st.tok) be ob) x u → RV w' (cx w0 w' l' st.tok) (x.mapRef (refBack rs (d + 1))) u := fun x u h => by
    refine RV.mapRef (c := c1 w w' (rdAt w0 w l st.tok) be ob) (c' := cx w0 w' l' st.tok) (fun f b o hi => ?_) (fun _ _ _ _ h => h.elim) (fun r1 r2 b hr hb => ?_) (fun _ h => h) x u h
    · rcases hi with ⟨h1, h2, h3⟩ | ⟨h1, h2⟩
      · refine .inl ⟨Nat.le_trans hm.size h1, h2, ?_⟩
        have : l'.ow b = .free := by
          simp only [l']
          rw [if_neg (fun h => by obtain ⟨_, k, hk⟩ := h; exact h3 k hk)]
          exact hm.owfree b h1
        rw [this]; trivial
      · subst h1; exact hle.im false b o h2
    · cases r1 with
      | ext i =>
        simp only [refBack] at hr
        obtain ⟨r3, hr3, hb3⟩ := (hbe i b).1 hb
        rw [hr] at hr3
        cases hr3
        exact hrbold r2 b hb3
      | own k =>
        simp only [refBack, Option.some.injEq] at hr
        subst hr
        exact hrbnew k b hb
  have hmapown : ((own.map fun (p : Nat × List AV) => (K + p.1, mapRefL (refBack rs (d + 1)) p.2)).map (·.1)).Nodup := by
    rw [List.map_map]
    have e : ((fun x : Nat × List AV => x.1) ∘ fun (p : Nat × List AV) => (K + p.1, mapRefL (refBack rs (d + 1)) p.2)) = (fun k => K + k) ∘ (fun p : Nat × List AV => p.1) := rfl
    rw [e, ← List.map_map]
    exact List.Pairwise.map _ (fun a b hab h => hab (by omega)) hR.nodup
  obtain ⟨u1, u2⟩ := foldl_upd (own.map fun (p : Nat × List AV) => (K + p.1, mapRefL (refBack rs (d + 1)) p.2)) (st.setAll rs (ext.map (mapRefL (refBack rs (d + 1))))).own hmapown
  let st2 : St := { (st.setAll rs (ext.map (mapRefL (refBack rs (d + 1))))) with own := (own.map fun (p : Nat × List AV) => (K + p.1, mapRefL (refBack rs (d + 1)) p.2)).foldl (fun f (p : Nat × List AV) => upd f p.1 p.2) (st.setAll rs (ext.map (mapRefL (refBack rs (d + 1))))).own }
  have hst2 : ∀ r', (∀ p ∈ own, r' ≠ .own (K + p.1)) → st2.mem r' = (st.setAll rs (ext.map (mapRefL (refBack rs (d + 1))))).mem r' := fun r' hr' => by
    cases r' with
    | ext i => rfl
    | own k =>
      simp only [St.mem, st2]
      refine u2 k (fun hk => ?_)
      simp only [List.map_map, List.mem_map, Function.comp_def] at hk
      obtain ⟨p, hp, rfl⟩ := hk
      exact hr' p hp rfl
  have hnewmem : ∀ p ∈ own, st2.mem (.own (K + p.1)) = some (mapRefL (refBack rs (d + 1)) p.2) := fun p hp => by
    simp only [St.mem, st2]
    exact u1 (K + p.1, mapRefL (refBack rs (d + 1)) p.2) (List.mem_map.2 ⟨p, hp, rfl⟩)
  have holdkey : ∀ r' b, l.rb r' = some b → ∀ p ∈ own, r' ≠ .own (K + p.1) := fun r' b hr p hp e => by
    subst e
    obtain ⟨cs, hc⟩ := hm.dom _ _ hr
    have := hfree p hp
    simp only [St.mem] at hc
    rw [this] at hc; cases hc
  have hmr : MR w0 w' l' st2 := by
    refine ⟨f1.trans hm.os, f2.trans hm.tape, f3.trans hm.output, Nat.le_trans hm.size f4, hold0, hm.bel, hm.ext, by show st2.ext.length = _; simp only [st2]; rw [s6]; exact hm.extn, ?_, ?_, ?_, ?_, ?_, ?_, ?_, ?_, hm.rdok, ?_, hm.tokinj, hm.fzs.step f4 hdn (fun D hD ho => by rw [howold D hD]; exact ho) rfl rfl, ?_⟩
    · -- inj
      intro r1 r2 b h1 h2
      rcases hrbinv r1 b h1 with h1 | ⟨k1, rfl, h1, h1'⟩ <;> rcases hrbinv r2 b h2 with h2 | ⟨k2, rfl, h2, h2'⟩
      · exact hm.inj _ _ _ h1 h2
      · exact absurd (hm.rblt _ _ h1) (Nat.not_lt.2 h2')
      · exact absurd (hm.rblt _ _ h2) (Nat.not_lt.2 h1')
      · rw [hR.inj _ _ _ h1 h2]
    · -- dom
      intro r1 b h1
      rcases hrbinv r1 b h1 with h1 | ⟨k1, rfl, h1, h1'⟩
      · rw [hst2 r1 (holdkey r1 b h1)]
        by_cases hr : r1 ∈ rs
        · obtain ⟨i, hi, rfl⟩ := List.mem_iff_getElem.1 hr
          rw [s2 i _ (List.getElem?_eq_getElem hi)]
          exact ⟨_, List.getElem?_eq_getElem (by omega)⟩
        · rw [s1 r1 hr]; exact hm.dom r1 b h1
      · obtain ⟨cs, hcs⟩ := hR.dom k1 b h1
        exact ⟨_, hnewmem _ hcs⟩
    · -- obj
      intro r1 cs h1
      show (cs = [] ∧ l'.rb r1 = none) ∨ ∃ b, l'.rb r1 = some b ∧ objR w' (cx w0 w' l' st2.tok) b cs
      have htok : st2.tok = st.tok := s4
      rw [htok]
      by_cases hnew : ∃ p ∈ own, r1 = .own (K + p.1)
      · obtain ⟨p, hp, rfl⟩ := hnew
        rw [hnewmem p hp] at h1
        cases h1
        rcases hR.objs p hp with ⟨e0, e1⟩ | ⟨b, hb, ho⟩
        · refine .inl ⟨by rw [e0]; rfl, ?_⟩
          have hn : l.rb (.own (K + p.1)) = none := by
            cases hh : l.rb (.own (K + p.1)) with
            | none => rfl
            | some b2 => exact absurd rfl (holdkey _ b2 hh p hp)
          simp only [l', hn]
          rw [if_pos (Nat.le_add_right K p.1), Nat.add_sub_cancel_left]
          exact e1
        refine .inr ⟨b, hrbnew _ _ hb, ?_⟩
        rw [mapRefL_eq]
        exact ho.map _ hback
      · rw [hst2 r1 (fun p hp e => hnew ⟨p, hp, e⟩)] at h1
        by_cases hr : r1 ∈ rs
        · obtain ⟨i, hi, rfl⟩ := List.mem_iff_getElem.1 hr
          have hir := List.getElem?_eq_getElem hi
          rw [s2 i _ hir] at h1
          rw [List.getElem?_map, Option.map_eq_some_iff] at h1
          obtain ⟨cs0, hcs0, rfl⟩ := h1
          obtain ⟨cso, _, h2⟩ := hog i _ hir
          obtain ⟨b, h3, _⟩ := (hm.obj _ cso h2).resolve_left fun x => by
            obtain ⟨cso', q1, q2⟩ := hog i _ hir
            rw [h2] at q2; cases q2
            exact hne cso (List.mem_of_getElem? q1) x.1
          refine .inr ⟨b, hrbold _ _ h3, ?_⟩
          rw [mapRefL_eq]
          exact (hR.exts i b cs0 ((hbe i b).2 ⟨_, hir, h3⟩) hcs0).map _ hback
        · rw [s1 r1 hr] at h1
          rcases hm.obj r1 cs h1 with ⟨e0, e1⟩ | ⟨b, h2, h3⟩
          · refine .inl ⟨e0, ?_⟩
            cases hh : l'.rb r1 with
            | none => rfl
            | some b2 =>
              rcases hrbinv r1 b2 hh with h5 | ⟨k, rfl, h5, _⟩
              · rw [e1] at h5; cases h5
              · obtain ⟨cs5, h6⟩ := hR.dom k b2 h5
                exact absurd ⟨_, h6, rfl⟩ hnew
          · exact .inr ⟨b, hrbold _ _ h2, h3.mono hle (f5 b (hm.rblt _ _ h2) (hnotbe r1 b hr h2))⟩
    · intro r1 b h1
      rcases hrbinv r1 b h1 with h1 | ⟨k1, rfl, h1, _⟩
      · exact Nat.lt_of_lt_of_le (hm.rblt _ _ h1) f4
      · exact (hR.lt _ _ h1).2
    · intro k b h1
      rcases hrbinv _ b h1 with h1 | ⟨k1, _, h1, h1'⟩
      · have := hm.rbow k b h1
        exact ⟨this.1, by rw [howold b (hm.rblt _ _ h1)]; exact this.2⟩
      · exact ⟨Nat.le_trans hm.size h1', by simp only [l']; rw [if_pos ⟨h1', k1, h1⟩]⟩
    · intro b hb
      simp only [l'] at hb
      split at hb
      · rename_i hc; obtain ⟨_, k, hk⟩ := hc; exact ⟨K + k, hrbnew k b hk⟩
      · obtain ⟨k, hk⟩ := hm.owobj b hb; exact ⟨k, hrbold _ _ hk⟩
    · intro b hb
      simp only [l']
      rw [if_neg (fun h => by obtain ⟨_, k, hk⟩ := h; exact absurd (hR.lt _ _ hk).2 (Nat.not_lt.2 hb))]
      exact hm.owfree b (Nat.le_trans f4 hb)
    · intro b hb
      rw [howold b (Nat.lt_of_lt_of_le hb hm.size)]
      exact hm.owold b hb
    · intro k b cap hk
      obtain ⟨n, z, a1, a2, a3, a4, a5, cv, T, a6, a7⟩ := hm.tokd k b cap hk
      refine ⟨n, z, by show st2.tok k = _; simp only [st2]; rw [s4]; exact a1, by rw [howold b a4]; exact a2, a3, Nat.lt_of_lt_of_le a4 f4, a5, cv, T, ?_, a7⟩
      rw [f5 b a4 (fun hb => ?_)]
      · exact a6
      · obtain ⟨r', _, hr⟩ := hbobj b hb
        cases r' with
        | own k2 => rw [(hm.rbow k2 b hr).2] at a2; cases a2
        | ext i => have := hm.ext i; rw [hr] at this; exact absurd (hm.bel _ (List.mem_of_getElem? this.symm)) (Nat.not_lt.2 a3)
    · intro k c z hk
      obtain ⟨a', b, q1, cv, T, q2, q3⟩ := hm.xtd k c z hk
      refine ⟨by show (st2.tok (XK k)).isSome = true; simp only [st2]; rw [s4]; exact a', b, hrbold _ _ q1, cv, T, ?_, q3⟩
      have hnr : Ref.own k ∉ rs := fun h => by rw [hxk k h] at a'; cases a'
      rw [f5 b (hm.rblt _ _ q1) (hnotbe _ b hnr q1)]
      exact q2
  refine ⟨l', ⟨hmr, ?_⟩, hback _ _ hR.ret, rfl, rfl⟩
  have h2 := he.mono hle
  show ER w' (cx w0 w' l' st2.tok) st2 a.tmps
  have htok : st2.tok = st.tok := s4
  rw [htok]
  exact ⟨by show _ = st2.nt; simp only [st2]; rw [s5]; exact h2.1, fun e x hx => by
    simp only [st2] at hx ⊢
    rw [s3] at hx
    rw [s5]
    exact h2.2 e x hx⟩

/-- The state behind a call that hands back a slice with the room behind it. -/
theorem call_tok {k : Knd} {n z : Nat} {cs : List D} {ad : Option Addr} {cap : Nat} {w' : World} {d : Nat} {a : Act} (hg : Good w0 w l st a) (hd : st.tok d = none) (hF : Framed w w' []) (hcap : n ≤ cap) (hT : TokR w w' k n z cs cap ad) :
    ∃ l', Good w0 w' l' { st with tok := upd st.tok d (n, z) } a ∧ RV w' (cx w0 w' l' (upd st.tok d (n, z))) (.sl true true k (.tok d) n cs) (.slice ad n cap) ∧ l'.rd = l.rd ∧ l'.be = l.be := by
  classical
  obtain ⟨hm, he⟩ := hg
  obtain ⟨f1, f2, f3, f4, f5⟩ := hF
  have f5 : ∀ b, b < w.heap.size → w'.heap[b]? = w.heap[b]? := fun b hb => f5 b hb (by simp)
  -- is the block ours?
  let ob : Option Nat := match ad with | none => none | some x => if cap = n then none else some x.block
  have hob : ∀ b, ob = some b → ad = some ⟨b, 0, none⟩ ∧ w.heap.size ≤ b ∧ ∃ (cv : Array Value) (T : TypeId), w'.heap[b]? = some (Obj.cells cv T (0, 0)) ∧ cap * z ≤ cv.size := fun b hb => by
    cases ad with
    | none => simp [ob] at hb
    | some x =>
      simp only [ob] at hb
      split at hb
      · cases hb
      · rename_i hne
        have hb := Option.some.inj hb
        subst hb
        simp only [TokR] at hT
        obtain ⟨t1, t2, t3, t4, t5⟩ := hT
        rcases t5 with t5 | ⟨t0, t5, t6⟩
        · exact absurd t5 hne
        · refine ⟨?_, t6⟩
          obtain ⟨bk, of, sp⟩ := x
          simp only at t0 t5
          subst t0 t5
          rfl
  let l' : Lay := { l with ow := fun b => if ob = some b then .tok (n * z) else l.ow b, bt := fun key => if key = d then ob.map (fun b => (b, cap)) else l.bt key }
  have howold : ∀ b, b < w.heap.size → l'.ow b = l.ow b := fun b hb => by
    simp only [l']
    rw [if_neg (fun h => absurd (hob b h).2.1 (Nat.not_le.2 hb))]
  have hbtd : l.bt d = none := by
    cases hb : l.bt d with
    | none => rfl
    | some q => obtain ⟨_, _, h, _⟩ := hm.tokd d q.1 q.2 hb; rw [hd] at h; cases h
  have hdn : ∀ D, D ∈ l.rd.d ++ l.rd.e → w'.heap[D]? = w.heap[D]? := fun D hD => f5 D (hm.fzs.de D hD).2.1
  have hle : Cx.le w (cx w0 w l st.tok) w' (cx w0 w' l' (upd st.tok d (n, z))) := by
    refine cxle_of hm rfl (fun b hb _ => (f5 b (Nat.lt_of_lt_of_le hb hm.size)).trans (hm.old b hb ‹_›)) (fun b o hb => ⟨⟨hb.1, Nat.lt_of_lt_of_le hb.2.1 f4, by rw [howold b hb.2.1]; exact hb.2.2⟩, cell_of_heap (f5 b hb.2.1)⟩) (fun _ _ h => h) (fun key n' a' c htc => ?_) hdn
    obtain ⟨n2, z2, h1, h2, h3⟩ := htc
    have hk : key ≠ d := fun e => by subst e; rw [hd] at h1; cases h1
    exact ⟨n2, z2, by simp [upd, hk, h1], h2, fun e => by have := h3 e; simpa [l', hk, Lay.live] using this⟩
  have hmr : MR w0 w' l' { st with tok := upd st.tok d (n, z) } := by
    refine ⟨f1.trans hm.os, f2.trans hm.tape, f3.trans hm.output, Nat.le_trans hm.size f4, fun b hb hn => (f5 b (Nat.lt_of_lt_of_le hb hm.size)).trans (hm.old b hb hn), hm.bel, hm.ext, hm.extn, hm.inj, ?_, ?_, fun r b hr => Nat.lt_of_lt_of_le (hm.rblt r b hr) f4, ?_, ?_, ?_, ?_, hm.rdok, ?_, ?_, hm.fzs.step f4 hdn (fun D hD ho => by rw [howold D hD]; exact ho) rfl rfl, fun k c z' hk => (by
      obtain ⟨a, b, q1, cv, T', q2, q3⟩ := hm.xtd k c z' hk
      exact ⟨by simp only [upd]; split; rfl; exact a, b, q1, cv, T', (f5 b (hm.rblt _ _ q1)).trans q2, q3⟩)⟩
    · intro r b hr
      obtain ⟨cs, h⟩ := hm.dom r b hr
      exact ⟨cs, by cases r <;> exact h⟩
    · intro r cs' hr
      rcases hm.obj r cs' (by cases r <;> exact hr) with e | ⟨b, h1, h2⟩
      · exact .inl e
      · exact .inr ⟨b, h1, h2.mono hle (f5 b (hm.rblt r b h1))⟩
    · intro key b hk
      have := hm.rbow key b hk
      exact ⟨this.1, by rw [howold b (hm.rblt _ _ hk)]; exact this.2⟩
    · intro b hb
      simp only [l'] at hb
      split at hb
      · cases hb
      · exact hm.owobj b hb
    · intro b hb
      simp only [l']
      rw [if_neg (fun h => by
        obtain ⟨_, _, cv, T, h4, _⟩ := hob b h
        have := (Array.getElem?_eq_some_iff.1 h4).1
        omega)]
      exact hm.owfree b (Nat.le_trans f4 hb)
    · intro b hb
      rw [howold b (Nat.lt_of_lt_of_le hb hm.size)]
      exact hm.owold b hb
    · intro key b c hk
      simp only [l'] at hk
      split at hk
      · rename_i e
        subst e
        obtain ⟨b', hb', e2⟩ := Option.map_eq_some_iff.1 hk
        cases e2
        obtain ⟨q1, q2, cv, T, q3, q4⟩ := hob b hb'
        exact ⟨n, z, by simp [upd], by simp only [l']; rw [if_pos hb'], Nat.le_trans hm.size q2, (Array.getElem?_eq_some_iff.1 q3).1, hcap, cv, T, q3, q4⟩
      · rename_i e
        obtain ⟨n2, z2, a1, a2, a3, a4, a5, cv, T', a6, a7⟩ := hm.tokd key b c hk
        exact ⟨n2, z2, by simp [upd, e, a1], by rw [howold b a4]; exact a2, a3, Nat.lt_of_lt_of_le a4 f4, a5, cv, T', (f5 b a4).trans a6, a7⟩
    · intro k1 k2 b c c' h1 h2
      simp only [l'] at h1 h2
      split at h1 <;> split at h2
      · rename_i e e'; rw [e, e']
      · obtain ⟨b', hb', e2⟩ := Option.map_eq_some_iff.1 h1
        cases e2
        obtain ⟨_, _, _, _, _, h, _⟩ := hm.tokd _ _ _ h2
        exact absurd (hob b hb').2.1 (Nat.not_le.2 h)
      · obtain ⟨b', hb', e2⟩ := Option.map_eq_some_iff.1 h2
        cases e2
        obtain ⟨_, _, _, _, _, h, _⟩ := hm.tokd _ _ _ h1
        exact absurd (hob b hb').2.1 (Nat.not_le.2 h)
      · exact hm.tokinj _ _ _ _ _ h1 h2
  refine ⟨l', ⟨hmr, he.mono hle⟩, ?_, rfl, rfl⟩
  simp only [RV]
  refine ⟨ad, cap, rfl, hcap, ?_, ⟨n, z, by simp [upd], Nat.le_refl _, fun _ => ?_⟩⟩
  · cases ad with
    | none => exact hT
    | some x =>
      simp only [TokR] at hT
      obtain ⟨t1, t2, t3, t4, t5⟩ := hT
      refine ⟨t1, t2, RDs.of_get fun j dd hj => ?_⟩
      obtain ⟨⟨i1, i2⟩, v, i3, i4, i5⟩ := t4.get j dd hj
      have hjl : j < cs.length := (List.getElem?_eq_some_iff.1 hj).1
      refine ⟨.inl ⟨Nat.le_trans hm.size i1, i2, ?_⟩, v, i3, i4, RD.mono (fun _ _ h => h.elim) (fun _ _ _ => rfl) dd v i5⟩
      simp only [l']
      split
      · rename_i hb
        obtain ⟨q1, _⟩ := hob _ hb
        have : x.off = 0 := by rw [Option.some.inj q1]
        show x.off + j < n * z
        omega
      · rw [hm.owfree _ i1]; trivial
  · simp only [l', if_true]
    cases ho : ob with
    | none =>
      show cap = n
      cases ad with
      | none => simp only [TokR] at hT; omega
      | some x =>
        simp only [ob] at ho
        split at ho
        · assumption
        · cases ho
    | some b => exact ⟨(hob b ho).1, rfl⟩
end Go.Ev
end

section
set_option linter.all false
set_option linter.unusedVariables false
set_option linter.unusedSimpArgs false
namespace Go.Ev
variable {w0 w : World} {l : Lay} {st : St} {P : Program}

/-! ### Slices that may be turned, and grow -/
theorem refsL_mem {r : Ref} : ∀ {xs : List AV}, r ∉ refsL xs → ∀ x ∈ xs, r ∉ x.refs
  | [], _, x, hx => by cases hx
  | y :: ys, h, x, hx => by
    simp only [refsL, List.mem_append, not_or] at h
    rcases List.mem_cons.1 hx with rfl | hx
    · exact h.1
    · exact refsL_mem h.2 x hx
mutual
theorem RV.off {c c' : Cx} {d : Nat} (him : ∀ f b o, c.im f b o → c'.im f b o) (hr : ∀ r b, r ≠ .own d → c.rb r = some b → c'.rb r = some b) (ht : ∀ k n a cap, c.tc k n a cap → c'.tc k n a cap) (hz : ∀ b, c.fz b → c'.fz b)
    (hx : ∀ k z cap, k ≠ d → c.xc k z cap → c'.xc k z cap) : ∀ (x : AV) (v : Value), Ref.own d ∉ x.refs → RV w c x v → RV w c' x v
  | .s x, v, _, hv => by simpa [RV] using hv
  | .sl f g k o n cs, v, hok, hv => by
    simp only [RV] at hv ⊢
    obtain ⟨a, cap, h1, h2, h3, h4⟩ := hv
    refine ⟨a, cap, h1, h2, ?_, ?_⟩
    · cases a with
      | none => exact h3
      | some ad => exact ⟨h3.1, h3.2.1, RDs.mono (him _) (fun _ _ _ => rfl) (him _) (fun _ _ _ => rfl) _ _ _ h3.2.2⟩
    · cases o with
      | no => trivial
      | full => exact h4
      | tok key => exact ht _ _ _ _ h4
      | grw _ _ => exact h4.elim
  | .sm r n o, v, hok, hv => by
    simp only [AV.refs, List.mem_singleton] at hok
    have hne : r ≠ .own d := fun e => hok e.symm
    simp only [RV] at hv ⊢
    obtain ⟨a, cap, h1, h2, h3, h4⟩ := hv
    refine ⟨a, cap, h1, h2, h3.imp (fun ⟨b, x, y⟩ => ⟨b, hr _ _ hne x, y⟩) id, ?_⟩
    cases o with
    | no => trivial
    | full => exact h4.elim
    | tok _ => exact h4.elim
    | grw k z => exact ⟨h4.1, hx k z cap (fun e => hne (by rw [h4.1, e])) h4.2⟩
  | .ptr r off, v, hok, hv => by
    simp only [AV.refs, List.mem_singleton] at hok
    simp only [RV] at hv ⊢; obtain ⟨b, h1, h2⟩ := hv; exact ⟨b, hr _ _ (fun e => hok e.symm) h1, h2⟩
  | .pv f g cs, v, _, hv => by simp only [RV] at hv ⊢; obtain ⟨b, o, h1, h2⟩ := hv; exact ⟨b, o, h1, RDs.mono (him _) (fun _ _ _ => rfl) (him _) (fun _ _ _ => rfl) _ _ _ h2⟩
  | .fn f cap, v, hok, hv => by simp only [AV.refs] at hok; simp only [RV] at hv ⊢; obtain ⟨vs, h1, h2⟩ := hv; exact ⟨vs, h1, RVs.off him hr ht hz hx cap vs hok h2⟩
  | .ifc t x, v, hok, hv => by simp only [AV.refs] at hok; simp only [RV] at hv ⊢; obtain ⟨y, h1, h2⟩ := hv; exact ⟨y, h1, RV.off him hr ht hz hx x y hok h2⟩
  | .agg cs, v, hok, hv => by simp only [AV.refs] at hok; simp only [RV] at hv ⊢; obtain ⟨vs, h1, h2⟩ := hv; exact ⟨vs, h1, RVs.off him hr ht hz hx cs vs hok h2⟩
  | .tup xs, v, hok, hv => by simp only [AV.refs] at hok; simp only [RV] at hv ⊢; obtain ⟨vs, h1, h2⟩ := hv; exact ⟨vs, h1, RVs.off him hr ht hz hx xs vs hok h2⟩
  | .junk, _, _, _ => by simp [RV]
  | .yl l G rs, v, hok, hv => by
    simp only [AV.refs] at hok
    simp only [RV] at hv ⊢
    exact ⟨hv.1, hz _ hv.2.fz, hv.2.lp, fun b o hb => ⟨him _ _ _ (hv.2.rd b o hb).1, (hv.2.rd b o hb).2⟩, hv.2.rs.imp fun r hr2 b => hr r b (fun e => hok (e ▸ hr2))⟩
theorem RVs.off {c c' : Cx} {d : Nat} (him : ∀ f b o, c.im f b o → c'.im f b o) (hr : ∀ r b, r ≠ .own d → c.rb r = some b → c'.rb r = some b) (ht : ∀ k n a cap, c.tc k n a cap → c'.tc k n a cap) (hz : ∀ b, c.fz b → c'.fz b)
    (hx : ∀ k z cap, k ≠ d → c.xc k z cap → c'.xc k z cap) : ∀ (xs : List AV) (vs : List Value), Ref.own d ∉ refsL xs → RVs w c xs vs → RVs w c' xs vs
  | [], vs, _, hv => by simpa [RVs] using hv
  | x :: xs, vs, hok, hv => by
    simp only [refsL, List.mem_append, not_or] at hok
    simp only [RVs] at hv ⊢
    obtain ⟨v, r, h1, h2, h3⟩ := hv
    exact ⟨v, r, h1, RV.off him hr ht hz hx x v hok.1 h2, RVs.off him hr ht hz hx xs r hok.2 h3⟩
end
theorem mentions_false {d : Nat} {x : AV} (h : x.mentions d = false) : Ref.own d ∉ x.refs := by simpa [AV.mentions] using h

/-- An object moves, or is laid anew; whatever spoke of it is forgotten. -/
theorem Good.regrow {a : Act} (h : Good w0 w l st a) (d b cap z : Nat) (cs : List AV) (cv : Array Value) (T : TypeId) (w' : World) (e1 : w'.os = w.os) (e2 : w'.tape = w.tape) (e3 : w'.output = w.output) (hsz : w.heap.size ≤ w'.heap.size)
    (hold : ∀ k, k < w.heap.size → k ≠ b → w'.heap[k]? = w.heap[k]?) (hnew : ∀ k, w.heap.size ≤ k → k < w'.heap.size → k = b) (hb : w'.heap[b]? = some (.cells cv T (0, 0))) (hbw : w.heap.size ≤ b ∨ l.rb (.own d) = some b)
    (hcs : cs.length ≤ cv.size) (hcells : ∀ (j : Nat) (x : AV), cs[j]? = some x → ∃ v, cv[j]? = some v ∧ v.oneCell' = true ∧ Ref.own d ∉ x.refs ∧ RV w (cx w0 w l st.tok) x v) (hcap : cap * z ≤ cv.size) (htk : st.tok (XK d) = none ∨ st.tok (XK d) = some (0, z)) :
    ∃ l', Good w0 w' l' { st.purge d with own := upd (st.purge d).own d cs, tok := upd st.tok (XK d) (0, z) } a ∧ l'.rb (.own d) = some b ∧ l'.xt d = some (cap, z) ∧ l'.rd = l.rd ∧ l'.be = l.be := by
  obtain ⟨hm, he⟩ := h
  let l' : Lay := { l with
    rb := fun r => if r = .own d then some b else l.rb r
    ow := fun k => if k = b then .obj else if l.rb (.own d) = some k then .free else l.ow k
    xt := fun k => if k = d then some (cap, z) else l.xt k }
  let tk' := upd st.tok (XK d) (0, z)
  let st' : St := { st.purge d with own := upd (st.purge d).own d cs, tok := tk' }
  have hblt : b < w'.heap.size := (Array.getElem?_eq_some_iff.1 hb).1
  have hb0 : w0.heap.size ≤ b := by
    rcases hbw with h | h
    · exact Nat.le_trans hm.size h
    · exact (hm.rbow d b h).1
  have hrne : ∀ r b', r ≠ .own d → l.rb r = some b' → b' ≠ b := fun r b' hr hb' e => by
    subst e
    rcases hbw with h | h
    · exact absurd (hm.rblt _ _ hb') (Nat.not_lt.2 h)
    · exact hr (hm.inj _ _ _ hb' h)
  have hlow : ∀ b', b' < w.heap.size → l.ow b' ≠ .obj → b' ≠ b := fun b' h1 h2 e => by
    subst e
    rcases hbw with h | h
    · exact absurd h1 (Nat.not_lt.2 h)
    · exact h2 (hm.rbow d _ h).2
  have how : ∀ b', b' < w.heap.size → l.ow b' ≠ .obj → l'.ow b' = l.ow b' := fun b' h1 h2 => by
    simp only [l']
    rw [if_neg (hlow b' h1 h2), if_neg (fun e => h2 (hm.rbow d _ e).2)]
  have htc : ∀ k n a cap, (cx w0 w l st.tok).tc k n a cap → (cx w0 w' l' tk').tc k n a cap := fun k n a cap ⟨n', z', h1, h2, h3⟩ => by
    by_cases e : k = XK d
    · subst e
      rcases htk with h | h
      · rw [h] at h1; cases h1
      · rw [h] at h1; cases h1; exact ⟨0, z, by simp [tk', upd], h2, h3⟩
    · exact ⟨n', z', by simp [tk', upd, e, h1], h2, h3⟩
  have hfresh : ∀ b' o, fresh w0 w l b' o → fresh w0 w' l' b' o ∧ w'.cell? ⟨b', o, none⟩ = w.cell? ⟨b', o, none⟩ := fun b' o hf => by
    have hno : l.ow b' ≠ .obj := fun e => by have := hf.2.2; rw [e] at this; exact this
    exact ⟨⟨hf.1, Nat.lt_of_lt_of_le hf.2.1 hsz, by rw [how b' hf.2.1 hno]; exact hf.2.2⟩, cell_of_heap (hold b' hf.2.1 (hlow b' hf.2.1 hno))⟩
  have hDn : ∀ D, D ∈ l.rd.d ++ l.rd.e → w'.heap[D]? = w.heap[D]? := fun D hD => by
    have h4 := hm.fzs.de D hD
    exact hold D h4.2.1 (hlow D h4.2.1 (by rw [h4.2.2]; simp))
  have hold0 : ∀ b', b' < w0.heap.size → b' ∉ l.be → w'.heap[b']? = w0.heap[b']? := fun b' h1 h2 =>
    (hold b' (Nat.lt_of_lt_of_le h1 hm.size) (fun e => by omega)).trans (hm.old b' h1 h2)
  have hcell : ∀ f b' o, (cx w0 w l st.tok).im f b' o → w'.cell? ⟨b', o, none⟩ = w.cell? ⟨b', o, none⟩ := fun f b' o hi => by
    rcases hi with hi | ⟨_, h2⟩
    · exact (hfresh b' o hi).2
    · have := hm.rdok b' o h2
      exact cell_of_heap ((hold0 b' this.1 this.2).trans (hm.old b' this.1 this.2).symm)
  have him : ∀ f b' o, (cx w0 w l st.tok).im f b' o → (cx w0 w' l' tk').im f b' o := fun f b' o hi => by
    rcases hi with hi | h2
    · exact .inl (hfresh b' o hi).1
    · exact .inr h2
  have to' : ∀ x v, Ref.own d ∉ x.refs → RV w (cx w0 w l st.tok) x v → RV w' (cx w0 w' l' tk') x v := fun x v hx hv => by
    -- first the world, in a context without the object; then the names
    let c1 : Cx := { cx w0 w l st.tok with rb := fun r => if r = .own d then none else l.rb r, xc := fun k z' c => k ≠ d ∧ (cx w0 w l st.tok).xc k z' c }
    have h1 : RV w c1 x v := RV.off (c := cx w0 w l st.tok) (c' := c1) (d := d) (fun _ _ _ h => h) (fun r b hr h => by simp only [c1, if_neg hr]; exact h) (fun _ _ _ _ h => h) (fun _ h => h) (fun k z' c hk h => ⟨hk, h⟩) x v hx hv
    refine RV.mono (c := c1) (c' := cx w0 w' l' tk') ⟨him, hcell, fun r b' hr => ?_, htc, fun _ h => h, fun b' hz => ?_, fun k z' c hk => ?_⟩ x v h1
    · simp only [c1] at hr
      split at hr
      · cases hr
      · rename_i hne; show (if r = .own d then some b else l.rb r) = some b'; rw [if_neg hne]; exact hr
    · rcases hz with hz | hz
      · have := hm.fzs.z b' hz
        exact (hold0 b' this.1 this.2).trans (hm.old b' this.1 this.2).symm
      · exact hDn b' hz
    · show (match (if k = d then some (cap, z) else l.xt k) with | some (c', z'') => c = c' ∧ z' = z'' | none => c = 0)
      rw [if_neg hk.1]; exact hk.2
  have hpur : ∀ x v, RV w (cx w0 w l st.tok) x v → RV w' (cx w0 w' l' tk') (purgeAV d x) v := fun x v hv => by
    unfold purgeAV
    split
    · simp [RV]
    · rename_i hn; exact to' x v (mentions_false (by simpa using hn)) hv
  have hmem : ∀ r, r ≠ .own d → st'.mem r = (st.mem r).map (List.map (purgeAV d)) := fun r hr => by
    cases r with
    | own k => have : k ≠ d := fun e => hr (by rw [e]); simp [St.mem, st', upd, this, St.purge]
    | ext i => simp [St.mem, st', St.purge]
  have hself : st'.mem (.own d) = some cs := by simp [St.mem, st', upd]
  have hmr : MR w0 w' l' st' := by
    refine ⟨e1.trans hm.os, e2.trans hm.tape, e3.trans hm.output, Nat.le_trans hm.size hsz, hold0, hm.bel, ?_, by simp [st', St.purge, l', hm.extn], ?_, ?_, ?_, ?_, ?_, ?_, ?_, ?_, hm.rdok, ?_, hm.tokinj, hm.fzs.step hsz hDn (fun D hD ho => by rw [how D hD (by rw [ho]; simp)]; exact ho) rfl rfl, ?_⟩
    · intro i; simp only [l']; rw [if_neg (by simp)]; exact hm.ext i
    · intro r r' b' h1 h2
      simp only [l'] at h1 h2
      split at h1 <;> split at h2
      · rename_i a c; rw [a, c]
      · rename_i a c; cases h1; exact absurd rfl (hrne r' _ c h2)
      · rename_i a c; cases h2; exact absurd rfl (hrne r _ a h1)
      · exact hm.inj _ _ _ h1 h2
    · intro r b' h1
      by_cases e : r = .own d
      · subst e; exact ⟨cs, hself⟩
      · simp only [l', if_neg e] at h1
        obtain ⟨cs1, h2⟩ := hm.dom r b' h1
        exact ⟨_, by rw [hmem r e, h2]; rfl⟩
    · intro r cs2 h1
      by_cases e : r = .own d
      · subst e
        rw [hself] at h1
        cases h1
        refine .inr ⟨b, by simp [l'], cv, T, hb, hcs, fun j x hj => ?_⟩
        obtain ⟨v, q1, q2, q3, q4⟩ := hcells j x hj
        exact ⟨v, q1, q2, to' x v q3 q4⟩
      · rw [hmem r e, Option.map_eq_some_iff] at h1
        obtain ⟨cs1, h2, rfl⟩ := h1
        rcases hm.obj r cs1 h2 with ⟨q1, q2⟩ | ⟨b1, q1, cv1, T1, q2, q3, q4⟩
        · exact .inl ⟨by rw [q1]; rfl, by simp only [l', if_neg e]; exact q2⟩
        · refine .inr ⟨b1, by simp only [l', if_neg e]; exact q1, cv1, T1, (hold b1 (hm.rblt _ _ q1) (hrne r b1 e q1)).trans q2, by simpa using q3, fun j x hj => ?_⟩
          rw [List.getElem?_map, Option.map_eq_some_iff] at hj
          obtain ⟨y, hy, rfl⟩ := hj
          obtain ⟨v, a1, a2, a3⟩ := q4 j y hy
          exact ⟨v, a1, a2, hpur y v a3⟩
    · intro r b' h1
      simp only [l'] at h1
      split at h1
      · cases h1; exact hblt
      · exact Nat.lt_of_lt_of_le (hm.rblt _ _ h1) hsz
    · intro k b' h1
      simp only [l'] at h1 ⊢
      split at h1
      · cases h1; exact ⟨hb0, by simp⟩
      · rename_i hne
        have := hm.rbow k b' h1
        rw [if_neg (hrne _ _ hne h1), if_neg (fun e => hne (hm.inj _ _ _ h1 e))]
        exact this
    · intro b' h1
      simp only [l'] at h1
      split at h1
      · rename_i e; exact ⟨d, by simp [l', e]⟩
      · split at h1
        · cases h1
        · rename_i q1 q2
          obtain ⟨k, hk⟩ := hm.owobj b' h1
          refine ⟨k, ?_⟩
          simp only [l']
          rw [if_neg (fun e => q2 (by rw [← e]; exact hk))]
          exact hk
    · intro b' h1
      simp only [l']
      rw [if_neg (by omega)]
      split
      · rfl
      · exact hm.owfree b' (by omega)
    · intro b' h1
      simp only [l']
      rw [if_neg (by omega)]
      split
      · rfl
      · exact hm.owold b' h1
    · intro k b' c hk
      obtain ⟨n, z1, a1, a2, a3, a4, a5, cv1, T1, a6, a7⟩ := hm.tokd k b' c hk
      have hno : l.ow b' ≠ .obj := by rw [a2]; simp
      refine ⟨n, z1, ?_, by rw [how b' a4 hno]; exact a2, a3, Nat.lt_of_lt_of_le a4 hsz, a5, cv1, T1, (hold b' a4 (hlow b' a4 hno)).trans a6, a7⟩
      show upd st.tok (XK d) (0, z) k = some (n, z1)
      by_cases e : k = XK d
      · subst e
        rcases htk with h | h
        · rw [h] at a1; cases a1
        · rw [h] at a1; cases a1; simp [upd]
      · simp [upd, e, a1]
    · intro k c z1 hk
      simp only [l'] at hk
      split at hk
      · rename_i e
        cases hk
        exact ⟨by show (upd st.tok (XK d) (0, z) (XK k)).isSome = true; simp only [upd]; rw [if_pos (by rw [e])]; rfl, b, by simp [l', e], cv, T, hb, hcap⟩
      · rename_i e
        obtain ⟨a1, b1, q1, cv1, T1, q2, q3⟩ := hm.xtd k c z1 hk
        have hne : Ref.own k ≠ .own d := fun e2 => e (by cases e2; rfl)
        exact ⟨by show (upd st.tok (XK d) (0, z) (XK k)).isSome = true; simp only [upd]; split; rfl; exact a1, b1, by simp only [l', if_neg hne]; exact q1, cv1, T1, (hold b1 (hm.rblt _ _ q1) (hrne _ b1 hne q1)).trans q2, q3⟩
  refine ⟨l', ⟨hmr, he.1, fun e x hx => ?_⟩, by simp [l'], by simp [l'], rfl, rfl⟩
  have hx' : (st.env e).map (purgeAV d) = some x := hx
  rw [Option.map_eq_some_iff] at hx'
  obtain ⟨y, hy, rfl⟩ := hx'
  exact ⟨(he.2 e y hy).1, hpur y _ (he.2 e y hy).2⟩
end Go.Ev
end

section
set_option linter.all false
set_option linter.unusedVariables false
set_option linter.unusedSimpArgs false
namespace Go.Ev
variable {w0 w : World} {l : Lay} {st : St} {P : Program}

theorem noMen_get {d : Nat} {xs : List AV} (h : noMen d xs = true) {j : Nat} {x : AV} (hj : xs[j]? = some x) : Ref.own d ∉ x.refs := by
  have := List.all_eq_true.1 h x (List.mem_of_getElem? hj)
  exact mentions_false (by simpa using this)
/-- An object without a block. -/
theorem Good.regrow0 {a : Act} (h : Good w0 w l st a) (d z : Nat) (hno : l.rb (.own d) = none) (htk : st.tok (XK d) = none ∨ st.tok (XK d) = some (0, z)) :
    Good w0 w l { st.purge d with own := upd (st.purge d).own d [], tok := upd st.tok (XK d) (0, z) } a ∧ l.xt d = none := by
  obtain ⟨hm, he⟩ := h
  let tk' := upd st.tok (XK d) (0, z)
  let st' : St := { st.purge d with own := upd (st.purge d).own d [], tok := tk' }
  have hxt : l.xt d = none := by
    cases hx : l.xt d with
    | none => rfl
    | some q => obtain ⟨_, b, q1, _⟩ := hm.xtd d q.1 q.2 hx; rw [hno] at q1; cases q1
  have htc : ∀ k n a cap, (cx w0 w l st.tok).tc k n a cap → (cx w0 w l tk').tc k n a cap := fun k n a cap ⟨n', z', h1, h2, h3⟩ => by
    by_cases e : k = XK d
    · subst e
      rcases htk with h | h
      · rw [h] at h1; cases h1
      · rw [h] at h1; cases h1; exact ⟨0, z, by simp [tk', upd], h2, h3⟩
    · exact ⟨n', z', by simp [tk', upd, e, h1], h2, h3⟩
  have hle : Cx.le w (cx w0 w l st.tok) w (cx w0 w l tk') := ⟨fun _ _ _ h => h, fun _ _ _ _ => rfl, fun _ _ h => h, htc, fun _ h => h, fun _ _ => rfl, fun _ _ _ h => h⟩
  have hpur : ∀ x v, RV w (cx w0 w l st.tok) x v → RV w (cx w0 w l tk') (purgeAV d x) v := fun x v hv => by
    unfold purgeAV
    split
    · simp [RV]
    · exact RV.mono hle x v hv
  have hmem : ∀ r, r ≠ .own d → st'.mem r = (st.mem r).map (List.map (purgeAV d)) := fun r hr => by
    cases r with
    | own k => have : k ≠ d := fun e => hr (by rw [e]); simp [St.mem, st', upd, this, St.purge]
    | ext i => simp [St.mem, st', St.purge]
  have hself : st'.mem (.own d) = some [] := by simp [St.mem, st', upd]
  refine ⟨⟨⟨hm.os, hm.tape, hm.output, hm.size, hm.old, hm.bel, hm.ext, by simp [St.purge, hm.extn], hm.inj, fun r b hr => ?_, fun r cs hr => ?_, hm.rblt, hm.rbow, hm.owobj, hm.owfree, hm.owold, hm.rdok, fun k b c hk => ?_, hm.tokinj, hm.fzs, fun k c z1 hk => ?_⟩, he.1, fun e x hx => ?_⟩, hxt⟩
  · show ∃ cs, st'.mem r = some cs
    by_cases e : r = .own d
    · subst e; exact ⟨_, hself⟩
    · obtain ⟨cs1, h2⟩ := hm.dom r b hr
      exact ⟨_, by rw [hmem r e, h2]; rfl⟩
  · have hr : st'.mem r = some cs := hr
    by_cases e : r = .own d
    · subst e; rw [hself] at hr; cases hr; exact .inl ⟨rfl, hno⟩
    · rw [hmem r e, Option.map_eq_some_iff] at hr
      obtain ⟨cs1, h2, rfl⟩ := hr
      rcases hm.obj r cs1 h2 with ⟨q1, q2⟩ | ⟨b1, q1, cv1, T1, q2, q3, q4⟩
      · exact .inl ⟨by rw [q1]; rfl, q2⟩
      · refine .inr ⟨b1, q1, cv1, T1, q2, by simpa using q3, fun j x hj => ?_⟩
        rw [List.getElem?_map, Option.map_eq_some_iff] at hj
        obtain ⟨y, hy, rfl⟩ := hj
        obtain ⟨v, a1, a2, a3⟩ := q4 j y hy
        exact ⟨v, a1, a2, hpur y v a3⟩
  · obtain ⟨n, z1, a1, a2⟩ := hm.tokd k b c hk
    refine ⟨n, z1, ?_, a2⟩
    show upd st.tok (XK d) (0, z) k = some (n, z1)
    by_cases e : k = XK d
    · subst e
      rcases htk with h | h
      · rw [h] at a1; cases a1
      · rw [h] at a1; cases a1; simp [upd]
    · simp [upd, e, a1]
  · obtain ⟨a1, q⟩ := hm.xtd k c z1 hk
    exact ⟨by show (upd st.tok (XK d) (0, z) (XK k)).isSome = true; simp only [upd]; split; rfl; exact a1, q⟩
  · have hx' : (st.env e).map (purgeAV d) = some x := hx
    rw [Option.map_eq_some_iff] at hx'
    obtain ⟨y, hy, rfl⟩ := hx'
    exact ⟨(he.2 e y hy).1, hpur y _ (he.2 e y hy).2⟩

theorem first0 (w' : World) (size : Nat) (a : Option Addr) (cap : Nat) : (Builtin.firstCells size 0 (.slice a 0 cap)).run P w' = .ok #[] w' := by
  cases a <;> simp [Builtin.firstCells, loadCells, loadCellsFrom]
/-- The cells of what is appended. -/
theorem new_cells {y : AV} {m size : Nat} {new : List AV} {v2 : Value} (hm : MR w0 w l st) (h : newCells st.own y = some (m, new)) (hl : new.length = m * size) (hv : RV w (cx w0 w l st.tok) y v2) :
    ∃ (a2 : Option Addr) (cap2 : Nat) (news : List Value), v2 = .slice a2 m cap2 ∧ news.length = m * size ∧ (∀ w', w'.heap = w.heap → (Builtin.firstCells size m (.slice a2 m cap2)).run P w' = .ok news.toArray w') ∧
      (∀ (j : Nat) (x : AV), new[j]? = some x → ∃ v, news[j]? = some v ∧ v.oneCell' = true ∧ RV w (cx w0 w l st.tok) x v) ∧ ∀ u ∈ news, u.oneCell' = true := by
  unfold newCells at h
  split at h
  · rename_i f g k o m' ds
    cases h
    simp only [RV] at hv
    obtain ⟨a2, cap2, rfl, h2, h3, h4⟩ := hv
    obtain ⟨us, q1, q2, q3, q4, _⟩ := slice_cells (P := P) (size := size) ⟨a2, cap2, rfl, h2, h3, h4⟩ (by simpa using hl)
    refine ⟨a2, cap2, us, rfl, q1, q2, fun j x hj => ?_, q4⟩
    rw [List.getElem?_map, Option.map_eq_some_iff] at hj
    obtain ⟨d, hd, rfl⟩ := hj
    obtain ⟨v, a1, a2, a3⟩ := q3 j d hd
    exact ⟨v, a1, a2, av_of_D a3⟩
  · rename_i k m' o
    obtain ⟨cs, h1, h2⟩ := bnd_eq h
    cases h2
    simp only [RV] at hv
    obtain ⟨a2, cap2, rfl, h2, h3, _⟩ := hv
    rcases hm.obj (.own k) new h1 with ⟨e0, e1⟩ | ⟨b, e1, cv, T, q2, q3, q4⟩
    · subst e0
      simp only [List.length_nil] at hl
      refine ⟨a2, cap2, [], rfl, by simpa using hl, fun w' _ => ?_, fun j x hj => by simp at hj, by simp⟩
      rcases h3 with ⟨b, hb, rfl⟩ | ⟨rfl, rfl⟩
      · rw [show (cx w0 w l st.tok).rb (.own k) = l.rb (.own k) from rfl, e1] at hb; cases hb
      · exact first0 w' size a2 0
    · rcases h3 with ⟨b', hb, rfl⟩ | ⟨rfl, rfl⟩
      · rw [show (cx w0 w l st.tok).rb (.own k) = l.rb (.own k) from rfl, e1] at hb
        cases hb
        have hlen : (cv.toList.take (m * size)).length = m * size := by simp; omega
        refine ⟨_, cap2, cv.toList.take (m * size), rfl, hlen, fun w' hw => ?_, fun j x hj => ?_, fun u hu => ?_⟩
        · refine run_firstCells_some w' size m ⟨b, 0, none⟩ m cap2 _ hlen (fun j v hj => ?_)
          rw [Addr.add_lit, Nat.zero_add]
          have : j < m * size := by have := (List.getElem?_eq_some_iff.1 hj).1; omega
          rw [List.getElem?_take, if_pos this, Array.getElem?_toList] at hj
          simpa [World.cell?, hw, q2] using hj
        · obtain ⟨v, a1, a2, a3⟩ := q4 j x hj
          have : j < m * size := by have := (List.getElem?_eq_some_iff.1 hj).1; omega
          exact ⟨v, by rw [List.getElem?_take, if_pos this, Array.getElem?_toList]; exact a1, a2, a3⟩
        · obtain ⟨j, hj⟩ := List.getElem?_of_mem hu
          have hlt : j < m * size := by have := (List.getElem?_eq_some_iff.1 hj).1; omega
          rw [List.getElem?_take, if_pos hlt, Array.getElem?_toList] at hj
          obtain ⟨v, a1, a2, a3⟩ := q4 j (new[j]'(by omega)) (List.getElem?_eq_getElem (by omega))
          rw [hj] at a1; cases a1; exact a2
      · simp only [Nat.zero_mul] at hl
        have : new = [] := List.length_eq_zero_iff.1 hl
        subst this
        exact ⟨a2, 0, [], rfl, by simp, fun w' _ => first0 w' size a2 0, fun j x hj => by simp at hj, by simp⟩
  · cases h
end Go.Ev
end
