/- A library of this claim: the abstract machine: code, regions in any order. -/
import Derived.Test.YteeiccpbiniljaaGreatDoorAm2
import Derived.Orders
set_option linter.all false
/- THE ABSTRACT MACHINE: each of its operations is the model's. -/
namespace Am
open Go

/-- What is told of a function's calls is so. -/
structure SummOk (P : Program) (f : FuncId) (S : Summ) : Prop where
  fn : ∃ fn, P.funcs[f]? = some fn ∧ fn.name ≠ "runtime.NumGoroutine" ∧ fn.body.isNone = false
  run : ∀ {R : Type} (args : List AV) (mem : Mem) (k : AV → Mem → Option R) (r : R), S.run args mem k = some r → ∀ μ sh w (vs : List Value), MemR μ mem sh w → RVs μ mem sh w args vs →
    Calls P f vs.toArray w fun e w' => ∃ v, e = .returned v ∧ Got k r μ mem sh w v w'

def GOk (P : Program) (Γ : FuncId → Option Summ) : Prop := ∀ f S, Γ f = some S → SummOk P f S

section
variable {P : Program} {μ μ' : Mu} {mem mem' : Mem} {sh sh' : Nat → Prop} {w w' : World} {R : Type} {T : TypeId → TRow} {Γ : FuncId → Option Summ}

structure FrR (μ : Mu) (mem : Mem) (sh : Nat → Prop) (w : World) (fr : List AV) (a : Act) : Prop where
  len : fr.length = a.tmps.size
  slot : ∀ (i : Nat) (av : AV), fr[i]? = some av → ∃ v, a.tmps[i]? = some v ∧ RV μ mem sh w av v
  def_ : a.defers = []

theorem constAV_ok (v : Value) : RV μ mem sh w (constAV v) v := by
  unfold constAV
  split
  · exact RV.int.2 rfl
  · exact RV.bool.2 rfl
  · exact RV.str.2 rfl
  · exact RV.mk_atom rfl rfl
  · exact RV.mk_atom rfl rfl
  · exact RV.mk_atom rfl rfl
  · exact RV_undef _

theorem ev_ok {fr : List AV} {a : Act} (h : FrR μ mem sh w fr a) (x : Operand) : RV μ mem sh w (St.ev fr x) (a.eval x) := by
  cases x with
  | tmp t =>
    simp only [St.ev, Act.eval, List.getD]
    cases ht : fr[t]? with
    | none => exact RV_undef _
    | some av =>
      obtain ⟨v, hv, hr⟩ := h.slot t av ht
      simp only [Array.getD_eq_getD_getElem?, hv, Option.getD_some]
      exact hr
  | const v => exact constAV_ok v
  | global g => exact RV_undef _
  | func f => exact RV.mk_atom ⟨[], rfl, rfl⟩ rfl

theorem evs_ok {ev : Operand → AV} {ρ : Operand → Value} (h : ∀ x, RV μ mem sh w (ev x) (ρ x)) : ∀ l : List Operand, RVs μ mem sh w (l.map ev) (l.map ρ)
  | [] => rfl
  | x :: l => RVs_cons (h x) (evs_ok h l)

theorem RVs_append : ∀ (l m : List AV) (vs us : List Value), RVs μ mem sh w l vs → RVs μ mem sh w m us → RVs μ mem sh w (l ++ m) (vs ++ us)
  | [], m, vs, us, h, h' => by simp [RVs] at h; subst h; simpa using h'
  | a :: l, m, vs, us, h, h' => by
    obtain ⟨v, rest, rfl, hv, hr⟩ := RVs_inv h
    exact RVs_cons hv (RVs_append l m rest us hr h')

theorem prs_ok {ev : Operand → AV} {ρ : Operand → Value} (h : ∀ x, RV μ mem sh w (ev x) (ρ x)) : ∀ l : List (Nat × Operand), PR μ mem sh w (l.map fun p => (p.1, ev p.2)) (l.map fun p => (p.1, ρ p.2))
  | [] => rfl
  | (i, x) :: l => ⟨ρ x, _, rfl, h x, prs_ok h l⟩

theorem op_ok (hT : TOk P T) (hΓ : GOk P Γ) {o : Oper} {a : Act} {ev : Operand → AV} {k : AV → Mem → Option R} {r : R} (hM : MemR μ mem sh w) (hev : ∀ x, RV μ mem sh w (ev x) (a.eval x))
    (h : opK T Γ o.op ev mem k = some r) {next : Act → World → Prop} {Q : Exit → Act → World → Prop} (hn : ∀ v w', Got k r μ mem sh w v w' → next (a.put o.dst v) w') : o.wp P a w next Q := by
  obtain ⟨dst, op, type, pos, after, guard⟩ := o
  simp only at h hn
  -- an operation that gives a value
  have value : ∀ (s : Sem Value), execOp a.eval ⟨dst, op, type, pos, after, guard⟩ = (do pure (.value (← s))) → (∃ v w', s.run P w = .ok v w' ∧ Got k r μ mem sh w v w') →
      Oper.wp P ⟨dst, op, type, pos, after, guard⟩ a w next Q := by
    rintro s hs ⟨v, w', h1, h2⟩
    unfold Oper.wp
    rw [hs]
    simp only [Sem.run_bind, h1, Result.andThen_ok, Sem.run_pure]
    exact hn v w' h2
  have pure1 : ∀ (s : Sem Value), execOp a.eval ⟨dst, op, type, pos, after, guard⟩ = (do pure (.value (← s))) → Pure1 P s (k · mem) r μ mem sh w →
      Oper.wp P ⟨dst, op, type, pos, after, guard⟩ a w next Q := by
    rintro s hs ⟨v, h1, av, h2, h3⟩
    exact value s hs ⟨v, w, h1, Got.same hM h2 h3⟩
  cases op with
  | move x => exact value (pure (a.eval x)) rfl ⟨_, w, rfl, Got.same hM h (hev x)⟩
  | assign x => exact value (pure (a.eval x)) rfl ⟨_, w, rfl, Got.same hM h (hev x)⟩
  | pick c x y =>
    simp only [opK] at h
    split at h <;> try cases h
    rename_i b hb
    have hc := hev c
    rw [hb] at hc
    have hc' := RV.bool.1 hc
    have hs : execOp a.eval ⟨dst, .pick c x y, type, pos, after, guard⟩ = (do pure (.value (← pure (if b then a.eval x else a.eval y)))) := by
      simp only [execOp, hc', asBool]
      rfl
    split at h
    · rename_i u v hu hv
      have hx := hev x
      have hy := hev y
      rw [hu] at hx
      rw [hv] at hy
      have hx' := RV.bool.1 hx
      have hy' := RV.bool.1 hy
      refine value _ hs ⟨_, w, rfl, Got.same hM h (RV.bool.2 ?_)⟩
      rw [hx', hy']
      cases b <;> rfl
    · cases b
      · exact value _ hs ⟨_, w, rfl, Got.same hM h (hev y)⟩
      · exact value _ hs ⟨_, w, rfl, Got.same hM h (hev x)⟩
  | alloc t =>
    simp only [opK] at h
    split at h <;> try cases h
    rename_i z hz
    have h' := ite_some h
    clear h
    exact value _ rfl (alloc_ok hT hM hz h'.1 h'.2)
  | box e x => exact value _ rfl (box_ok hM (hev x) h)
  | build t ps =>
    refine pure1 _ rfl (build_ok hT ?_ h)
    have := prs_ok hev ps.toList
    simpa using this
  | buildSlice t n ps =>
    refine value _ rfl (buildSlice_ok hT hM ?_ h)
    have := prs_ok hev ps.toList
    simpa using this
  | load t x =>
    simp only [opK] at h
    obtain ⟨v, h1, av, h2, h3⟩ := load_ok hT hM (hev x) h
    exact value _ rfl ⟨v, w, h1, Got.same hM h2 h3⟩
  | store t x y =>
    obtain ⟨w', mem', h1, h2, h3, h4⟩ := store_ok hT hM (hev x) (hev y) h
    unfold Oper.wp
    have hs : execOp a.eval ⟨dst, .store t x y, type, pos, after, guard⟩ = (do Instr.storeAt t (a.eval x) (a.eval y); pure .skip) := rfl
    rw [hs]
    simp only [Sem.run_bind, h1, Result.andThen_ok, Sem.run_pure]
    exact hn undef w' ⟨_, _, _, _, h2, RV_undef _, h3, h4⟩
  | nilCheck x =>
    simp only [opK] at h
    have hx := hev x
    split at h <;> try cases h
    · rename_i id p hp
      rw [hp] at hx
      obtain ⟨ad, he⟩ := (RV.ptr.1 hx).pointer
      refine value (pure (a.eval x)) ?_ ⟨_, w, rfl, Got.same hM h hx⟩
      simp only [execOp, he]
      rfl
    · rename_i s y hp
      rw [hp] at hx
      obtain ⟨b, off, c, e, cs', he, _⟩ := hx.atom rfl
      simp only [List.cons.injEq, and_true] at he
      refine value (pure (a.eval x)) ?_ ⟨_, w, rfl, Got.same hM h hx⟩
      simp only [execOp, he]
      rfl
    · rename_i f cs hp
      rw [hp] at hx
      obtain ⟨vs, he, _⟩ := hx.atom rfl
      simp only [List.cons.injEq, and_true] at he
      refine value (pure (a.eval x)) ?_ ⟨_, w, rfl, Got.same hM h hx⟩
      simp only [execOp, he]
      rfl
  | binOp op t x y yt => exact pure1 _ rfl (bin_ok hT x y (hev x) (hev y) h)
  | unOp op t x => exact pure1 _ rfl (un_ok (hev x) h)
  | convert src dst' x => exact pure1 _ rfl (conv_ok hT hM (hev x) h)
  | makeFunc fn first caps =>
    cases fn with
    | func f =>
      simp only [opK] at h
      split at h <;> try cases h
      rename_i hf
      refine value (pure (.func (.func f) (first.map a.eval) (caps.map a.eval))) rfl ⟨_, w, rfl, Got.same hM h (RV.mk_atom ?_ rfl)⟩
      have he : first = #[] := by simpa using hf
      subst he
      have hca : (caps.toList.map a.eval).toArray = caps.map a.eval := by apply Array.ext'; simp
      exact ⟨caps.toList.map a.eval, by rw [hca]; simp, evs_ok hev caps.toList⟩
    | _ => simp [opK] at h
  | slice t x lo hi mx =>
    refine value _ rfl (slice_ok hT hM (hev x) ?_ ?_ ?_ ?_ ?_ h)
    · rintro av hav
      cases lo with
      | none => cases hav
      | some y => cases hav; exact ⟨_, rfl, hev y⟩
    · intro hav; cases lo <;> first | rfl | cases hav
    · rintro av hav
      cases hi with
      | none => cases hav
      | some y => cases hav; exact ⟨_, rfl, hev y⟩
    · intro hav; cases hi <;> first | rfl | cases hav
    · intro hav; cases mx <;> first | rfl | cases hav
  | fieldAddr s x i => exact pure1 _ rfl (fieldAddr_ok hT (hev x) h)
  | field s x i => exact pure1 _ rfl (field_ok hT (hev x) h)
  | indexAddr t x i => exact pure1 _ rfl (indexAddr_ok hT hM (hev x) (hev i) h)
  | index t x i => exact pure1 _ rfl (index_ok hT (hev x) (hev i) h)
  | range t x =>
    simp only [opK] at h
    split at h <;> try cases h
    rename_i s htd hs
    exact value _ rfl (range_ok hT hM htd (hs ▸ hev x) h)
  | next it b =>
    cases b with
    | true => exact value _ rfl (next_ok type hM (hev it) h)
    | false => simp [opK] at h
  | extract t i =>
    simp only [opK] at h
    have ht := hev t
    split at h <;> try cases h
    rename_i vs hvs
    rw [hvs] at ht
    split at h <;> try cases h
    rename_i v hv
    obtain ⟨l, he, hl⟩ := ht.atom rfl
    simp only [List.cons.injEq, and_true] at he
    have key : ∀ (vs : List AV) (l : List Value) (i : Nat) (v : AV), RVs μ mem sh w vs l → vs[i]? = some v → ∃ u, l[i]? = some u ∧ RV μ mem sh w v u := by
      intro vs
      induction vs with
      | nil => intro l i v _ h; simp at h
      | cons b vs ih =>
        intro l i v hl hi
        obtain ⟨u, rest, rfl, h1, h2⟩ := RVs_inv hl
        cases i with
        | zero => simp at hi; subst hi; exact ⟨u, rfl, h1⟩
        | succ i => exact ih rest i v h2 hi
    obtain ⟨u, hu, hru⟩ := key vs l i v hl hv
    refine value (Instr.extract (a.eval t) i) rfl ⟨u, w, ?_, Got.same hM h hru⟩
    simp [Instr.extract, he, hu]
  | call c =>
    simp only [opK] at h
    have hargs : RVs μ mem sh w (c.args.toList.map ev) (c.args.map a.eval).toList := by
      simpa using evs_ok hev c.args.toList
    split at h
    · rename_i b hb
      unfold builtinK at h
      have hex : execOp a.eval ⟨dst, .call c, type, pos, after, guard⟩ = builtin b c.argTypes type (c.args.map fun | .const _ => true | _ => false) (c.args.map a.eval) := by
        simp only [execOp, resolve, hb]
        rfl
      split at h <;> try cases h
      · rename_i t ts v hts hvs
        rw [hvs] at hargs
        obtain ⟨x, rest, h1, h2, h3⟩ := RVs_inv hargs
        simp only [RVs] at h3
        subst h3
        have hargs' : c.args.map a.eval = #[x] := by apply Array.ext'; simpa using h1
        have hts' : c.argTypes[0]? = some t := by
          rw [← Array.getElem?_toList, hts]; rfl
        refine pure1 (Builtin.len_ c.argTypes type #[x]) ?_ (len_ok hT c.argTypes type hM hts' h2 h)
        rw [hex, hargs']
        rfl
      · rename_i t t2 x y hts hvs
        have h' := ite_some h
        clear h
        obtain ⟨htt, h⟩ := h'
        have htt : t = t2 := by simpa using htt
        subst htt
        rw [hvs] at hargs
        obtain ⟨xv, rest, h1, h2, h3⟩ := RVs_inv hargs
        obtain ⟨yv, rest2, h4, h5, h6⟩ := RVs_inv h3
        simp only [RVs] at h6
        subst h6 h4
        have hargs' : c.args.map a.eval = #[xv, yv] := by apply Array.ext'; simpa using h1
        have hts' : c.argTypes = #[t, t] := by apply Array.ext'; simpa using hts
        refine value (Builtin.append_ #[t, t] type #[xv, yv]) ?_ (append_ok hT hM h2 h5 h)
        rw [hex, hargs', hts']
        rfl
      · rename_i ts x y hts hvs
        rw [hvs] at hargs
        obtain ⟨xv, rest, h1, h2, h3⟩ := RVs_inv hargs
        obtain ⟨yv, rest2, h4, h5, h6⟩ := RVs_inv h3
        simp only [RVs] at h6
        subst h6 h4
        have hargs' : c.args.map a.eval = #[xv, yv] := by apply Array.ext'; simpa using h1
        refine pure1 (Builtin.max_ c.argTypes type #[xv, yv]) ?_ (max_ok c.argTypes type h2 h5 h)
        rw [hex, hargs']
        rfl
    · rename_i f hf
      split at h <;> try cases h
      rename_i fid caps hfn
      split at h <;> try cases h
      rename_i S hS
      have hS' := hΓ fid S hS
      obtain ⟨fn, hfn1, hfn2, hfn3⟩ := hS'.fn
      have hfe := hev f
      rw [hfn] at hfe
      obtain ⟨cvs, he, hcv⟩ := hfe.atom rfl
      simp only [List.cons.injEq, and_true] at he
      have hex : (execOp a.eval ⟨dst, .call c, type, pos, after, guard⟩).run P w = .ok (.enter fid (c.args.map a.eval ++ cvs.toArray)) w := by
        simp only [execOp, resolve, hf, he, Sem.run_bind]
        simp [Deferred.ofValue, invoke, callFunc, hfn1, hfn2]
        intro hn0; simp [hn0] at hfn3
      unfold Oper.wp
      rw [hex, Oper.upon_enter]
      have hrun := hS'.run _ mem k r h μ sh w _ hM (RVs_append _ _ _ _ hargs hcv)
      have hall : ((c.args.map a.eval).toList ++ cvs).toArray = c.args.map a.eval ++ cvs.toArray := by
        apply Array.ext'; simp
      rw [hall] at hrun
      refine hrun.mono ?_
      rintro e w' ⟨v, rfl, hG⟩
      exact hn v w' hG
    · cases h
  | _ => simp [opK] at h

end
end Am

/- THE ABSTRACT MACHINE: regions, in whatever order they are told. -/
namespace Am
open Go

section
variable {P : Program} {μ μ' : Mu} {mem mem' : Mem} {sh sh' : Nat → Prop} {w w' : World} {R : Type} {T : TypeId → TRow} {Γ : FuncId → Option Summ}

structure SR (μ : Mu) (sh : Nat → Prop) (st : St) (a : Act) (w : World) : Prop where
  mem : MemR μ st.mem sh w
  fr : FrR μ st.mem sh w st.fr a

theorem FrR.ext {fr : List AV} {a : Act} (h : FrR μ mem sh w fr a) (he : Ext μ mem μ' mem') (hk : ShKeep sh w sh' w') : FrR μ' mem' sh' w' fr a :=
  ⟨h.len, fun i av hi => let ⟨v, h1, h2⟩ := h.slot i av hi; ⟨v, h1, h2.ext he hk⟩, h.def_⟩

theorem FrR.put {fr : List AV} {a : Act} (h : FrR μ mem sh w fr a) {av : AV} {v : Value} (hv : RV μ mem sh w av v) (d : Option Nat) : FrR μ mem sh w (St.put ⟨fr, mem⟩ d av).fr (a.put d v) := by
  cases d with
  | none => exact h
  | some d =>
    refine ⟨by simp [St.put, Act.put, h.len], ?_, h.def_⟩
    intro i b hb
    simp only [St.put, Act.put] at hb ⊢
    rw [List.getElem?_set] at hb
    rw [Array.getElem?_setIfInBounds]
    split at hb
    · rename_i hdi
      subst hdi
      split at hb
      · rename_i hlt
        cases hb
        rw [if_pos rfl, if_pos (by rw [← h.len]; exact hlt)]
        exact ⟨v, rfl, hv⟩
      · cases hb
    · rename_i hdi
      rw [if_neg hdi]
      exact h.slot i b hb

theorem St.put_mem (st : St) (d : Option Nat) (v : AV) : (st.put d v).mem = st.mem := by cases d <;> rfl

theorem FrR.refine {fr : List AV} {a : Act} (h : FrR μ mem sh w fr a) {d : Nat} {b : Bool} (hd : fr.getD d .undef = .val .bool b) : FrR μ mem sh w (fr.set d (.val .bool b)) a := by
  have hfd : fr[d]? = some (.val .bool b) := by
    rw [List.getD] at hd
    cases hq : fr[d]? with
    | none => rw [hq] at hd; cases hd
    | some x => rw [hq] at hd; simp at hd; rw [hd]
  have : fr.set d (.val .bool b) = fr := by
    apply List.ext_getElem?
    intro i
    rw [List.getElem?_set]
    split
    · rename_i he
      subst he
      rw [if_pos (List.getElem?_eq_some_iff.1 hfd).1, hfd]
    · rfl
  rw [this]; exact h

theorem FrR.slotBool {fr : List AV} {a : Act} (h : FrR μ mem sh w fr a) {d : Nat} {b : Bool} (hd : fr.getD d .undef = .val .bool b) : a.tmps[d]? = some (.bool b) := by
  rw [List.getD] at hd
  cases hq : fr[d]? with
  | none => rw [hq] at hd; cases hd
  | some x =>
    rw [hq] at hd
    simp at hd
    subst hd
    obtain ⟨v, h1, h2⟩ := h.slot d _ hq
    rw [RV.bool.1 h2] at h1
    exact h1

theorem FrR.slotTup {fr : List AV} {a : Act} (h : FrR μ mem sh w fr a) {d : Nat} (hd : fr.getD d .undef = .tup []) : a.tmps[d]? = some undef := by
  rw [List.getD] at hd
  cases hq : fr[d]? with
  | none => rw [hq] at hd; cases hd
  | some x =>
    rw [hq] at hd
    simp at hd
    subst hd
    obtain ⟨v, h1, h2⟩ := h.slot d _ hq
    obtain ⟨l, he, hl⟩ := h2.atom rfl
    simp only [RVs] at hl
    subst hl
    simp at he
    rw [h1, he]
    rfl

theorem RV_tup0 : RV μ mem sh w (.tup []) undef := ⟨[undef], ⟨[], rfl, rfl⟩, rfl⟩

/-- A post-condition: the state goes on with the answer. -/
def Post {S : Type} (μ : Mu) (mem : Mem) (sh : Nat → Prop) (w : World) (k : S → St → Option R) (r : R) (s : S) (a' : Act) (w' : World) : Prop :=
  ∃ st' μ' sh', k s st' = some r ∧ SR μ' sh' st' a' w' ∧ Mv μ mem sh w μ' st'.mem sh' w'

theorem step_ok (hT : TOk P T) (hΓ : GOk P Γ) {ops : Array Oper} {i : Nat} {st : St} {a : Act} {k : St → Option R} {r : R} (hS : SR μ sh st a w) (h : stepK T Γ ops.toList i st k = some r)
    {Q : Exit → Act → World → Prop} {next : Act → World → Prop} (hn : ∀ st' a' w' μ' sh', k st' = some r → SR μ' sh' st' a' w' → Mv μ st.mem sh w μ' st'.mem sh' w' → next a' w') :
    wpOp P ops Q i next a w := by
  unfold stepK at h
  split at h <;> try cases h
  rename_i o ho
  have ho' : ops[i]? = some o := by simpa using ho
  unfold wpOp
  rw [ho']
  simp only
  -- the operation itself
  have run : ∀ (fr : List AV), FrR μ st.mem sh w fr a → opK T Γ o.op (St.ev fr) st.mem (fun v mem => k (St.put ⟨fr, mem⟩ o.dst v)) = some r → o.wp P a w next Q := by
    intro fr hF hk
    refine op_ok hT hΓ hS.mem (fun x => ev_ok hF x) hk ?_
    rintro v w' ⟨av, mem', μ', sh', h1, h2, h3, h4⟩
    have hF' := (hF.ext h4.ext h4.keep).put h2 o.dst
    exact hn _ _ _ μ' sh' h1 ⟨by rw [St.put_mem]; exact h3, by rw [St.put_mem]; exact hF'⟩ (by rw [St.put_mem]; exact h4)
  have skip : ∀ (fr : List AV), FrR μ st.mem sh w fr a → k (St.put ⟨fr, st.mem⟩ o.dst (.tup [])) = some r → next (a.put o.dst undef) w := by
    intro fr hF hk
    exact hn _ _ _ μ sh hk ⟨by rw [St.put_mem]; exact hS.mem, by rw [St.put_mem]; exact hF.put RV_tup0 o.dst⟩ (by rw [St.put_mem]; exact Mv.refl _ _ _ _)
  split at h
  · rename_i hg
    have : Region.wanted o (yielded ops a.tmps) = true := by simp [Region.wanted, hg]
    rw [if_pos this]
    exact .inl (run st.fr hS.fr h)
  · rename_i j want hg
    split at h <;> try cases h
    rename_i d hd
    have hd' : (ops[j]?).bind (·.dst) = some d := by simpa using hd
    split at h <;> try cases h
    · rename_i b hb
      have hsl := hS.fr.slotBool hb
      have hw : Region.wanted o (yielded ops a.tmps) = (b == want) := by
        simp [Region.wanted, hg, yielded, hd', hsl]
      have hF := hS.fr.refine hb
      rw [hw]
      cases want <;> cases b
      · exact .inl (run _ hF h)
      · exact skip _ hF h
      · exact skip _ hF h
      · exact .inl (run _ hF h)
    · rename_i hb
      have hsl := hS.fr.slotTup hb
      have hw : Region.wanted o (yielded ops a.tmps) = false := by
        simp [Region.wanted, hg, yielded, hd', hsl, undef]
      rw [hw]
      exact skip st.fr hS.fr h

theorem ops_ok (hT : TOk P T) (hΓ : GOk P Γ) {ops : Array Oper} {Q : Exit → Act → World → Prop} : ∀ (l : List Nat) {μ : Mu} {sh : Nat → Prop} {st : St} {a : Act} {w : World} {k : St → Option R} {r : R},
    SR μ sh st a w → opsK T Γ ops.toList l st k = some r → (∀ st' a' w' μ' sh', k st' = some r → SR μ' sh' st' a' w' → Mv μ st.mem sh w μ' st'.mem sh' w' → Q .normal a' w') → wpOps P ops Q l a w
  | [], μ, sh, st, a, w, k, r, hS, h, hQ => hQ st a w μ sh h hS (Mv.refl _ _ _ _)
  | i :: l, μ, sh, st, a, w, k, r, hS, h, hQ => by
    rw [wpOps_cons]
    refine step_ok hT hΓ hS h ?_
    intro st' a' w' μ' sh' h1 h2 h3
    exact ops_ok hT hΓ l h2 h1 (fun st'' a'' w'' μ'' sh'' k1 k2 k3 => hQ _ _ _ _ _ k1 k2 (h3.trans k3))

end
end Am

/- THE ABSTRACT MACHINE: the code of a function. -/
namespace Am
open Go

/-- The first blocks are what they were. -/
def ExtP (p : Nat) (μ : Mu) (mem : Mem) (μ' : Mu) (mem' : Mem) : Prop :=
  ∀ (id : Nat) (b : Blk), id < p → mem[id]? = some b → ∃ b', mem'[id]? = some b' ∧ (b' = .dead ∨ (μ'[id]? = μ[id]? ∧ BLay b b'))

theorem Ext.pin {μ μ' : Mu} {mem mem' : Mem} (h : Ext μ mem μ' mem') (p : Nat) : ExtP p μ mem μ' mem' := fun id b _ hb => h id b hb

theorem ExtP.trans {p : Nat} {μ μ' μ'' : Mu} {mem mem' mem'' : Mem} (h : ExtP p μ mem μ' mem') (h' : ExtP p μ' mem' μ'' mem'') : ExtP p μ mem μ'' mem'' := by
  intro id b hp hb
  obtain ⟨b', hb', h1⟩ := h id b hp hb
  obtain ⟨b'', hb'', h2⟩ := h' id b' hp hb'
  refine ⟨b'', hb'', ?_⟩
  rcases h2 with h2 | ⟨h2, h3⟩
  · exact .inl h2
  · rcases h1 with rfl | ⟨h1, h4⟩
    · cases b'' <;> simp [BLay] at h3; exact .inl rfl
    · exact .inr ⟨h2.trans h1, h4.trans h3⟩

/-- What becomes of the world, whatever the blocks are called, but for the first ones. -/
structure Wv (p : Nat) (μ : Mu) (mem : Mem) (sh : Nat → Prop) (w : World) (μ' : Mu) (mem' : Mem) (sh' : Nat → Prop) (w' : World) : Prop where
  pin : ExtP p μ mem μ' mem'
  keep : ShKeep sh w sh' w'
  size : w.heap.size ≤ w'.heap.size
  old : ∀ g, g < w.heap.size → (∀ (i n : Nat), μ[i]? ≠ some (some (g, n))) → w'.heap[g]? = w.heap[g]?
  shn : ∀ g, sh' g → sh g ∨ (∃ (i n : Nat), μ[i]? = some (some (g, n))) ∨ w.heap.size ≤ g
  mun : ∀ (i g n : Nat), μ'[i]? = some (some (g, n)) → (∃ (j m : Nat), μ[j]? = some (some (g, m))) ∨ w.heap.size ≤ g
  os : SameOs w w'

theorem Mv.wv {μ : Mu} {mem : Mem} {sh : Nat → Prop} {w : World} {μ' : Mu} {mem' : Mem} {sh' : Nat → Prop} {w' : World} {p : Nat} (h : Mv μ mem sh w μ' mem' sh' w') : Wv p μ mem sh w μ' mem' sh' w' :=
  ⟨h.ext.pin p, h.keep, h.size, h.old, h.shn, h.mun, h.os⟩

theorem Wv.refl (p : Nat) (μ : Mu) (mem : Mem) (sh : Nat → Prop) (w : World) : Wv p μ mem sh w μ mem sh w :=
  ⟨(Ext.refl _ _).pin p, ⟨fun _ h => h, fun _ _ => rfl⟩, Nat.le_refl _, fun _ _ _ => rfl, fun _ h => .inl h, fun i _ n h => .inl ⟨i, n, h⟩, ⟨rfl, rfl⟩⟩

theorem Wv.trans {p : Nat} {μ₁ μ₂ μ₃ : Mu} {m₁ m₂ m₃ : Mem} {s₁ s₂ s₃ : Nat → Prop} {w₁ w₂ w₃ : World} (h : Wv p μ₁ m₁ s₁ w₁ μ₂ m₂ s₂ w₂) (h' : Wv p μ₂ m₂ s₂ w₂ μ₃ m₃ s₃ w₃) : Wv p μ₁ m₁ s₁ w₁ μ₃ m₃ s₃ w₃ := by
  refine ⟨h.pin.trans h'.pin, ⟨fun b hb => h'.keep.1 _ (h.keep.1 _ hb), fun b hb => (h'.keep.2 b (h.keep.1 b hb)).trans (h.keep.2 b hb)⟩, Nat.le_trans h.size h'.size, ?_, ?_, ?_, h.os.trans h'.os⟩
  · intro g hg hn
    have h1 := h.old g hg hn
    rw [h'.old g (Nat.lt_of_lt_of_le hg h.size) ?_, h1]
    intro i n hi
    rcases h.mun i g n hi with ⟨j, m, hj⟩ | hge
    · exact hn j m hj
    · omega
  · intro g hg
    rcases h'.shn g hg with h1 | ⟨i, n, h1⟩ | h1
    · exact h.shn g h1
    · rcases h.mun i g n h1 with h2 | h2
      · exact .inr (.inl h2)
      · exact .inr (.inr h2)
    · exact .inr (.inr (Nat.le_trans h.size h1))
  · intro i g n hi
    rcases h'.mun i g n hi with ⟨j, m, h1⟩ | h1
    · exact h.mun j g m h1
    · exact .inr (Nat.le_trans h.size h1)

def absE : Exit → Option Ex
  | .normal => some .normal
  | .exit id => some (.exit id)
  | .ret => some .ret
  | _ => none

section
variable {P : Program} {μ μ' : Mu} {mem mem' : Mem} {sh sh' : Nat → Prop} {w w' : World} {R : Type} {T : TypeId → TRow} {Γ : FuncId → Option Summ} {Λ : Nat → Option LoopSum}

/-- Behind a piece of code: the state goes on with the answer. -/
def CPost (p : Nat) (μ : Mu) (mem : Mem) (sh : Nat → Prop) (w : World) (k : Ex → St → Option R) (r : R) : Exit → Act → World → Prop := fun e a' w' =>
  ∃ e' st' μ' sh', absE e = some e' ∧ k e' st' = some r ∧ SR μ' sh' st' a' w' ∧ Wv p μ mem sh w μ' st'.mem sh' w'

/-- What is told of a loop is so. -/
def LoopOk (P : Program) (p : Nat) (c : Code) (S : LoopSum) : Prop :=
  ∀ {R : Type} (st : St) (k : Ex → St → Option R) (r : R), S.run st k = some r → ∀ μ sh a w, SR μ sh st a w → (Code.loop c).wp P (CPost p μ st.mem sh w k r) a w

/-- The loops in a piece of code, each with the number of the block that it stands in. -/
def loopsOf : Nat → Code → List (Nat × Code)
  | cur, .seq a b => loopsOf cur a ++ loopsOf cur b
  | cur, .cond _ a b => loopsOf cur a ++ loopsOf cur b
  | _, .block id c => loopsOf id c
  | cur, .loop c => (cur, c) :: loopsOf cur c
  | _, _ => []

def LoopsOk (P : Program) (p : Nat) (Λ : Nat → Option LoopSum) (l : List (Nat × Code)) : Prop := ∀ x ∈ l, ∀ S, Λ x.1 = some S → LoopOk P p x.2 S

/-- Regions that leave their order open. -/
def DrawOk (P : Program) (T : TypeId → TRow) (Γ : FuncId → Option Summ) : Prop :=
  ∀ {R : Type} (id : Nat) (ops : Array Oper) (st : St) (k : St → Option R) (r : R) (μ : Mu) (sh : Nat → Prop) (a : Act) (w : World) (Q : Exit → Act → World → Prop), orderly T Γ ops.toList = true → (∀ st', k st' = some r → dynFine T Γ true ops.toList st'.fr = true) →
    opsK T Γ ops.toList (List.range ops.size) st k = some r → SR μ sh st a w →
    (∀ st' a' w' μ' sh', k st' = some r → SR μ' sh' st' a' w' → Mv μ st.mem sh w μ' st'.mem sh' w' → Q .normal a' w') → (Code.region id ops true).wp P Q a w

/-! ### the end of a list is cleared -/
theorem clearAt_spec {ops : List Oper} {t : TypeId} {d2 e0 e1 : Nat} (h : clearAt ops = some (t, d2, e0, e1)) : ∃ o0 o1 o2 o3 c, ops = [o0, o1, o2, o3] ∧ o2.dst = some d2 ∧ o2.op = .slice t (.tmp e0) (some (.tmp e1)) none none ∧ o2.guard = none ∧
    o3.dst = none ∧ o3.op = .call c ∧ o3.guard = none ∧ c.callee = .builtin .clear ∧ c.args.toList = [.tmp d2] ∧ c.argTypes.toList = [t] := by
  unfold clearAt at h
  split at h <;> try cases h
  rename_i o0 o1 d2' t' e0' e1' ty2 pos2 af2 c ty3 pos3 af3
  split at h <;> try cases h
  rename_i d t'' hc ha ht
  split at h <;> try cases h
  rename_i hq
  simp only [Bool.and_eq_true, beq_iff_eq] at hq
  obtain ⟨rfl, rfl⟩ := hq
  exact ⟨_, _, _, _, c, rfl, rfl, rfl, rfl, rfl, rfl, rfl, hc, ha, ht⟩

theorem setSelf {α : Type} {l : List α} {i : Nat} {x : α} (h : l[i]? = some x) : l.set i x = l := by
  apply List.ext_getElem?
  intro j
  rw [List.getElem?_set]
  split
  · rename_i hij
    subst hij
    have := (List.getElem?_eq_some_iff.1 h).1
    rw [if_pos this, h]
  · rfl

theorem clear_core (hT : TOk P T) {ops : Array Oper} {c : Go.Call} {t e : TypeId} {d2 e0 e1 id : Nat} {ki kd : IntKind} {ty2 ty3 : TypeId} {pos2 pos3 : String} {af2 af3 : Array Edge} {st : St} {a : Act} {k : St → Option R} {r : R} {Q : Exit → Act → World → Prop}
    (ho2 : ops[2]? = some ⟨some d2, .slice t (.tmp e0) (some (.tmp e1)) none none, ty2, pos2, af2, none⟩) (ho3 : ops[3]? = some ⟨none, .call c, ty3, pos3, af3, none⟩)
    (hc1 : c.callee = .builtin .clear) (hargs : c.args = #[.tmp d2]) (hats : c.argTypes = #[t]) (j : Int) (l : List Int) (htd : (T t).td = .slice e)
    (h0 : st.fr.getD e0 .undef = .slice id) (h1 : st.fr.getD e1 .undef = .val (.int kd) j) (hb : st.mem[id]? = some (.list (.int ki) l)) (hoke : (T e).ok = true) (hty : (T e).ty = some (.int ki)) (hlt : d2 < st.fr.length)
    (hj : 0 ≤ j ∧ j ≤ (l.length : Int)) (h : k ⟨st.fr.set d2 .undef, st.mem.set id (.list (.int ki) (l.take j.toNat ++ List.replicate (l.length - j.toNat) (0 : Int)))⟩ = some r)
    (hS : SR μ sh st a w)
    (hn : ∀ st' a' w' μ' sh', k st' = some r → SR μ' sh' st' a' w' → Mv μ st.mem sh w μ' st'.mem sh' w' → Q .normal a' w') : wpOp P ops Q 2 (wpOps P ops Q [3]) a w := by
  have hlt' : d2 < a.tmps.size := by rw [← hS.fr.len]; exact hlt
  have hv0 : RV μ st.mem sh w (.slice id) (a.eval (.tmp e0)) := by have := ev_ok hS.fr (.tmp e0); simp only [St.ev] at this; rw [h0] at this; exact this
  have hv1 : RV μ st.mem sh w (.val (.int kd) j) (a.eval (.tmp e1)) := by have := ev_ok hS.fr (.tmp e1); simp only [St.ev] at this; rw [h1] at this; exact this
  have e1' := RV.int.1 hv1
  obtain ⟨v', hv', hSl⟩ := hv0.atom rfl
  simp only [List.cons.injEq, and_true] at hv'
  unfold SlR at hSl
  rw [hb] at hSl
  obtain ⟨i, d, hi, hd, hs, htdo, _⟩ := (hT t (TRow.ok_slice htd)).row
  rw [htd] at htdo
  have hd' : d = .slice e := htdo
  subst hd'
  obtain ⟨ei, _, hei, _, hes, _, _, _, _, hez, _, _⟩ := (hT e hoke).row
  obtain ⟨hsz, _, zv, hz, hzc⟩ := hez _ hty
  have hsz1 : ei.size = 1 := by rw [hes, ← hsz]; rfl
  -- the two operations, told what they give
  have go : ∀ (v : Value) (w' : World), (Instr.sliceAt t (a.eval (.tmp e0)) (some (a.eval (.tmp e1))) none none).run P w = .ok v w → (Builtin.clear_ #[t] ty3 #[v]).run P w = .ok (.tuple #[]) w' →
      Q .normal (a.put (some d2) v) w' → wpOp P ops Q 2 (wpOps P ops Q [3]) a w := by
    intro v w' r1 r2 hQ
    unfold wpOp
    rw [ho2]
    simp only
    rw [if_pos (by simp [Region.wanted])]
    left
    unfold Oper.wp
    have x2 : execOp a.eval ⟨some d2, .slice t (.tmp e0) (some (.tmp e1)) none none, ty2, pos2, af2, none⟩ = (do pure (.value (← Instr.sliceAt t (a.eval (.tmp e0)) (some (a.eval (.tmp e1))) none none))) := rfl
    rw [x2]
    simp only [Sem.run_bind, r1, Result.andThen_ok, Sem.run_pure]
    rw [Oper.upon_value]
    show wpOps P ops Q [3] (a.put (some d2) v) w
    rw [wpOps_cons]
    unfold wpOp
    rw [ho3]
    simp only
    rw [if_pos (by simp [Region.wanted])]
    left
    unfold Oper.wp
    have hev : (a.put (some d2) v).eval (.tmp d2) = v := by
      simp [Act.put, Act.eval, Array.getD_eq_getD_getElem?, Array.getElem?_setIfInBounds, hlt']
    have x3 : execOp (a.put (some d2) v).eval ⟨none, .call c, ty3, pos3, af3, none⟩ = (do pure (.value (← Builtin.clear_ #[t] ty3 #[v]))) := by
      simp only [execOp, resolve, hc1, hargs, hats]
      simp only [List.map_toArray, List.map_cons, List.map_nil, hev]
      rfl
    rw [x3]
    simp only [Sem.run_bind, r2, Result.andThen_ok, Sem.run_pure]
    rw [Oper.upon_value]
    exact hQ
  have fin : ∀ (v : Value) (w' : World) (mem' : Mem), k ⟨st.fr.set d2 .undef, mem'⟩ = some r → MemR μ mem' sh w' → Mv μ st.mem sh w μ mem' sh w' → Q .normal (a.put (some d2) v) w' := by
    intro v w' mem' hk hM hV
    refine hn _ _ _ μ sh hk ⟨hM, ?_⟩ hV
    have hF := (hS.fr.ext hV.ext hV.keep).put (RV_undef v) (some d2)
    exact hF
  have hj0 : ((j.toNat : Nat) : Int) = j := Int.toNat_of_nonneg hj.1
  have hjl : j.toNat ≤ l.length := by have := hj.2; omega
  rcases hS.mem.blk id _ hb with ⟨m1, m2⟩ | ⟨g', n', c', e', cs, m1, m2, m3, m4, m5, m6⟩
  · subst m2
    rcases hSl with ⟨k1, k2⟩ | ⟨g, n, cap, k1, _⟩
    · subst k2
      have h0' : j.toNat = 0 := by simpa using hjl
      have hjz : j = 0 := by omega
      subst hjz
      refine go (.slice none 0 0) w ?_ ?_ (fin _ w st.mem ?_ hS.mem (Mv.refl _ _ _ _))
      · rw [hv', e1']
        simp [Instr.sliceAt, Instr.slice, Instr.sliceBounds, Instr.sliceBound, asIntOf, run_underlying hd, sizeOf_run hei]
      · simp [Builtin.clear_, run_underlying hd]
      · rw [← h]
        congr 2
        exact (setSelf (by simpa using hb)).symm
    · rw [m1] at k1; cases k1
  · rcases hSl with ⟨k1, k2⟩ | ⟨g, n, cap, k1, k2, k3, k4⟩
    · rw [m1] at k1; cases k1
    obtain ⟨rfl, rfl⟩ : g = g' ∧ n = n' := by rw [m1] at k1; simp at k1; exact ⟨k1.1.symm, k1.2.symm⟩
    subst k2
    have hlc := EncL.length (Enc.length (.int ki)) l _ m4
    have hlc' : cs.length = l.length := by rw [hlc]; show l.length * 1 = _; omega
    by_cases hjj : j.toNat = l.length
    · refine go (.slice (if cap = j.toNat then some ⟨g, 0, none⟩ else some ⟨g, j.toNat, none⟩) 0 (cap - j.toNat)) w ?_ ?_ (fin _ w st.mem ?_ hS.mem (Mv.refl _ _ _ _))
      · rw [hv', e1']
        simp only [Instr.sliceAt, Instr.slice, Instr.sliceBounds, Instr.sliceBound, asIntOf, Sem.run_bind, run_underlying hd, Result.andThen_ok, Sem.run_pure, sizeOf_run hei]
        have hjl2 : j ≤ (l.length : Int) := hj.2
        simp [hj.1, hjl2, addr_add, hsz1, hjj]
      · by_cases hcj : cap = j.toNat <;> simp [Builtin.clear_, run_underlying hd, hcj]
      · rw [← h]
        congr 2
        rw [hjj]
        simp only [Nat.sub_self, List.replicate_zero, List.append_nil]
        rw [List.take_of_length_le (Nat.le_refl _)]
        exact (setSelf hb).symm
    · have hjn : j.toNat < l.length := by omega
      have hcap : ¬ cap = j.toNat := by omega
      have hzs : (Builtin.zeroCells zv.cells (l.length - j.toNat)).toList = List.replicate (l.length - j.toNat) (Value.int ki 0) := by
        unfold Builtin.zeroCells
        rw [range_mod, hzc]
        show (List.replicate (l.length - j.toNat) [Value.int ki 0]).flatten = _
        rw [List.flatten_replicate_singleton]
      have hcl : l.length ≤ c'.toList.length := by rw [← hlc', ← m5]; simp; omega
      have hrun := run_storeCells_at (P := P) g j.toNat e' (List.replicate (l.length - j.toNat) (Value.int ki 0)) 0 c' w m2 (by simp at hcl ⊢; omega) (by intro v hv; rw [List.eq_of_mem_replicate hv]; rfl)
      simp only [Nat.add_zero] at hrun
      have hW := hS.mem.write (w' := w.setRow g (c'.toList.take j.toNat ++ List.replicate (l.length - j.toNat) (Value.int ki 0) ++ c'.toList.drop (j.toNat + (List.replicate (l.length - j.toNat) (Value.int ki 0)).length)).toArray)
        (b' := .list (.int ki) (l.take j.toNat ++ List.replicate (l.length - j.toNat) 0)) hb (by simp) m1 m6 (by simp [BLay]; omega) (by simp)
        (fun g' hg' => setRow_other w g g' _ hg') (fun he hk => by
          refine .inr ⟨g, n, _, e', cs.take j.toNat ++ List.replicate (l.length - j.toNat) (Value.int ki 0), m1, setRow_heap w g c' _ e' _ m2, ?_, ?_, ?_, m6⟩
          · rw [← m3]; simp at hcl ⊢; omega
          · have t1 := EncL.take (Enc.length (.int ki)) l cs j.toNat (EncL.mono (Enc.keep hk (.int ki)) l cs m4)
            have t2 := EncL.replicate (f := Enc sh (w.setRow g (c'.toList.take j.toNat ++ List.replicate (l.length - j.toNat) (Value.int ki 0) ++ c'.toList.drop (j.toNat + (List.replicate (l.length - j.toNat) (Value.int ki 0)).length)).toArray) (.int ki)) (x := (0 : Int)) (c := [Value.int ki 0]) rfl (l.length - j.toNat)
            rw [List.flatten_replicate_singleton] at t2
            rw [show j.toNat * (Ty.int ki).size = j.toNat by show j.toNat * 1 = _; omega] at t1
            exact EncL.append _ _ _ _ t1 t2
          · have hl1 : (cs.take j.toNat ++ List.replicate (l.length - j.toNat) (Value.int ki 0)).length = l.length := by simp; omega
            have hl2 : (c'.toList.take j.toNat).length = j.toNat := by rw [List.length_take]; omega
            rw [hl1, ← m5, List.take_take, show min j.toNat cs.length = j.toNat by omega]
            rw [List.take_append_of_le_length (by simp; simp at hcl; omega), List.take_of_length_le (by simp; omega)])
      refine go (.slice (some ⟨g, j.toNat, none⟩) (l.length - j.toNat) (cap - j.toNat)) _ ?_ ?_ (fin _ _ _ h hW.1 hW.2)
      · rw [hv', e1']
        simp only [Instr.sliceAt, Instr.slice, Instr.sliceBounds, Instr.sliceBound, asIntOf, Sem.run_bind, run_underlying hd, Result.andThen_ok, Sem.run_pure, sizeOf_run hei]
        have hjl2 : j ≤ (l.length : Int) := hj.2
        simp [hj.1, hjl2, addr_add, hsz1, hcap]
      · obtain ⟨m, hm⟩ : ∃ m, l.length - j.toNat = m + 1 := ⟨l.length - j.toNat - 1, by omega⟩
        have hzr : (zeroValue e).run P w = .ok zv w := by
          simp [zeroValue, typeInfo, hei, hz]
        rw [hm] at hrun hzs ⊢
        generalize List.replicate (m + 1) (Value.int ki 0) = Z at hrun hzs ⊢
        have hrw : (Builtin.clear_ #[t] ty3 #[.slice (some ⟨g, j.toNat, none⟩) (m + 1) (cap - j.toNat)]).run P w = ((do storeCells ⟨g, j.toNat, none⟩ (Builtin.zeroCells (← zeroValue e).cells (m + 1)).toList; pure (Value.tuple #[]) : Sem Value)).run P w := by
          simp [Builtin.clear_, run_underlying hd]
        rw [hrw]
        simp only [Sem.run_bind, hzr, Result.andThen_ok, hzs, hrun, Sem.run_pure]

theorem clear_ok (hT : TOk P T) {ops : Array Oper} {o2 o3 : Oper} {c : Go.Call} {t : TypeId} {d2 e0 e1 : Nat} {st : St} {a : Act} {k : St → Option R} {r : R} {Q : Exit → Act → World → Prop}
    (ho2 : ops[2]? = some o2) (ho3 : ops[3]? = some o3) (h21 : o2.dst = some d2) (h22 : o2.op = .slice t (.tmp e0) (some (.tmp e1)) none none) (h23 : o2.guard = none)
    (h31 : o3.dst = none) (h32 : o3.op = .call c) (h33 : o3.guard = none) (hc1 : c.callee = .builtin .clear) (hc2 : c.args.toList = [.tmp d2]) (hc3 : c.argTypes.toList = [t])
    (hS : SR μ sh st a w) (h : clearK T t d2 e0 e1 st k = some r)
    (hn : ∀ st' a' w' μ' sh', k st' = some r → SR μ' sh' st' a' w' → Mv μ st.mem sh w μ' st'.mem sh' w' → Q .normal a' w') : wpOp P ops Q 2 (wpOps P ops Q [3]) a w := by
  obtain ⟨dst2, op2, ty2, pos2, af2, g2⟩ := o2
  obtain ⟨dst3, op3, ty3, pos3, af3, g3⟩ := o3
  simp only at h21 h22 h23 h31 h32 h33
  subst h21 h22 h23 h31 h32 h33
  have hargs : c.args = #[.tmp d2] := by apply Array.ext'; simpa using hc2
  have hats : c.argTypes = #[t] := by apply Array.ext'; simpa using hc3
  unfold clearK at h
  split at h <;> try cases h
  rename_i e id kd j htd h0 h1
  split at h <;> try cases h
  rename_i ki l hb
  have h' := ite_some h
  clear h
  obtain ⟨hq, h⟩ := h'
  simp only [Bool.and_eq_true, decide_eq_true_eq] at hq
  obtain ⟨⟨hoke, hty⟩, hlt⟩ := hq
  have h' := cond_some h
  clear h
  obtain ⟨hj, h⟩ := h'
  simp only [Bool.and_eq_true, decide_eq_true_eq] at hj
  exact clear_core hT ho2 ho3 hc1 hargs hats j l htd h0 h1 hb hoke hty hlt hj h hS hn

theorem code_ok (hT : TOk P T) (hΓ : GOk P Γ) (hD : DrawOk P T Γ) (p : Nat) : ∀ (c : Code) (cur : Nat) {μ : Mu} {sh : Nat → Prop} {st : St} {a : Act} {w : World} {k : Ex → St → Option R} {r : R},
    LoopsOk P p Λ (loopsOf cur c) → SR μ sh st a w → codeK T Γ Λ cur c st k = some r → c.wp P (CPost p μ st.mem sh w k r) a w
  | .skip, cur, μ, sh, st, a, w, k, r, hL, hS, h => wp_skip ⟨.normal, st, μ, sh, rfl, h, hS, Wv.refl _ _ _ _ _⟩
  | .region id ops draw, cur, μ, sh, st, a, w, k, r, hL, hS, h => by
    simp only [codeK] at h
    have h' := ite_none_some h
    clear h
    obtain ⟨hd, h⟩ := h'
    have hQ : ∀ st' a' w' μ' sh', k .normal st' = some r → SR μ' sh' st' a' w' → Mv μ st.mem sh w μ' st'.mem sh' w' → CPost p μ st.mem sh w k r .normal a' w' :=
      fun st' a' w' μ' sh' h1 h2 h3 => ⟨.normal, st', μ', sh', rfl, h1, h2, h3.wv⟩
    split at h
    · rename_i t d2 e0 e1 hcl
      cases draw with
      | true => cases hcl
      | false =>
        obtain ⟨o0, o1, o2, o3, c, hops, q1, q2, q3, q4, q5, q6, q7, q8, q9⟩ := clearAt_spec hcl
        have hget : ∀ i : Nat, ops[i]? = [o0, o1, o2, o3][i]? := fun i => by rw [← Array.getElem?_toList, hops]
        have hsz : ops.size = 4 := by rw [← Array.length_toList, hops]; rfl
        refine wp_region ?_
        rw [hsz, show List.range 4 = [0, 1, 2, 3] from rfl, wpOps_cons]
        refine step_ok hT hΓ hS h ?_
        intro st1 a1 w1 μ1 sh1 h1 hS1 hV1
        rw [wpOps_cons]
        refine step_ok hT hΓ hS1 h1 ?_
        intro st2 a2 w2 μ2 sh2 h2 hS2 hV2
        rw [wpOps_cons]
        exact clear_ok hT (hget 2) (hget 3) q1 q2 q3 q4 q5 q6 q7 q8 q9 hS2 h2 (fun st' a' w' μ' sh' k1 k2 k3 => hQ st' a' w' μ' sh' k1 k2 ((hV1.trans hV2).trans k3))
    · cases draw with
      | false => exact wp_region (ops_ok hT hΓ _ hS h (fun st' a' w' μ' sh' h1 => hQ st' a' w' μ' sh' h1))
      | true =>
        simp only [Bool.true_and, Bool.not_eq_false'] at hd
        have hc : ∀ st', (cond (dynFine T Γ true ops.toList st'.fr) (k .normal st') none) = some r → dynFine T Γ true ops.toList st'.fr = true ∧ k .normal st' = some r := by
          intro st' h
          cases hq : dynFine T Γ true ops.toList st'.fr with
          | true => rw [hq] at h; exact ⟨rfl, h⟩
          | false => rw [hq] at h; cases h
        exact hD id ops st _ r μ sh a w _ hd (fun st' h => (hc st' h).1) h hS (fun st' a' w' μ' sh' h1 => hQ st' a' w' μ' sh' (hc st' h1).2)
  | .seq x y, cur, μ, sh, st, a, w, k, r, hL, hS, h => by
    have hx := code_ok hT hΓ hD p x cur (fun x hx => hL x (by simp [loopsOf, hx])) hS h
    refine wp_seq (wp_mono hx ?_)
    rintro e a' w' ⟨e', st', μ', sh', he, hk, hS', hW⟩
    cases e <;> simp [absE] at he <;> subst he
    · simp only [forceSt_eq] at hk
      have hy := code_ok hT hΓ hD p y cur (fun x hx => hL x (by simp [loopsOf, hx])) hS' hk
      exact wp_mono hy (fun e a'' w'' ⟨e', st'', μ'', sh'', h1, h2, h3, h4⟩ => ⟨e', st'', μ'', sh'', h1, h2, h3, hW.trans h4⟩)
    · exact ⟨_, st', μ', sh', rfl, hk, hS', hW⟩
    · exact ⟨_, st', μ', sh', rfl, hk, hS', hW⟩
  | .cond c x y, cur, μ, sh, st, a, w, k, r, hL, hS, h => by
    simp only [codeK, forceSt_eq] at h
    split at h <;> try cases h
    rename_i b hb
    have hc := ev_ok hS.fr c
    rw [hb] at hc
    have hc' := RV.bool.1 hc
    have href : ∀ t, b = t → SR μ sh ⟨refine st.fr c t, st.mem⟩ a w := by
      rintro t rfl
      refine ⟨hS.mem, ?_⟩
      cases c with
      | tmp d => exact hS.fr.refine (by simpa [St.ev] using hb)
      | _ => exact hS.fr
    cases b with
    | true => exact wp_cond_true hc' (code_ok (st := ⟨refine st.fr c true, st.mem⟩) hT hΓ hD p x cur (fun x hx => hL x (by simp [loopsOf, hx])) (href true rfl) h)
    | false => exact wp_cond_false hc' (code_ok (st := ⟨refine st.fr c false, st.mem⟩) hT hΓ hD p y cur (fun x hx => hL x (by simp [loopsOf, hx])) (href false rfl) h)
  | .block id c, cur, μ, sh, st, a, w, k, r, hL, hS, h => by
    have hc := code_ok hT hΓ hD p c id (fun x hx => hL x (by simp [loopsOf, hx])) hS h
    refine wp_block (wp_mono hc ?_)
    rintro e a' w' ⟨e', st', μ', sh', he, hk, hS', hW⟩
    cases e <;> simp [absE] at he <;> subst he
    · exact ⟨_, st', μ', sh', rfl, hk, hS', hW⟩
    · rename_i id'
      simp only [Exit.inBlock]
      simp only at hk
      split
      · rename_i hid
        rw [if_pos (by simpa using hid)] at hk
        exact ⟨_, st', μ', sh', rfl, hk, hS', hW⟩
      · rename_i hid
        rw [if_neg (by simpa using hid)] at hk
        exact ⟨_, st', μ', sh', rfl, hk, hS', hW⟩
    · exact ⟨_, st', μ', sh', rfl, hk, hS', hW⟩
  | .loop c, cur, μ, sh, st, a, w, k, r, hL, hS, h => by
    simp only [codeK] at h
    split at h <;> try cases h
    rename_i S hΛ
    exact hL (cur, c) (by simp [loopsOf]) S hΛ st k r h μ sh a w hS
  | .exit id, cur, μ, sh, st, a, w, k, r, hL, hS, h => wp_exit ⟨.exit id, st, μ, sh, rfl, h, hS, Wv.refl _ _ _ _ _⟩
  | .ret, cur, μ, sh, st, a, w, k, r, hL, hS, h => wp_ret ⟨.ret, st, μ, sh, rfl, h, hS, Wv.refl _ _ _ _ _⟩
  | .rangeFunc .., cur, μ, sh, st, a, w, k, r, hL, hS, h | .scope _, cur, μ, sh, st, a, w, k, r, hL, hS, h | .label _, cur, μ, sh, st, a, w, k, r, hL, hS, h
  | .goto _, cur, μ, sh, st, a, w, k, r, hL, hS, h | .refuse _, cur, μ, sh, st, a, w, k, r, hL, hS, h => by simp [codeK] at h

/-- What a function hands back. -/
theorem res_ok (hT : TOk P T) {st : St} {a : Act} (hS : SR μ sh st a w) : ∀ (l : List ResultVar) (vs : List AV) (us : List Value) {k : List AV → Option R} {r : R}, RVs μ st.mem sh w vs.reverse us →
    resK T l st vs k = some r → ∃ avs vals, k avs = some r ∧ RVs μ st.mem sh w avs (us ++ vals) ∧
      (l.mapM (m := Sem) fun | .tmp t => pure (a.tmps.getD t undef) | .cell c t => do loadVar t (← asAddr (a.tmps.getD c undef))).run P w = .ok vals w
  | [], vs, us, k, r, hV, h => ⟨vs.reverse, [], h, by simpa using hV, by simp⟩
  | .tmp t :: l, vs, us, k, r, hV, h => by
    simp only [resK] at h
    have he := ev_ok hS.fr (.tmp t)
    have hV' : RVs μ st.mem sh w (st.fr.getD t .undef :: vs).reverse (us ++ [a.tmps.getD t undef]) := by
      rw [List.reverse_cons]
      exact RVs_append _ _ _ _ hV (RVs_cons he rfl)
    obtain ⟨avs, vals, h1, h2, h3⟩ := res_ok hT hS l _ _ hV' h
    refine ⟨avs, a.tmps.getD t undef :: vals, h1, by simpa using h2, ?_⟩
    simp only [List.mapM_cons, Sem.run_bind, Sem.run_pure, Result.andThen_ok, h3]
  | .cell c t :: l, vs, us, k, r, hV, h => by
    simp only [resK] at h
    have he := ev_ok hS.fr (.tmp c)
    obtain ⟨v, hv, av, hk, hr⟩ := load_ok (P := P) hT hS.mem he h
    have hV' : RVs μ st.mem sh w (av :: vs).reverse (us ++ [v]) := by
      rw [List.reverse_cons]
      exact RVs_append _ _ _ _ hV (RVs_cons hr rfl)
    obtain ⟨avs, vals, h1, h2, h3⟩ := res_ok hT hS l _ _ hV' hk
    refine ⟨avs, v :: vals, h1, by simpa using h2, ?_⟩
    have hv' : (do loadVar t (← asAddr (a.tmps.getD c undef)) : Sem Value).run P w = .ok v w := by
      have h0 : ∃ ad, a.tmps.getD c undef = .pointer (some ad) := by
        cases hx : a.tmps.getD c undef with
        | pointer p =>
          cases p with
          | none =>
            rw [show a.eval (.tmp c) = .pointer none from hx] at hv
            simp [Instr.loadAt, Instr.sureAddr] at hv
          | some ad => exact ⟨ad, rfl⟩
        | _ =>
          rw [show a.eval (.tmp c) = _ from hx] at hv
          simp [Instr.loadAt, Instr.sureAddr] at hv
      obtain ⟨ad, had⟩ := h0
      have hv2 : (Instr.loadAt t (.pointer (some ad))).run P w = .ok v w := by rw [← had]; exact hv
      simp only [Instr.loadAt, Instr.sureAddr, Sem.run_bind, Sem.run_pure, Result.andThen_ok] at hv2
      rw [had]
      simp only [asAddr, Sem.run_bind, Sem.run_pure, Result.andThen_ok, hv2]
    simp only [List.mapM_cons, Sem.run_bind] at hv' ⊢
    rw [hv']
    simp only [Result.andThen_ok, h3, Sem.run_pure]

/-- Behind a call: what is handed back, and what became of the world. -/
def FPost (p : Nat) (μ : Mu) (mem : Mem) (sh : Nat → Prop) (w : World) (k : AV → Mem → Option R) (r : R) : Ending → World → Prop := fun e w' =>
  ∃ v av mem' μ' sh', e = .returned v ∧ k av mem' = some r ∧ RV μ' mem' sh' w' av v ∧ MemR μ' mem' sh' w' ∧ Wv p μ mem sh w μ' mem' sh' w'

theorem fn_ok (hT : TOk P T) (hΓ : GOk P Γ) (hD : DrawOk P T Γ) {p : Nat} {f : FuncId} {fn : Func} (hf : P.funcs[f]? = some fn) {c : Code} (hb : fn.body = some c) (hL : LoopsOk P p Λ (loopsOf 0 c))
    {args : List AV} {vs : List Value} {k : AV → Mem → Option R} {r : R} (hM : MemR μ mem sh w) (hV : RVs μ mem sh w args vs) (h : fnK T Γ Λ fn args mem k = some r) :
    Calls P f vs.toArray w (FPost p μ mem sh w k r) := by
  unfold fnK at h
  rw [hb] at h
  simp only at h
  have hlen : ∀ (l : List AV) (vs : List Value), RVs μ mem sh w l vs → l.length = vs.length := by
    intro l
    induction l with
    | nil => intro vs h; simp [RVs] at h; simp [h]
    | cons a l ih =>
      intro vs h
      obtain ⟨v, rest, rfl, _, h2⟩ := RVs_inv h
      simp [ih rest h2]
  have hget : ∀ (l : List AV) (vs : List Value) (i : Nat) (av : AV), RVs μ mem sh w l vs → l[i]? = some av → ∃ v, vs[i]? = some v ∧ RV μ mem sh w av v := by
    intro l
    induction l with
    | nil => intro vs i av _ h; simp at h
    | cons a l ih =>
      intro vs i av h hi
      obtain ⟨v, rest, rfl, h1, h2⟩ := RVs_inv h
      cases i with
      | zero => simp at hi; subst hi; exact ⟨v, rfl, h1⟩
      | succ i => simpa using ih rest i av h2 (by simpa using hi)
  have hal := hlen args vs hV
  refine calls_of_wp hf hb ?_
  have hS : SR μ sh ⟨args ++ List.replicate (fn.ntmps - args.length) .undef, mem⟩ { tmps := vs.toArray ++ Array.replicate (fn.ntmps - vs.toArray.size) undef, defers := [] } w := by
    refine ⟨hM, ⟨by simp [hal], ?_, rfl⟩⟩
    intro i av hi
    by_cases hlt : i < args.length
    · rw [List.getElem?_append_left hlt] at hi
      obtain ⟨v, hv, hr⟩ := hget args vs i av hV hi
      refine ⟨v, ?_, hr⟩
      rw [Array.getElem?_append_left (by simpa [← hal] using hlt)]
      simpa using hv
    · rw [List.getElem?_append_right (by omega)] at hi
      rw [List.getElem?_replicate] at hi
      split at hi
      · cases hi
        refine ⟨undef, ?_, RV_undef _⟩
        rw [Array.getElem?_append_right (by simp; omega)]
        rw [Array.getElem?_replicate, if_pos (by simp; omega)]
      · cases hi
  refine wp_mono (code_ok hT hΓ hD p c 0 hL hS h) ?_
  rintro e a' w' ⟨e', st', μ', sh', he, hk, hS', hW⟩
  have fin : ∀ {k' : Option R}, k' = some r → k' = (resK T fn.results.toList st' [] fun vs => match vs with
      | [v] => k v st'.mem
      | vs => k (.tup vs) st'.mem) → a'.defers = [] ∧ ∃ v, (results fn a'.tmps).run P w' = .ok v w' ∧ FPost p μ mem sh w k r (.returned v) w' := by
    rintro k' hk' rfl
    obtain ⟨avs, vals, h1, h2, h3⟩ := res_ok hT hS' fn.results.toList [] [] rfl hk'
    refine ⟨hS'.fr.def_, ?_⟩
    have hres : ∀ v, v = (if h : vals.toArray.size = 1 then vals.toArray[0] else .tuple vals.toArray) → (results fn a'.tmps).run P w' = .ok v w' := by
      rintro v rfl
      unfold results
      rw [Array.mapM_eq_mapM_toList]
      have h4 := congrArg (fun r => Result.andThen r (fun (a : List Value) w => Result.ok a.toArray w)) h3
      simp only [Result.andThen_ok] at h4
      rw [Sem.run_bind]
      have h5 : (List.toArray <$> fn.results.toList.mapM (m := Sem) fun | .tmp t => pure (a'.tmps.getD t undef) | .cell c t => do loadVar t (← asAddr (a'.tmps.getD c undef))).run P w' = .ok vals.toArray w' := by
        rw [← h4]
        simp
      exact (congrArg (fun r => Result.andThen r _) h5).trans rfl
    simp only [List.nil_append] at h2
    match avs, h1, h2 with
    | [av], h1, h2 =>
      obtain ⟨v, rest, rfl, hv, hr⟩ := RVs_inv h2
      simp only [RVs] at hr
      subst hr
      exact ⟨v, hres v (by simp), v, av, st'.mem, μ', sh', rfl, h1, hv, hS'.mem, hW⟩
    | [], h1, h2 =>
      simp only [RVs] at h2
      subst h2
      exact ⟨.tuple #[], hres _ (by simp), _, .tup [], st'.mem, μ', sh', rfl, h1, RV_tup0, hS'.mem, hW⟩
    | a1 :: a2 :: rest, h1, h2 =>
      obtain ⟨v1, r1, rfl, hv1, hr1⟩ := RVs_inv h2
      obtain ⟨v2, r2, rfl, hv2, hr2⟩ := RVs_inv hr1
      exact ⟨.tuple (v1 :: v2 :: r2).toArray, hres _ (by simp), _, .tup (a1 :: a2 :: rest), st'.mem, μ', sh', rfl, h1, RV.mk_atom ⟨_, rfl, h2⟩ rfl, hS'.mem, hW⟩
  cases e <;> simp [absE] at he <;> subst he
  · exact fin hk rfl
  · cases hk
  · exact fin hk rfl

end
end Am

/- THE ABSTRACT MACHINE: an operation's answer, whatever comes behind it; and what it has of memory. -/
namespace Am
open Go

section
variable {R : Type} {T : TypeId → TRow} {Γ : FuncId → Option Summ}

/-- An operation as a function. -/
def opD (T : TypeId → TRow) (Γ : FuncId → Option Summ) (o : Op) (ev : Operand → AV) (mem : Mem) : Option (AV × Mem) := opK T Γ o ev mem fun v m => some (v, m)

structure GNat (Γ : FuncId → Option Summ) : Prop where
  nat : ∀ f S, Γ f = some S → ∀ {R : Type} (args : List AV) (mem : Mem) (k : AV → Mem → Option R), S.run args mem k = (S.run args mem fun v m => some (v, m)).bind fun p => k p.1 p.2
  pure : ∀ f S, Γ f = some S → S.cls = .pure → ∀ (args : List AV) (mem : Mem) v m, (S.run args mem fun v m => some (v, m)) = some (v, m) → m = mem ∧ ∀ mem', (S.run args mem' fun v m => some (v, m)) = some (v, mem')
  make : ∀ f S, Γ f = some S → S.cls = .make → ∀ (args : List AV) (mem : Mem) v m, (S.run args mem fun v m => some (v, m)) = some (v, m) → ∃ new, m = mem ++ new

theorem cond_bind {α β : Type} (c : Bool) (x y : Option α) (f : α → Option β) : (cond c x y).bind f = cond c (x.bind f) (y.bind f) := by cases c <;> rfl
theorem ite_bind {α β : Type} (c : Prop) [Decidable c] (x y : Option α) (f : α → Option β) : (if c then x else y).bind f = if c then x.bind f else y.bind f := by split <;> rfl

theorem oneOf_nat {S : Type} (j : Int) (n : Nat) (K : Nat → Option S) (f : S → Option R) : ∀ m, (oneOf j n K m).bind f = oneOf j n (fun i => (K i).bind f) m
  | 0 => rfl
  | m + 1 => by simp only [oneOf, cond_bind, oneOf_nat j n K f m]

theorem loadK_nat (t : TypeId) (a : AV) (mem : Mem) (k : AV → Option R) : loadK T t a mem k = (loadK T t a mem some).bind k := by
  unfold loadK
  (repeat' split) <;> simp [ite_bind, cond_bind, oneOf_nat]

theorem fieldAddrK_nat (s : TypeId) (a : AV) (i : Nat) (mem : Mem) (k : AV → Option R) : fieldAddrK T s a i mem k = (fieldAddrK T s a i mem some).bind k := by
  unfold fieldAddrK
  (repeat' split) <;> simp [ite_bind, cond_bind, oneOf_nat]

theorem fieldK_nat (s : TypeId) (v : AV) (i : Nat) (k : AV → Option R) : fieldK T s v i k = (fieldK T s v i some).bind k := by
  unfold fieldK
  (repeat' split) <;> simp [ite_bind, cond_bind, oneOf_nat]

theorem indexAddrK_nat (t : TypeId) (a ix : AV) (mem : Mem) (k : AV → Option R) : indexAddrK T t a ix mem k = (indexAddrK T t a ix mem some).bind k := by
  unfold indexAddrK
  (repeat' split) <;> simp [ite_bind, cond_bind, oneOf_nat]

theorem indexK_nat (t : TypeId) (v ix : AV) (k : AV → Option R) : indexK T t v ix k = (indexK T t v ix some).bind k := by
  unfold indexK
  (repeat' split) <;> simp [ite_bind, cond_bind, oneOf_nat]

theorem buildK_nat (t : TypeId) (ps : List (Nat × AV)) (k : AV → Option R) : buildK T t ps k = (buildK T t ps some).bind k := by
  unfold buildK
  (repeat' split) <;> simp [ite_bind, cond_bind, oneOf_nat]

theorem lenK_nat (r : TRow) (v : AV) (mem : Mem) (k : AV → Option R) : lenK r v mem k = (lenK r v mem some).bind k := by
  unfold lenK
  (repeat' split) <;> simp [ite_bind, cond_bind, oneOf_nat]

theorem maxK_nat (x y : AV) (k : AV → Option R) : maxK x y k = (maxK x y some).bind k := by
  unfold maxK
  (repeat' split) <;> simp [ite_bind, cond_bind, oneOf_nat]

theorem convK_nat (src dst : TypeId) (v : AV) (mem : Mem) (k : AV → Option R) : convK T src dst v mem k = (convK T src dst v mem some).bind k := by
  unfold convK
  (repeat' split) <;> simp [ite_bind, cond_bind, oneOf_nat]

theorem intK_nat (op : BinOp) (k' : IntKind) (a b : Int) (k : AV → Option R) : intK op k' a b k = (intK op k' a b some).bind k := by
  unfold intK
  (repeat' split) <;> simp [ite_bind, cond_bind, oneOf_nat]

theorem strK_nat (op : BinOp) (a b : ByteArray) (k : AV → Option R) : strK op a b k = (strK op a b some).bind k := by
  unfold strK
  (repeat' split) <;> simp [ite_bind, cond_bind, oneOf_nat]

theorem eqK_nat (r : TRow) (neg : Bool) (x y : AV) (k : AV → Option R) : eqK r neg x y k = (eqK r neg x y some).bind k := by
  unfold eqK
  (repeat' split) <;> simp [ite_bind, cond_bind, oneOf_nat]

theorem unK_nat (op : UnOp) (x : AV) (k : AV → Option R) : unK op x k = (unK op x some).bind k := by
  unfold unK
  (repeat' split) <;> simp [ite_bind, cond_bind, oneOf_nat]

theorem sliceStrK_nat (s : ByteArray) (lo hi : Int) (k : AV → Option R) : sliceStrK s lo hi k = (sliceStrK s lo hi some).bind k := by
  unfold sliceStrK
  (repeat' split) <;> simp [ite_bind, cond_bind, oneOf_nat]

theorem binK_nat (r : TRow) (op : BinOp) (x y : AV) (k : AV → Option R) : binK r op x y k = (binK r op x y some).bind k := by
  unfold binK
  (repeat' split) <;> first | rfl | exact intK_nat _ _ _ _ _ | exact strK_nat _ _ _ _ | exact eqK_nat _ _ _ _ _ | simp only [cond_bind, Option.bind_some, Option.bind_none]

theorem storeK_nat (t : TypeId) (a v : AV) (mem : Mem) (k : AV → Mem → Option R) : storeK T t a v mem k = (storeK T t a v mem fun v m => some (v, m)).bind fun p => k p.1 p.2 := by
  unfold storeK
  (repeat' split) <;> simp [ite_bind, cond_bind]

theorem buildSliceK_nat (t : TypeId) (n : Nat) (ps : List (Nat × AV)) (mem : Mem) (k : AV → Mem → Option R) : buildSliceK T t n ps mem k = (buildSliceK T t n ps mem fun v m => some (v, m)).bind fun p => k p.1 p.2 := by
  unfold buildSliceK
  (repeat' split) <;> simp [ite_bind, cond_bind]

theorem nextK_nat (it : AV) (mem : Mem) (k : AV → Mem → Option R) : nextK it mem k = (nextK it mem fun v m => some (v, m)).bind fun p => k p.1 p.2 := by
  unfold nextK
  (repeat' split) <;> simp [ite_bind, cond_bind]

theorem appendK_nat (t : TypeId) (x y : AV) (mem : Mem) (k : AV → Mem → Option R) : appendK T t x y mem k = (appendK T t x y mem fun v m => some (v, m)).bind fun p => k p.1 p.2 := by
  unfold appendK
  (repeat' split) <;> simp [ite_bind, cond_bind]

theorem lift_nat {x : (AV → Option R) → Option R} {y : (AV → Option (AV × Mem)) → Option (AV × Mem)} {z : Option AV} (mem : Mem) (hx : ∀ k, x k = z.bind k) (hy : ∀ k, y k = z.bind k) (k : AV → Mem → Option R) :
    x (k · mem) = (y fun v => some (v, mem)).bind fun p => k p.1 p.2 := by
  rw [hx, hy]
  cases z <;> rfl

theorem sliceK_nat (t : TypeId) (v : AV) (lo hi mx : Option AV) (mem : Mem) (k : AV → Mem → Option R) :
    sliceK T t v lo hi mx mem k = (sliceK T t v lo hi mx mem fun v m => some (v, m)).bind fun p => k p.1 p.2 := by
  unfold sliceK
  split
  · exact lift_nat mem (sliceStrK_nat _ _ _) (sliceStrK_nat _ _ _) k
  · exact lift_nat mem (sliceStrK_nat _ _ _) (sliceStrK_nat _ _ _) k
  · exact lift_nat mem (sliceStrK_nat _ _ _) (sliceStrK_nat _ _ _) k
  · (repeat' split) <;> simp [ite_bind, cond_bind]
  · rfl

theorem builtinK_nat (b : Builtin) (ts : List TypeId) (vs : List AV) (mem : Mem) (k : AV → Mem → Option R) :
    builtinK T b ts vs mem k = (builtinK T b ts vs mem fun v m => some (v, m)).bind fun p => k p.1 p.2 := by
  unfold builtinK
  split
  · exact lift_nat mem (lenK_nat _ _ _) (lenK_nat _ _ _) k
  · split
    · exact appendK_nat _ _ _ _ k
    · rfl
  · exact lift_nat mem (maxK_nat _ _) (maxK_nat _ _) k
  · rfl

/-- An operation's answer does not hang on what comes behind it. -/
theorem opK_nat (hΓ : GNat Γ) (o : Op) (ev : Operand → AV) (mem : Mem) (k : AV → Mem → Option R) : opK T Γ o ev mem k = (opD T Γ o ev mem).bind fun p => k p.1 p.2 := by
  unfold opD
  cases o with
  | pick c a b =>
    simp only [opK]
    split
    · split
      · rfl
      · rename_i t _ _ _ _; cases t <;> rfl
    · rfl
  | alloc t => simp only [opK]; split <;> first | rfl | (split <;> rfl)
  | box t x => simp only [opK]; split <;> rfl
  | build t ps => exact lift_nat mem (buildK_nat _ _) (buildK_nat _ _) k
  | buildSlice t n ps => exact buildSliceK_nat _ _ _ _ k
  | load t x => exact lift_nat mem (loadK_nat _ _ _) (loadK_nat _ _ _) k
  | store t x y => exact storeK_nat _ _ _ _ k
  | nilCheck x => simp only [opK]; split <;> rfl
  | binOp op t x y u => exact lift_nat mem (binK_nat _ _ _ _) (binK_nat _ _ _ _) k
  | unOp op t x => exact lift_nat mem (unK_nat _ _) (unK_nat _ _) k
  | convert s d x => exact lift_nat mem (convK_nat _ _ _ _) (convK_nat _ _ _ _) k
  | makeFunc fn first caps =>
    cases fn <;> simp only [opK] <;> first | rfl | (split <;> rfl)
  | slice t x lo hi mx => exact sliceK_nat _ _ _ _ _ _ k
  | fieldAddr s x i => exact lift_nat mem (fieldAddrK_nat _ _ _ _) (fieldAddrK_nat _ _ _ _) k
  | field s x i => exact lift_nat mem (fieldK_nat _ _ _) (fieldK_nat _ _ _) k
  | indexAddr t x i => exact lift_nat mem (indexAddrK_nat _ _ _ _) (indexAddrK_nat _ _ _ _) k
  | index t x i => exact lift_nat mem (indexK_nat _ _ _) (indexK_nat _ _ _) k
  | range t x => simp only [opK]; split <;> rfl
  | next it b => cases b <;> simp only [opK] <;> first | rfl | exact nextK_nat _ _ k
  | extract t i =>
    simp only [opK]
    split
    · split <;> rfl
    · rfl
  | call c =>
    simp only [opK]
    split
    · exact builtinK_nat _ _ _ _ k
    · split
      · split
        · rename_i S hS; exact hΓ.nat _ _ hS _ _ k
        · rfl
      · rfl
    · rfl
  | _ => rfl

end
end Am

/- THE ABSTRACT MACHINE: what each operation has of memory; two that may change places. -/
namespace Am
open Go

section
variable {R : Type} {T : TypeId → TRow} {Γ : FuncId → Option Summ}

/-- The block that a value leads to is the same. -/
def Agree (mem mem' : Mem) : AV → Prop
  | .ptr id _ => mem'[id]? = mem[id]?
  | .slice id => mem'[id]? = mem[id]?
  | _ => True

def Scoped (n : Nat) : AV → Prop
  | .ptr id _ => id < n
  | .slice id => id < n
  | _ => True

theorem Scoped.agree {mem new : Mem} {a : AV} (h : Scoped mem.length a) : Agree mem (mem ++ new) a := by
  cases a <;> simp only [Agree, Scoped] at h ⊢
  · exact List.getElem?_append_left h
  · exact List.getElem?_append_left h

theorem loadK_agree {mem mem' : Mem} (t : TypeId) (a : AV) (h : Agree mem mem' a) (k : AV → Option R) : loadK T t a mem' k = loadK T t a mem k := by
  cases a <;> simp only [Agree] at h <;> simp only [loadK, h] <;> (repeat' split) <;> first | rfl | contradiction | simp_all

theorem fieldAddrK_agree {mem mem' : Mem} (s : TypeId) (a : AV) (i : Nat) (h : Agree mem mem' a) (k : AV → Option R) : fieldAddrK T s a i mem' k = fieldAddrK T s a i mem k := by
  cases a <;> simp only [Agree] at h <;> simp only [fieldAddrK, h] <;> (repeat' split) <;> first | rfl | contradiction | simp_all

theorem indexAddrK_agree {mem mem' : Mem} (t : TypeId) (a ix : AV) (h : Agree mem mem' a) (k : AV → Option R) : indexAddrK T t a ix mem' k = indexAddrK T t a ix mem k := by
  cases a <;> simp only [Agree] at h <;> simp only [indexAddrK, h] <;> (repeat' split) <;> first | rfl | contradiction | simp_all

theorem lenK_agree {mem mem' : Mem} (r : TRow) (a : AV) (h : Agree mem mem' a) (k : AV → Option R) : lenK r a mem' k = lenK r a mem k := by
  unfold lenK
  cases hr : r.td <;> cases a <;> simp only [Agree] at h <;> first | rfl | simp only [h] | (rename_i t x; cases t <;> rfl)

theorem convK_agree {mem mem' : Mem} (s d : TypeId) (a : AV) (h : Agree mem mem' a) (k : AV → Option R) : convK T s d a mem' k = convK T s d a mem k := by
  unfold convK
  cases hr : (T d).td <;> cases a <;> simp only [Agree] at h <;> first | rfl | simp only [h] | (rename_i t x; cases t <;> rfl)

/-- What is read of memory is there. -/
theorem loadK_scoped {mem : Mem} {t : TypeId} {a : AV} {k : AV → Option R} {r : R} (h : loadK T t a mem k = some r) : Scoped mem.length a := by
  cases a <;> simp only [Scoped] <;> simp only [loadK] at h
  · rename_i id p
    cases hb : mem[id]? with
    | none => simp [hb] at h
    | some b => exact (List.getElem?_eq_some_iff.1 hb).1
  · cases h

theorem fieldAddrK_scoped {mem : Mem} {s : TypeId} {a : AV} {i : Nat} {k : AV → Option R} {r : R} (h : fieldAddrK T s a i mem k = some r) : Scoped mem.length a := by
  unfold fieldAddrK at h
  split at h <;> try cases h
  split at h <;> try cases h
  cases a <;> simp only [Scoped] <;> simp only at h
  · rename_i id p
    cases hb : mem[id]? with
    | none => simp [hb] at h
    | some b => exact (List.getElem?_eq_some_iff.1 hb).1
  · cases h

theorem indexAddrK_scoped {mem : Mem} {t : TypeId} {a ix : AV} {k : AV → Option R} {r : R} (h : indexAddrK T t a ix mem k = some r) : Scoped mem.length a := by
  unfold indexAddrK at h
  split at h <;> try cases h
  split at h <;> try cases h
  · cases a <;> simp only [Scoped] <;> simp only at h
    · rename_i id p
      cases hb : mem[id]? with
      | none => simp [hb] at h
      | some b => exact (List.getElem?_eq_some_iff.1 hb).1
    · cases h
  · cases a <;> simp only [Scoped] <;> simp only at h
    · cases h
    · rename_i id
      cases hb : mem[id]? with
      | none => simp [hb] at h
      | some b => exact (List.getElem?_eq_some_iff.1 hb).1

theorem lenK_scoped {mem : Mem} {r' : TRow} {a : AV} {k : AV → Option R} {r : R} (h : lenK r' a mem k = some r) : Scoped mem.length a := by
  unfold lenK at h
  split at h <;> (try (cases h; done)) <;> simp only [Scoped]
  rename_i id _
  cases hb : mem[id]? with
  | none => simp [hb] at h
  | some b => exact (List.getElem?_eq_some_iff.1 hb).1

theorem convK_scoped {mem : Mem} {s d : TypeId} {a : AV} {k : AV → Option R} {r : R} (h : convK T s d a mem k = some r) : Scoped mem.length a := by
  unfold convK at h
  split at h <;> try cases h
  split at h <;> (try (cases h; done)) <;> simp only [Scoped]
  rename_i id _
  cases hb : mem[id]? with
  | none => simp [hb] at h
  | some b => exact (List.getElem?_eq_some_iff.1 hb).1

/-! ### layouts under a store -/

theorem Ty.get_lay : ∀ (t : Ty) (p : List Step) (x y : t.den) (u : AV), t.get p x = some u → ∃ s a b, u = .val s a ∧ t.get p y = some (.val s b)
  | t, [], x, y, u, h => by rw [Ty.get_nil] at h; cases h; exact ⟨t, x, y, rfl, Ty.get_nil t y⟩
  | .pair a b, .fld 0 :: p, x, y, u, h => by simp only [Ty.get] at h ⊢; exact Ty.get_lay a p _ _ u h
  | .pair a b, .fld (i + 1) :: p, x, y, u, h => by simp only [Ty.get] at h ⊢; exact Ty.get_lay b (.fld i :: p) _ _ u h
  | .arr n t, .idx i :: p, x, y, u, h => by simp only [Ty.get] at h ⊢; exact Ty.get_lay t p _ _ u h
  | .int _, _ :: _, _, _, _, h | .bool, _ :: _, _, _, _, h | .str, _ :: _, _, _, _, h | .unit, _ :: _, _, _, _, h | .list _, _ :: _, _, _, _, h => by simp [Ty.get] at h
  | .pair _ _, .idx _ :: _, _, _, _, h => by simp [Ty.get] at h
  | .arr _ _, .fld _ :: _, _, _, _, h => by simp [Ty.get] at h

/-- What a value is like: an atom, plain data of a type, a composite. -/
def Like (u v : AV) : Prop := u = v ∨ u.lay v = true

theorem Like.same {u v : AV} (h : Like u v) : u.same v := by
  rcases h with rfl | h
  · exact AV.same_refl _
  · exact AV.lay_same _ _ h

theorem AV.get_atom {u : AV} (hu : u.atom = true) {p : List Step} {c : AV} (h : u.get p = some c) : p = [] := by
  cases p with
  | nil => rfl
  | cons s p =>
    cases u <;> simp [AV.atom] at hu <;> simp [AV.get] at h
    rename_i t x
    cases t <;> simp [Ty.agg] at hu <;> cases s <;> simp [Ty.get] at h

mutual
theorem AV.lay_symm : ∀ (u v : AV), u.lay v = true → v.lay u = true
  | .comp us, v, h => by
    cases v <;> simp [AV.lay, AV.atom] at h ⊢
    exact AV.lays_symm us _ h
  | .val t x, v, h => by
    cases v with
    | val s y =>
      simp only [AV.lay, Bool.or_eq_true, decide_eq_true_eq, Bool.and_eq_true] at h ⊢
      rcases h with rfl | ⟨h1, h2⟩
      · exact .inl rfl
      · exact .inr ⟨h2, h1⟩
    | _ => simp only [AV.lay, Bool.and_eq_true] at h ⊢; exact ⟨h.2, h.1⟩
  | .ptr _ _, v, h | .nilp, v, h | .slice _, v, h | .nils, v, h | .fn _ _, v, h | .nilf, v, h | .tup _, v, h | .elem _ _, v, h | .undef, v, h => by
    cases v <;> simp only [AV.lay, Bool.and_eq_true] at h ⊢ <;> exact ⟨h.2, h.1⟩
theorem AV.lays_symm : ∀ (us vs : List AV), AV.lays us vs = true → AV.lays vs us = true
  | [], vs, h => by cases vs <;> simp [AV.lays] at h ⊢
  | u :: us, vs, h => by
    cases vs with
    | nil => simp [AV.lays] at h
    | cons v vs =>
      simp only [AV.lays, Bool.and_eq_true] at h ⊢
      exact ⟨AV.lay_symm u v h.1, AV.lays_symm us vs h.2⟩
end

mutual
theorem AV.get_lay : ∀ (u v : AV) (p : List Step) (c : AV), u.lay v = true → u.get p = some c → ∃ d, v.get p = some d ∧ c.lay d = true
  | u, v, [], c, h, hg => by rw [AV.get_nil] at hg; cases hg; exact ⟨v, AV.get_nil v, h⟩
  | .val t x, v, s :: p, c, h, hg => by
    cases v with
    | val t' y =>
      simp only [AV.lay, Bool.or_eq_true, decide_eq_true_eq, Bool.and_eq_true] at h
      rcases h with rfl | ⟨h1, h2⟩
      · simp only [AV.get] at hg ⊢
        obtain ⟨s', a, b, rfl, hb⟩ := Ty.get_lay t (s :: p) x y c hg
        exact ⟨_, hb, by simp [AV.lay]⟩
      · have := AV.get_atom (u := .val t x) (by simpa [AV.atom] using h1) hg
        cases this
    | _ =>
      simp only [AV.lay, Bool.and_eq_true] at h
      have := AV.get_atom h.1 hg
      cases this
  | .comp us, v, .fld i :: p, c, h, hg => by
    cases v <;> simp [AV.lay, AV.atom] at h
    simp only [AV.get] at hg ⊢
    exact AV.gets_lay us _ i p c h hg
  | .comp us, v, .idx i :: p, c, h, hg => by
    cases v <;> simp [AV.lay, AV.atom] at h
    simp only [AV.get] at hg ⊢
    exact AV.gets_lay us _ i p c h hg
  | .ptr _ _, _, _ :: _, _, _, hg | .nilp, _, _ :: _, _, _, hg | .slice _, _, _ :: _, _, _, hg | .nils, _, _ :: _, _, _, hg | .fn _ _, _, _ :: _, _, _, hg | .nilf, _, _ :: _, _, _, hg
  | .tup _, _, _ :: _, _, _, hg | .elem _ _, _, _ :: _, _, _, hg | .undef, _, _ :: _, _, _, hg => by simp [AV.get] at hg
theorem AV.gets_lay : ∀ (us vs : List AV) (i : Nat) (p : List Step) (c : AV), AV.lays us vs = true → AV.gets us i p = some c → ∃ d, AV.gets vs i p = some d ∧ c.lay d = true
  | [], _, _, _, _, _, hg => by simp [AV.gets] at hg
  | u :: us, vs, i, p, c, h, hg => by
    cases vs with
    | nil => simp [AV.lays] at h
    | cons v vs =>
      simp only [AV.lays, Bool.and_eq_true] at h
      cases i with
      | zero => simp only [AV.gets] at hg ⊢; exact AV.get_lay u v p c h.1 hg
      | succ i => simp only [AV.gets] at hg ⊢; exact AV.gets_lay us vs i p c h.2 hg
end

theorem Blk.get_lay {a b : Blk} (h : a.lay b = true) {p : List Step} {c : AV} (hg : a.get p = some c) : ∃ d, b.get p = some d ∧ c.lay d = true := by
  cases a <;> cases b <;> simp [Blk.lay] at h <;> simp only [Blk.get] at hg ⊢
  · exact AV.get_lay _ _ _ _ h hg
  · obtain ⟨rfl, hl⟩ := h
    rcases p with _ | ⟨_ | i, p⟩ <;> simp at hg ⊢
    rename_i t l m
    obtain ⟨s, a, b, rfl, hb⟩ := Ty.get_lay t p _ (m[i]?.getD t.dflt) c hg
    exact ⟨_, hb, by simp [AV.lay]⟩
  · cases hg
  · cases hg

theorem Blk.lay_symm {a b : Blk} (h : a.lay b = true) : b.lay a = true := by
  cases a <;> cases b <;> simp [Blk.lay] at h ⊢
  · exact AV.lay_symm _ _ h
  · exact ⟨h.1.symm, h.2.symm⟩

theorem AV.get_like {u v : AV} (h : Like u v) {p : List Step} {c : AV} (hg : u.get p = some c) : ∃ d, v.get p = some d ∧ Like c d := by
  rcases h with rfl | h
  · exact ⟨c, hg, .inl rfl⟩
  · obtain ⟨d, h1, h2⟩ := AV.get_lay _ _ _ _ h hg
    exact ⟨d, h1, .inr h2⟩

def BLike (a b : Blk) : Prop := a = b ∨ a.lay b = true

theorem Blk.get_like {a b : Blk} (h : BLike a b) {p : List Step} {c : AV} (hg : a.get p = some c) : ∃ d, b.get p = some d ∧ Like c d := by
  rcases h with rfl | h
  · exact ⟨c, hg, .inl rfl⟩
  · obtain ⟨d, h1, h2⟩ := Blk.get_lay h hg
    exact ⟨d, h1, .inr h2⟩

/-- Memories that are laid out alike. -/
def LayM (mem mem' : Mem) : Prop := ∀ (id : Nat) b, mem[id]? = some b → ∃ b', mem'[id]? = some b' ∧ BLike b b'

theorem fieldAddrK_lay {mem mem' : Mem} (hm : LayM mem mem') {s : TypeId} {a : AV} {i : Nat} {v : AV} (h : fieldAddrK T s a i mem some = some v) : fieldAddrK T s a i mem' some = some v := by
  cases a with
  | ptr id p =>
    unfold fieldAddrK at h ⊢
    split at h <;> try cases h
    split at h <;> try cases h
    rename_i ft off hf
    simp only at h
    cases hb : mem[id]? with
    | none => simp [hb] at h
    | some b =>
      obtain ⟨b', hb', hl⟩ := hm id b hb
      simp only [hb] at h
      cases hu : b.get p with
      | none => simp [hu] at h
      | some u =>
        obtain ⟨u', hu', hlu⟩ := Blk.get_like hl hu
        simp only [hu] at h
        cases hc : u.get [.fld i] with
        | none => simp [hc] at h
        | some c =>
          obtain ⟨c', hc', hlc⟩ := AV.get_like hlu hc
          simp only [hc] at h
          have h1 := hlu.same.2.2 [.fld i]
          have h2 := hlc.same.1
          simp only [hf, hb', hu', hc', ← h1.2, ← h2]
          exact h
  | _ => simpa [fieldAddrK] using h

theorem AV.lays_length : ∀ (us vs : List AV), AV.lays us vs = true → us.length = vs.length ∧ (us.all (fun v => v.size == 1) = vs.all (fun v => v.size == 1))
  | [], vs, h => by cases vs <;> simp [AV.lays] at h ⊢
  | u :: us, vs, h => by
    cases vs with
    | nil => simp [AV.lays] at h
    | cons v vs =>
      simp only [AV.lays, Bool.and_eq_true] at h
      obtain ⟨h1, h2⟩ := AV.lays_length us vs h.2
      exact ⟨by simp [h1], by simp [h2, (AV.lay_same _ _ h.1).1]⟩

theorem indexAddrK_lay {mem mem' : Mem} (hm : LayM mem mem') {t : TypeId} {a ix : AV} {v : AV} (h : indexAddrK T t a ix mem some = some v) : indexAddrK T t a ix mem' some = some v := by
  unfold indexAddrK at h ⊢
  split at h <;> try cases h
  split at h <;> try cases h
  · rename_i n e htd
    split at h <;> try cases h
    rename_i id p
    cases hb : mem[id]? with
    | none => simp [hb] at h
    | some b =>
      obtain ⟨b', hb', hl⟩ := hm id b hb
      simp only [hb] at h
      simp only [htd, hb']
      cases hu : b.get p with
      | none => simp [hu] at h
      | some u =>
        obtain ⟨u', hu', hlu⟩ := Blk.get_like hl hu
        simp only [hu] at h
        simp only [hu']
        rcases hlu with rfl | hlu
        · exact h
        cases u with
        | val s x =>
          cases s <;> simp only at h <;> try cases h
          cases u' with
          | val s' y =>
            simp only [AV.lay, Bool.or_eq_true, decide_eq_true_eq, Bool.and_eq_true, Ty.agg] at hlu
            simp at hlu
            subst hlu
            exact h
          | _ => simp [AV.lay, AV.atom, Ty.agg] at hlu
        | comp fs =>
          cases u' <;> simp [AV.lay, AV.atom] at hlu
          obtain ⟨h1, h2⟩ := AV.lays_length _ _ hlu
          simp only at h ⊢
          rw [← h1, ← h2]
          exact h
        | _ => simp at h
  · rename_i e htd
    split at h <;> try cases h
    · rename_i id
      cases hb : mem[id]? with
      | none => simp [hb] at h
      | some b =>
        obtain ⟨b', hb', hl⟩ := hm id b hb
        rcases hl with rfl | hl
        · simp only [hb] at h
          simp only [htd, hb']
          exact h
        cases b <;> simp only [hb] at h <;> try cases h
        cases b' <;> simp [Blk.lay] at hl
        obtain ⟨rfl, hll⟩ := hl
        simp only [htd, hb', ← hll]
        exact h
    · exact h

end
end Am

/- THE ABSTRACT MACHINE: two operations that may change places. -/
namespace Am
open Go

section
variable {R : Type} {T : TypeId → TRow} {Γ : FuncId → Option Summ}

theorem mapM_of {z : Option AV} {x : (AV → Option (AV × Mem)) → Option (AV × Mem)} (hx : ∀ k, x k = z.bind k) (mem : Mem) : (x fun v => some (v, mem)) = z.map fun v => (v, mem) := by
  rw [hx]; cases z <;> rfl

def FreeAt (x : Mem → Option (AV × Mem)) : Prop := ∀ mem mem', (x mem = none ∧ x mem' = none) ∨ ∃ v, x mem = some (v, mem) ∧ x mem' = some (v, mem')

theorem free_of {x : Mem → Option (AV × Mem)} {z : Option AV} (h : ∀ mem, x mem = z.map fun v => (v, mem)) : FreeAt x := by
  intro mem mem'
  rw [h, h]
  cases z with
  | none => exact .inl ⟨rfl, rfl⟩
  | some v => exact .inr ⟨v, rfl, rfl⟩

/-- An operation of no class has nothing of memory. -/
theorem opD_none (hΓ : GNat Γ) {o : Op} (hc : opCls T Γ o = .none) (ev : Operand → AV) (hev : ∀ f, ev (.func f) = .fn f []) : FreeAt (opD T Γ o ev) := by
  cases o with
  | move x => exact free_of (z := some (ev x)) fun _ => rfl
  | assign x => exact free_of (z := some (ev x)) fun _ => rfl
  | pick c a b =>
    intro mem mem'
    simp only [opD, opK]
    split
    · split
      · exact .inr ⟨_, rfl, rfl⟩
      · rename_i t _ _ _ _; cases t <;> exact .inr ⟨_, rfl, rfl⟩
    · exact .inl ⟨rfl, rfl⟩
  | build t ps => exact free_of fun mem => mapM_of (buildK_nat _ _) mem
  | nilCheck x =>
    intro mem mem'
    simp only [opD, opK]
    split <;> first | exact .inl ⟨rfl, rfl⟩ | exact .inr ⟨_, rfl, rfl⟩
  | binOp op t x y u => exact free_of fun mem => mapM_of (binK_nat _ _ _ _) mem
  | unOp op t x => exact free_of fun mem => mapM_of (unK_nat _ _) mem
  | makeFunc fn first caps =>
    cases fn with
    | func f =>
      intro mem mem'
      simp only [opD, opK]
      split <;> first | exact .inl ⟨rfl, rfl⟩ | exact .inr ⟨_, rfl, rfl⟩
    | _ => exact free_of (z := none) fun _ => rfl
  | field s x i => exact free_of fun mem => mapM_of (fieldK_nat _ _ _) mem
  | index t x i => exact free_of fun mem => mapM_of (indexK_nat _ _ _) mem
  | extract t i =>
    intro mem mem'
    simp only [opD, opK]
    split
    · split <;> first | exact .inl ⟨rfl, rfl⟩ | exact .inr ⟨_, rfl, rfl⟩
    · exact .inl ⟨rfl, rfl⟩
  | slice t x lo hi mx =>
    simp only [opCls] at hc
    split at hc <;> try cases hc
    rename_i htd
    have key : ∀ (v : AV) (lo hi mx : Option AV), ∃ z : Option AV, ∀ mem, (sliceK T t v lo hi mx mem fun v m => some (v, m)) = z.map fun v => (v, mem) := by
      intro v lo hi mx
      cases v with
      | val s y =>
        cases s with
        | str =>
          have none1 : ∀ lo hi mx, (∀ (a : Int) (b : Int) k1 k2, ¬ (lo = some (.val (.int k1) a) ∧ hi = some (.val (.int k2) b) ∧ mx = none)) → (∀ (b : Int) k2, ¬ (lo = none ∧ hi = some (.val (.int k2) b) ∧ mx = none)) →
              (∀ (a : Int) k1, ¬ (lo = some (.val (.int k1) a) ∧ hi = none ∧ mx = none)) → ∃ z : Option AV, ∀ mem, (sliceK T t (.val .str y) lo hi mx mem fun v m => some (v, m)) = z.map fun v => (v, mem) := by
            intro lo hi mx h1 h2 h3
            refine ⟨none, fun mem => ?_⟩
            unfold sliceK
            rw [htd]
            split
            · exact absurd ⟨rfl, rfl, rfl⟩ (h1 _ _ _ _)
            · exact absurd ⟨rfl, rfl, rfl⟩ (h2 _ _)
            · exact absurd ⟨rfl, rfl, rfl⟩ (h3 _ _)
            · rename_i hh _; cases hh
            · rfl
          by_cases hA : ∃ (a b : Int) (k1 k2 : IntKind), lo = some (.val (.int k1) a) ∧ hi = some (.val (.int k2) b) ∧ mx = none
          · obtain ⟨a, b, k1, k2, rfl, rfl, rfl⟩ := hA
            refine ⟨sliceStrK y a b some, fun mem => ?_⟩
            unfold sliceK
            rw [htd]
            exact mapM_of (sliceStrK_nat _ _ _) mem
          · by_cases hB : ∃ (b : Int) (k2 : IntKind), lo = none ∧ hi = some (.val (.int k2) b) ∧ mx = none
            · obtain ⟨b, k2, rfl, rfl, rfl⟩ := hB
              refine ⟨sliceStrK y 0 b some, fun mem => ?_⟩
              unfold sliceK
              rw [htd]
              exact mapM_of (sliceStrK_nat _ _ _) mem
            · by_cases hC : ∃ (a : Int) (k1 : IntKind), lo = some (.val (.int k1) a) ∧ hi = none ∧ mx = none
              · obtain ⟨a, k1, rfl, rfl, rfl⟩ := hC
                refine ⟨sliceStrK y a (ByteArray.size y) some, fun mem => ?_⟩
                unfold sliceK
                rw [htd]
                exact mapM_of (sliceStrK_nat _ _ _) mem
              · exact none1 lo hi mx (fun a b k1 k2 h => hA ⟨a, b, k1, k2, h⟩) (fun b k2 h => hB ⟨b, k2, h⟩) (fun a k1 h => hC ⟨a, k1, h⟩)
        | _ =>
          refine ⟨none, fun mem => ?_⟩
          unfold sliceK
          rw [htd]
          rfl
      | _ =>
        refine ⟨none, fun mem => ?_⟩
        unfold sliceK
        rw [htd]
        rfl
    obtain ⟨z, hz⟩ := key (ev x) (lo.map ev) (hi.map ev) (mx.map ev)
    exact free_of hz
  | call c =>
    simp only [opCls] at hc
    cases hcal : c.callee with
    | builtin b =>
      rw [hcal] at hc
      cases b <;> simp at hc
      have h0 : ∀ mem, opD T Γ (.call c) ev mem = builtinK T .max c.argTypes.toList (c.args.toList.map ev) mem fun v m => some (v, m) := by
        intro mem; simp only [opD, opK, hcal]
      rw [funext h0]
      generalize c.args.toList.map ev = vs
      match vs with
      | [x, y] => exact free_of fun mem => mapM_of (maxK_nat x y) mem
      | [] => exact free_of (z := none) fun _ => rfl
      | [_] => exact free_of (z := none) fun _ => rfl
      | _ :: _ :: _ :: _ => exact free_of (z := none) fun _ => rfl
    | value f =>
      rw [hcal] at hc
      cases f <;> simp at hc
      rename_i f
      split at hc <;> try cases hc
      rename_i S hS
      split at hc <;> try cases hc
      rename_i hcls
      intro mem mem'
      simp only [opD, opK, hcal, hev, hS]
      by_cases hx : ∃ mem v m, (S.run (c.args.toList.map ev ++ []) mem fun v m => some (v, m)) = some (v, m)
      · obtain ⟨mem0, v, m, hx⟩ := hx
        obtain ⟨_, h2⟩ := hΓ.pure _ _ hS hcls _ _ _ _ hx
        exact .inr ⟨v, h2 mem, h2 mem'⟩
      · refine .inl ⟨?_, ?_⟩
        · cases hr : (S.run (c.args.toList.map ev ++ []) mem fun v m => some (v, m)) with
          | none => rfl
          | some p => exact absurd ⟨mem, p.1, p.2, hr⟩ hx
        · cases hr : (S.run (c.args.toList.map ev ++ []) mem' fun v m => some (v, m)) with
          | none => rfl
          | some p => exact absurd ⟨mem', p.1, p.2, hr⟩ hx
    | invoke r m => rw [hcal] at hc; cases hc
  | _ => simp [opCls] at hc

/-- What reads memory, and what asks how it is laid out. -/
theorem opD_read {o : Op} (hc : opCls T Γ o = .read ∨ opCls T Γ o = .addr) {ev : Operand → AV} {mem : Mem} {v : AV} {m : Mem} (h : opD T Γ o ev mem = some (v, m)) :
    m = mem ∧ (∀ new, opD T Γ o ev (mem ++ new) = some (v, mem ++ new)) ∧
    (∀ mem0 new, mem = mem0 ++ new → (∀ x ∈ o.operands.toList, Scoped mem0.length (ev x)) → opD T Γ o ev mem0 = some (v, mem0)) ∧
    (opCls T Γ o = .addr → ∀ mem', LayM mem mem' → opD T Γ o ev mem' = some (v, mem')) := by
  -- by one operand's block
  have key : ∀ (a : AV) (x : Mem → (AV → Option (AV × Mem)) → Option (AV × Mem)) (z : Mem → (AV → Option AV) → Option AV), (∀ mem k, x mem k = (z mem some).bind k) →
      (∀ mem k r, z mem k = some r → Scoped mem.length a) → (∀ mem mem' k, Agree mem mem' a → z mem' k = z mem k) → (x mem fun v => some (v, mem)) = some (v, m) →
      m = mem ∧ (∀ new, (x (mem ++ new) fun v => some (v, mem ++ new)) = some (v, mem ++ new)) ∧
      (∀ mem0 new, mem = mem0 ++ new → Scoped mem0.length a → (x mem0 fun v => some (v, mem0)) = some (v, mem0)) ∧ z mem some = some v := by
    intro a x z hx hs ha h
    rw [hx] at h
    cases hz : z mem some with
    | none => rw [hz] at h; cases h
    | some u =>
      rw [hz] at h
      cases h
      refine ⟨rfl, ?_, ?_, rfl⟩
      · intro new
        rw [hx, ha mem (mem ++ new) some (hs _ _ _ hz).agree, hz]; rfl
      · rintro mem0 new rfl h0
        rw [hx, ← ha mem0 (mem0 ++ new) some h0.agree, hz]; rfl
  cases o with
  | load t x =>
    obtain ⟨h1, h2, h3, _⟩ := key (ev x) (fun mem k => loadK T t (ev x) mem k) (fun mem k => loadK T t (ev x) mem k) (fun mem k => loadK_nat _ _ _ k) (fun mem k r h => loadK_scoped h) (fun mem mem' k ha => loadK_agree _ _ ha k) h
    exact ⟨h1, h2, fun mem0 new he hs => h3 mem0 new he (hs x (by simp [Op.operands])), fun hc => by simp [opCls] at hc⟩
  | convert s d x =>
    obtain ⟨h1, h2, h3, _⟩ := key (ev x) (fun mem k => convK T s d (ev x) mem k) (fun mem k => convK T s d (ev x) mem k) (fun mem k => convK_nat _ _ _ _ k) (fun mem k r h => convK_scoped h) (fun mem mem' k ha => convK_agree _ _ _ ha k) h
    exact ⟨h1, h2, fun mem0 new he hs => h3 mem0 new he (hs x (by simp [Op.operands])), fun hc => by simp [opCls] at hc⟩
  | fieldAddr s x i =>
    obtain ⟨h1, h2, h3, h4⟩ := key (ev x) (fun mem k => fieldAddrK T s (ev x) i mem k) (fun mem k => fieldAddrK T s (ev x) i mem k) (fun mem k => fieldAddrK_nat _ _ _ _ k) (fun mem k r h => fieldAddrK_scoped h) (fun mem mem' k ha => fieldAddrK_agree _ _ _ ha k) h
    refine ⟨h1, h2, fun mem0 new he hs => h3 mem0 new he (hs x (by simp [Op.operands])), fun _ mem' hm => ?_⟩
    show (fieldAddrK T s (ev x) i mem' fun v => some (v, mem')) = _
    rw [fieldAddrK_nat, fieldAddrK_lay hm h4]; rfl
  | indexAddr t x i =>
    obtain ⟨h1, h2, h3, h4⟩ := key (ev x) (fun mem k => indexAddrK T t (ev x) (ev i) mem k) (fun mem k => indexAddrK T t (ev x) (ev i) mem k) (fun mem k => indexAddrK_nat _ _ _ _ k) (fun mem k r h => indexAddrK_scoped h) (fun mem mem' k ha => indexAddrK_agree _ _ _ ha k) h
    refine ⟨h1, h2, fun mem0 new he hs => h3 mem0 new he (hs x (by simp [Op.operands])), fun _ mem' hm => ?_⟩
    show (indexAddrK T t (ev x) (ev i) mem' fun v => some (v, mem')) = _
    rw [indexAddrK_nat, indexAddrK_lay hm h4]; rfl
  | call c =>
    simp only [opCls] at hc
    cases hcal : c.callee with
    | builtin b =>
      rw [hcal] at hc
      cases b <;> simp at hc
      have h0 : ∀ mem, opD T Γ (.call c) ev mem = builtinK T .len c.argTypes.toList (c.args.toList.map ev) mem fun v m => some (v, m) := by
        intro mem; simp only [opD, opK, hcal]
      rw [h0] at h
      simp only [h0]
      have hargs : ∀ x ∈ c.args.toList, x ∈ (Op.call c).operands.toList := by
        intro x hx
        simp only [Op.operands, Call.operands, hcal]
        simpa using hx
      cases hts : c.argTypes.toList with
      | nil => rw [hts] at h; simp [builtinK] at h
      | cons t ts =>
        cases hvs : c.args.toList with
        | nil => rw [hts, hvs] at h; simp [builtinK] at h
        | cons x xs =>
          cases xs with
          | nil =>
            rw [hts, hvs] at h
            obtain ⟨h1, h2, h3, _⟩ := key (ev x) (fun mem k => lenK (T t) (ev x) mem k) (fun mem k => lenK (T t) (ev x) mem k) (fun mem k => lenK_nat _ _ _ k) (fun mem k r h => lenK_scoped h) (fun mem mem' k ha => lenK_agree _ _ ha k) h
            exact ⟨h1, h2, fun mem0 new he hs => h3 mem0 new he (hs x (hargs x (by simp [hvs]))), fun hc => by simp [opCls, hcal] at hc⟩
          | cons y ys => rw [hts, hvs] at h; cases ts <;> cases ys <;> simp [builtinK] at h
    | value f =>
      rw [hcal] at hc
      cases f <;> simp at hc
      split at hc <;> try (simp at hc; done)
      split at hc <;> simp at hc
    | invoke r m => rw [hcal] at hc; simp at hc
  | slice t x lo hi mx => simp only [opCls] at hc; split at hc <;> simp at hc
  | _ => simp [opCls] at hc

/-- What makes a block more. -/
theorem opD_make (hΓ : GNat Γ) {o : Op} (hc : opCls T Γ o = .make) {ev : Operand → AV} (hev : ∀ f, ev (.func f) = .fn f []) {mem : Mem} {v : AV} {m : Mem} (h : opD T Γ o ev mem = some (v, m)) : ∃ new, m = mem ++ new := by
  cases o with
  | alloc t =>
    simp only [opD, opK] at h
    split at h <;> try cases h
    split at h <;> cases h
    exact ⟨_, rfl⟩
  | box t x =>
    simp only [opD, opK] at h
    split at h <;> cases h
    exact ⟨_, rfl⟩
  | call c =>
    simp only [opCls] at hc
    cases hcal : c.callee with
    | builtin b => rw [hcal] at hc; cases b <;> simp at hc
    | value f =>
      rw [hcal] at hc
      cases f <;> simp at hc
      rename_i f
      split at hc <;> try cases hc
      rename_i S hS
      split at hc <;> try cases hc
      rename_i hcls
      simp only [opD, opK, hcal, hev, hS] at h
      exact hΓ.make _ _ hS hcls _ _ _ _ h
    | invoke r m => rw [hcal] at hc; simp at hc
  | slice t x lo hi mx => simp only [opCls] at hc; split at hc <;> simp at hc
  | _ => simp [opCls] at hc

/-- What stores. -/
theorem opD_store {o : Op} (hc : opCls T Γ o = .store) {ev : Operand → AV} {mem : Mem} {v : AV} {m : Mem} (h : opD T Γ o ev mem = some (v, m)) : LayM mem m ∧ LayM m mem := by
  cases o with
  | store t x y =>
    simp only [opD, opK, storeK] at h
    split at h <;> try cases h
    split at h <;> try cases h
    rename_i b hb
    split at h <;> try cases h
    split at h <;> try cases h
    rename_i b' hb'
    split at h <;> cases h
    rename_i hl
    replace hl := Blk.layS_lay hb' hl
    have hlt := (List.getElem?_eq_some_iff.1 hb).1
    refine ⟨fun i c hc => ?_, fun i c hc => ?_⟩
    · rw [List.getElem?_set]
      split
      · rename_i he
        subst he
        rw [hb] at hc
        cases hc
        exact ⟨_, rfl, .inr hl⟩
      · exact ⟨_, hc, .inl rfl⟩
    · rw [List.getElem?_set] at hc
      split at hc
      · rename_i he
        subst he
        cases hc
        exact ⟨_, hb, .inr (Blk.lay_symm hl)⟩
      · exact ⟨_, hc, .inl rfl⟩
  | call c =>
    simp only [opCls] at hc
    cases hcal : c.callee with
    | builtin b => rw [hcal] at hc; cases b <;> simp at hc
    | value f =>
      rw [hcal] at hc
      cases f <;> simp at hc
      split at hc <;> try (simp at hc; done)
      split at hc <;> simp at hc
    | invoke r m => rw [hcal] at hc; simp at hc
  | slice t x lo hi mx => simp only [opCls] at hc; split at hc <;> simp at hc
  | _ => simp [opCls] at hc

end
end Am

/- THE ABSTRACT MACHINE: regions that leave their order open. -/
namespace Am
open Go

section
variable {R : Type} {T : TypeId → TRow} {Γ : FuncId → Option Summ}

theorem opK_congr (o : Op) {ev ev' : Operand → AV} (h : ∀ x ∈ o.operands.toList, ev x = ev' x) (mem : Mem) (k : AV → Mem → Option R) : opK T Γ o ev mem k = opK T Γ o ev' mem k := by
  have pairs : ∀ ps : Array (Nat × Operand), (∀ x ∈ ps.toList.map (·.2), ev x = ev' x) → (ps.toList.map fun p => (p.1, ev p.2)) = (ps.toList.map fun p => (p.1, ev' p.2)) := by
    intro ps hp
    apply List.map_congr_left
    intro p hm
    rw [hp p.2 (List.mem_map.2 ⟨p, hm, rfl⟩)]
  cases o with
  | build t ps => simp only [opK]; rw [pairs ps (fun x hx => h x (by simpa [Op.operands] using hx))]
  | buildSlice t n ps => simp only [opK]; rw [pairs ps (fun x hx => h x (by simpa [Op.operands] using hx))]
  | makeFunc fn first caps =>
    cases fn <;> simp only [opK]
    rw [List.map_congr_left fun x hx => h x (by simp [Op.operands]; exact .inr (by simpa using hx))]
  | slice t x lo hi mx =>
    simp only [opK]
    rw [h x (by simp [Op.operands])]
    have e1 : lo.map ev = lo.map ev' := by
      cases lo with
      | none => rfl
      | some y => simp only [Option.map_some]; rw [h y (by simp [Op.operands])]
    have e2 : hi.map ev = hi.map ev' := by
      cases hi with
      | none => rfl
      | some y => simp only [Option.map_some]; rw [h y (by simp [Op.operands])]
    have e3 : mx.map ev = mx.map ev' := by
      cases mx with
      | none => rfl
      | some y => simp only [Option.map_some]; rw [h y (by simp [Op.operands])]
    rw [e1, e2, e3]
  | call c =>
    have ha : c.args.toList.map ev = c.args.toList.map ev' := by
      apply List.map_congr_left
      intro x hx
      refine h x ?_
      simp only [Op.operands, Call.operands]
      cases c.callee <;> simp <;> simp_all
    simp only [opK]
    cases hcal : c.callee with
    | builtin b => simp only [ha]
    | value f =>
      have hf : ev f = ev' f := h f (by simp [Op.operands, Call.operands, hcal])
      simp only [hf, ha]
    | invoke r m => rfl
  | move x | assign x => simp only [opK]; rw [h x (by simp [Op.operands])]
  | pick c a b => simp only [opK]; rw [h c (by simp [Op.operands]), h a (by simp [Op.operands]), h b (by simp [Op.operands])]
  | box t x => simp only [opK]; rw [h x (by simp [Op.operands])]
  | load t x => simp only [opK]; rw [h x (by simp [Op.operands])]
  | store t x y => simp only [opK]; rw [h x (by simp [Op.operands]), h y (by simp [Op.operands])]
  | nilCheck x => simp only [opK]; rw [h x (by simp [Op.operands])]
  | binOp op t x y u => simp only [opK]; rw [h x (by simp [Op.operands]), h y (by simp [Op.operands])]
  | unOp op t x => simp only [opK]; rw [h x (by simp [Op.operands])]
  | convert s d x => simp only [opK]; rw [h x (by simp [Op.operands])]
  | fieldAddr s x i => simp only [opK]; rw [h x (by simp [Op.operands])]
  | field s x i => simp only [opK]; rw [h x (by simp [Op.operands])]
  | indexAddr t x i => simp only [opK]; rw [h x (by simp [Op.operands]), h i (by simp [Op.operands])]
  | index t x i => simp only [opK]; rw [h x (by simp [Op.operands]), h i (by simp [Op.operands])]
  | range t x => simp only [opK]; rw [h x (by simp [Op.operands])]
  | next it b => cases b <;> simp only [opK]; rw [h it (by simp [Op.operands])]
  | extract t i => simp only [opK]; rw [h t (by simp [Op.operands])]
  | _ => rfl

def wantV (want : Bool) : AV → Option Bool
  | .val .bool b => some (b == want)
  | .tup [] => some false
  | _ => none

theorem wantV_none {want : Bool} {v : AV} (h1 : ∀ b, v = .val .bool b → False) (h2 : v = .tup [] → False) : wantV want v = none := by
  unfold wantV
  split
  · exact (h1 _ rfl).elim
  · exact (h2 rfl).elim
  · rfl

def wantedA (ops : List Oper) (o : Oper) (fr : List AV) : Option Bool :=
  match o.guard with
  | none => some true
  | some (j, want) => match (ops[j]?).bind (·.dst) with
    | none => none
    | some d => wantV want (fr.getD d .undef)

def stepD (T : TypeId → TRow) (Γ : FuncId → Option Summ) (ops : List Oper) (i : Nat) (st : St) : Option St :=
  match ops[i]? with
  | none => none
  | some o => match wantedA ops o st.fr with
    | none => none
    | some true => (opD T Γ o.op (St.ev st.fr) st.mem).map fun p => St.put ⟨st.fr, p.2⟩ o.dst p.1
    | some false => some (St.put st o.dst (.tup []))

theorem set_self {fr : List AV} {d : Nat} {b : Bool} (hd : fr.getD d .undef = .val .bool b) : fr.set d (.val .bool b) = fr := by
  have hfd : fr[d]? = some (.val .bool b) := by
    rw [List.getD] at hd
    cases hq : fr[d]? with
    | none => rw [hq] at hd; cases hd
    | some x => rw [hq] at hd; simp at hd; rw [hd]
  apply List.ext_getElem?
  intro i
  rw [List.getElem?_set]
  split
  · rename_i he
    subst he
    rw [if_pos (List.getElem?_eq_some_iff.1 hfd).1, hfd]
  · rfl

theorem stepK_eq (hΓ : GNat Γ) (ops : List Oper) (i : Nat) (st : St) (k : St → Option R) : stepK T Γ ops i st k = (stepD T Γ ops i st).bind k := by
  have run : ∀ (o : Oper), opK T Γ o.op (St.ev st.fr) st.mem (fun v mem => k (St.put ⟨st.fr, mem⟩ o.dst v)) = ((opD T Γ o.op (St.ev st.fr) st.mem).map fun p => St.put ⟨st.fr, p.2⟩ o.dst p.1).bind k := by
    intro o
    rw [opK_nat hΓ]
    cases opD T Γ o.op (St.ev st.fr) st.mem <;> rfl
  unfold stepK stepD
  cases ops[i]? with
  | none => rfl
  | some o =>
    simp only [wantedA]
    cases hg : o.guard with
    | none => exact run o
    | some g =>
      obtain ⟨j, want⟩ := g
      simp only
      cases (ops[j]?).bind (·.dst) with
      | none => rfl
      | some d =>
        simp only
        split
        · rename_i b hb
          have hs := set_self hb
          rw [hb]
          cases want <;> cases b <;> simp only [wantV, beq_self_eq_true, Bool.false_eq_true, if_false, if_true, cond_true, cond_false, hs] <;> first | exact run o | rfl
        · rename_i hb
          rw [hb]
          rfl
        · rename_i h1 h2
          rw [wantV_none h1 h2]
          rfl

def runD (T : TypeId → TRow) (Γ : FuncId → Option Summ) (ops : List Oper) : List Nat → St → Option St
  | [], st => some st
  | i :: l, st => (stepD T Γ ops i st).bind (runD T Γ ops l)

theorem opsK_eq (hΓ : GNat Γ) (ops : List Oper) : ∀ (l : List Nat) (st : St) (k : St → Option R), opsK T Γ ops l st k = (runD T Γ ops l st).bind k
  | [], st, k => rfl
  | i :: l, st, k => by
    simp only [opsK, runD, stepK_eq hΓ]
    cases stepD T Γ ops i st with
    | none => rfl
    | some st' => exact opsK_eq hΓ ops l st' k

/-- Two operations that may change places, in memory. -/
theorem mem_swap (hΓ : GNat Γ) {x y : Op} (hc : MC.apart (opCls T Γ x) (opCls T Γ y) = true) {ev ev' : Operand → AV} (hev : ∀ f, ev (.func f) = .fn f []) (hev' : ∀ f, ev' (.func f) = .fn f []) {mem m1 m2 : Mem} {u v : AV}
    (h1 : opD T Γ x ev mem = some (u, m1)) (h2 : opD T Γ y ev' m1 = some (v, m2)) (hsc : opCls T Γ y = .none ∨ ∀ z ∈ y.operands.toList, Scoped mem.length (ev' z)) :
    ∃ m1', opD T Γ y ev' mem = some (v, m1') ∧ opD T Γ x ev m1' = some (u, m2) := by
  by_cases hx : opCls T Γ x = .none
  · have hf := opD_none hΓ hx ev hev
    rcases hf mem mem with ⟨h, _⟩ | ⟨u', h, _⟩
    · rw [h] at h1; cases h1
    rw [h] at h1
    cases h1
    refine ⟨m2, h2, ?_⟩
    rcases hf mem m2 with ⟨h', _⟩ | ⟨u', h', h''⟩
    · rw [h'] at h; cases h
    rw [h'] at h
    cases h
    exact h''
  by_cases hy : opCls T Γ y = .none
  · have hf := opD_none hΓ hy ev' hev'
    rcases hf m1 mem with ⟨h, _⟩ | ⟨v', h, h'⟩
    · rw [h] at h2; cases h2
    rw [h] at h2
    cases h2
    exact ⟨mem, h', h1⟩
  have readj : opCls T Γ x = .read ∨ opCls T Γ x = .addr → ∃ m1', opD T Γ y ev' mem = some (v, m1') ∧ opD T Γ x ev m1' = some (u, m2) := by
    intro hxc
    obtain ⟨rfl, r1, r2, r3⟩ := opD_read hxc h1
    refine ⟨m2, h2, ?_⟩
    cases hyc : opCls T Γ y with
    | none => exact absurd hyc hy
    | addr => obtain ⟨rfl, _⟩ := opD_read (.inr hyc) h2; exact h1
    | read => obtain ⟨rfl, _⟩ := opD_read (.inl hyc) h2; exact h1
    | make => obtain ⟨new, rfl⟩ := opD_make hΓ hyc hev' h2; exact r1 new
    | store =>
      have := (opD_store hyc h2).1
      rcases hxc with hxc | hxc
      · rw [hxc, hyc] at hc; simp [MC.apart] at hc
      · exact r3 hxc _ this
    | wild => rcases hxc with hxc | hxc <;> rw [hxc, hyc] at hc <;> simp [MC.apart] at hc
  cases hxc : opCls T Γ x with
  | none => exact absurd hxc hx
  | addr => exact readj (.inr hxc)
  | read => exact readj (.inl hxc)
  | make =>
    obtain ⟨new, rfl⟩ := opD_make hΓ hxc hev h1
    have hyr : opCls T Γ y = .read ∨ opCls T Γ y = .addr := by
      rw [hxc] at hc
      cases hyc : opCls T Γ y <;> rw [hyc] at hc <;> simp [MC.apart] at hc
      · exact absurd hyc hy
      · exact .inr rfl
      · exact .inl rfl
    obtain ⟨rfl, _, r2, _⟩ := opD_read hyr h2
    exact ⟨mem, r2 mem new rfl (hsc.resolve_left hy), h1⟩
  | store =>
    have hyr : opCls T Γ y = .addr := by
      rw [hxc] at hc
      cases hyc : opCls T Γ y <;> rw [hyc] at hc <;> simp [MC.apart] at hc
      · exact absurd hyc hy
    obtain ⟨rfl, _, _, r3⟩ := opD_read (.inr hyr) h2
    exact ⟨mem, r3 hyr _ (opD_store hxc h1).2, h1⟩
  | wild => rw [hxc] at hc; cases hyc : opCls T Γ y <;> rw [hyc] at hc <;> simp [MC.apart] at hc; exact absurd hyc hy

theorem St.ev_func (fr : List AV) (f : FuncId) : St.ev fr (.func f) = .fn f [] := rfl

theorem getD_put {st : St} {d : Option Nat} {v : AV} {i : Nat} (h : ∀ e, d = some e → e ≠ i) : (St.put st d v).fr.getD i .undef = st.fr.getD i .undef := by
  cases d with
  | none => rfl
  | some d => simp only [St.put, List.getD, List.getElem?_set_ne (h d rfl)]

theorem ev_put {st : St} {d : Option Nat} {v : AV} {x : Operand} (h : ∀ e, d = some e → x ≠ .tmp e) : St.ev (St.put st d v).fr x = St.ev st.fr x := by
  cases x with
  | tmp t => exact getD_put (fun e he => by rintro rfl; exact h e he rfl)
  | _ => rfl

theorem slots_spec {ops : List Oper} {x y : Oper} (h : slotsApart ops x y = true) :
    (∀ d, x.dst = some d → d ∉ looksL ops y) ∧ (∀ d, x.dst = some d → y.dst ≠ some d) ∧ (∀ d, y.dst = some d → d ∉ looksL ops x) := by
  refine ⟨fun d hd => ?_, fun d hd => ?_, fun d hd => ?_⟩ <;> simp [slotsApart, hd] at h
  · exact h.1.1
  · exact h.1.2
  · exact h.2

theorem ev_apart {ops : List Oper} {o : Oper} {st : St} {m : Mem} {d : Option Nat} {v : AV} (h : ∀ e, d = some e → e ∉ looksL ops o) : ∀ x ∈ o.op.operands.toList, St.ev (St.put ⟨st.fr, m⟩ d v).fr x = St.ev st.fr x := by
  intro x hx
  refine (ev_put (st := ⟨st.fr, m⟩) (fun e he hxe => ?_))
  refine h e he ?_
  simp only [looksL, List.mem_append, List.mem_filterMap]
  exact .inl ⟨x, hx, by rw [hxe]⟩

theorem wanted_apart {ops : List Oper} {o : Oper} {st : St} {m : Mem} {d : Option Nat} {v : AV} (h : ∀ e, d = some e → e ∉ looksL ops o) : wantedA ops o (St.put ⟨st.fr, m⟩ d v).fr = wantedA ops o st.fr := by
  unfold wantedA
  cases hg : o.guard with
  | none => rfl
  | some g =>
    obtain ⟨j, want⟩ := g
    simp only
    cases hd : (ops[j]?).bind (·.dst) with
    | none => rfl
    | some e =>
      have : (St.put ⟨st.fr, m⟩ d v).fr.getD e .undef = st.fr.getD e .undef := by
        refine getD_put (st := ⟨st.fr, m⟩) (fun e' he' hee => ?_)
        subst hee
        refine h e' he' ?_
        simp only [looksL, hg, hd, List.mem_append]
        exact .inr (by simp)
      simp only [this]

theorem put_put {fr : List AV} {m m' : Mem} {d e : Option Nat} {u v : AV} (h : ∀ x, d = some x → e ≠ some x) : St.put ⟨(St.put ⟨fr, m⟩ d u).fr, m'⟩ e v = St.put ⟨(St.put ⟨fr, m'⟩ e v).fr, m'⟩ d u := by
  cases d with
  | none => cases e <;> rfl
  | some d =>
    cases e with
    | none => rfl
    | some e =>
      have : d ≠ e := fun he => h d rfl (by rw [he])
      simp only [St.put, List.set_comm _ _ this]

/-- What a step does. -/
theorem stepD_some {ops : List Oper} {i : Nat} {st st' : St} (h : stepD T Γ ops i st = some st') :
    ∃ o v m, ops[i]? = some o ∧ st' = St.put ⟨st.fr, m⟩ o.dst v ∧ ((wantedA ops o st.fr = some true ∧ opD T Γ o.op (St.ev st.fr) st.mem = some (v, m)) ∨ (wantedA ops o st.fr = some false ∧ v = .tup [] ∧ m = st.mem)) := by
  unfold stepD at h
  split at h <;> try cases h
  rename_i o ho
  split at h <;> try cases h
  · rename_i hw
    simp only [Option.map_eq_some_iff] at h
    obtain ⟨p, hp, rfl⟩ := h
    exact ⟨o, p.1, p.2, ho, rfl, .inl ⟨hw, hp⟩⟩
  · rename_i hw
    exact ⟨o, _, _, ho, rfl, .inr ⟨hw, rfl, rfl⟩⟩

theorem stepD_mk {ops : List Oper} {i : Nat} {st : St} {o : Oper} {v : AV} {m : Mem} (ho : ops[i]? = some o)
    (h : (wantedA ops o st.fr = some true ∧ opD T Γ o.op (St.ev st.fr) st.mem = some (v, m)) ∨ (wantedA ops o st.fr = some false ∧ v = .tup [] ∧ m = st.mem)) : stepD T Γ ops i st = some (St.put ⟨st.fr, m⟩ o.dst v) := by
  unfold stepD
  rw [ho]
  rcases h with ⟨h1, h2⟩ | ⟨h1, rfl, rfl⟩
  · simp only [h1, h2]; rfl
  · simp only [h1]

theorem lsPair_spec {x y : Op} {a b : Nat} (h : lsPair x y = some (a, b)) : (∃ t u v, x = .load t (.tmp a) ∧ y = .store u (.tmp b) v) ∨ ∃ t u v, x = .store t (.tmp a) v ∧ y = .load u (.tmp b) := by
  unfold lsPair at h
  split at h
  · cases h; exact .inl ⟨_, _, _, rfl, rfl⟩
  · cases h; exact .inr ⟨_, _, _, rfl, rfl⟩
  · cases h

theorem load_frame {t : TypeId} {id : Nat} {p : List Step} {ev : Operand → AV} {x : Operand} (hx : ev x = .ptr id p) {mem m : Mem} {v : AV} (h : opD T Γ (.load t x) ev mem = some (v, m)) {mem' : Mem} (he : mem'[id]? = mem[id]?) : m = mem ∧ opD T Γ (.load t x) ev mem' = some (v, mem') := by
  simp only [opD, opK, loadK, hx] at h ⊢
  rw [he]
  split at h <;> try cases h
  split at h <;> try cases h
  split at h <;> try cases h
  rename_i hc
  refine ⟨rfl, ?_⟩
  rw [if_pos hc]

theorem store_frame {t : TypeId} {id : Nat} {p : List Step} {ev : Operand → AV} {x y : Operand} (hx : ev x = .ptr id p) {mem m : Mem} {v : AV} (h : opD T Γ (.store t x y) ev mem = some (v, m)) : ∃ b, m = mem.set id b := by
  simp only [opD, opK, storeK, hx] at h
  split at h <;> try cases h
  split at h <;> try cases h
  split at h <;> try cases h
  split at h <;> cases h
  exact ⟨_, rfl⟩

/-- A load and a store of blocks that are not the same one. -/
theorem ls_swap {x y : Op} {a b : Nat} (hp : lsPair x y = some (a, b)) {ev ev' : Operand → AV} {i j : Nat} {p q : List Step} (ha : ev (.tmp a) = .ptr i p) (hb : ev' (.tmp b) = .ptr j q) (hij : i ≠ j) {mem m1 m2 : Mem} {u v : AV}
    (h1 : opD T Γ x ev mem = some (u, m1)) (h2 : opD T Γ y ev' m1 = some (v, m2)) : ∃ m1', opD T Γ y ev' mem = some (v, m1') ∧ opD T Γ x ev m1' = some (u, m2) := by
  rcases lsPair_spec hp with ⟨t, t', z, rfl, rfl⟩ | ⟨t, t', z, rfl, rfl⟩
  · obtain ⟨rfl, _⟩ := load_frame ha h1 (rfl : mem[i]? = mem[i]?)
    obtain ⟨c, rfl⟩ := store_frame hb h2
    exact ⟨_, h2, (load_frame ha h1 (mem' := m1.set j c) (by rw [List.getElem?_set_ne (fun h => hij h.symm)])).2⟩
  · obtain ⟨c, rfl⟩ := store_frame ha h1
    obtain ⟨rfl, h3⟩ := load_frame hb h2 (mem' := mem) (by rw [List.getElem?_set_ne hij])
    exact ⟨mem, h3, h1⟩

/-- What lets two operations change places. -/
def Swaps (T : TypeId → TRow) (Γ : FuncId → Option Summ) (x y : Op) (fr : List AV) : Prop :=
  MC.apart (opCls T Γ x) (opCls T Γ y) = true ∨ ∃ a b, lsPair x y = some (a, b) ∧ apartAt fr (a, b) = true

theorem apartAt_spec {fr : List AV} {a b : Nat} (h : apartAt fr (a, b) = true) : ∃ i j p q, fr.getD a .undef = .ptr i p ∧ fr.getD b .undef = .ptr j q ∧ i ≠ j := by
  unfold apartAt at h
  split at h
  · rename_i i p j q h1 h2
    refine ⟨i, j, p, q, h1, h2, ?_⟩
    rintro rfl
    simp at h
  · cases h

theorem mem_swap' (hΓ : GNat Γ) {x y : Op} {fr : List AV} (hc : Swaps T Γ x y fr) {mem m1 m2 : Mem} {u v : AV}
    (h1 : opD T Γ x (St.ev fr) mem = some (u, m1)) (h2 : opD T Γ y (St.ev fr) m1 = some (v, m2)) (hsc : opCls T Γ y = .none ∨ ∀ z ∈ y.operands.toList, Scoped mem.length (St.ev fr z)) :
    ∃ m1', opD T Γ y (St.ev fr) mem = some (v, m1') ∧ opD T Γ x (St.ev fr) m1' = some (u, m2) := by
  rcases hc with hc | ⟨a, b, hp, ha⟩
  · exact mem_swap hΓ hc (fun _ => rfl) (fun _ => rfl) h1 h2 hsc
  · obtain ⟨i, j, p, q, e1, e2, hij⟩ := apartAt_spec ha
    exact ls_swap hp (ev := St.ev fr) (ev' := St.ev fr) e1 e2 hij h1 h2

theorem step_swap (hΓ : GNat Γ) {ops : List Oper} {j i : Nat} {oj oi : Oper} (hj : ops[j]? = some oj) (hi : ops[i]? = some oi) (hs : slotsApart ops oj oi = true)
    {st st1 st2 : St} (hc : Swaps T Γ oj.op oi.op st.fr) (h1 : stepD T Γ ops j st = some st1) (h2 : stepD T Γ ops i st1 = some st2) (hsc : opCls T Γ oi.op = .none ∨ ∀ z ∈ oi.op.operands.toList, Scoped st.mem.length (St.ev st.fr z)) :
    ∃ st1', stepD T Γ ops i st = some st1' ∧ stepD T Γ ops j st1' = some st2 := by
  obtain ⟨a1, a2, a3⟩ := slots_spec hs
  obtain ⟨oj', u, mj, e1, rfl, k1⟩ := stepD_some h1
  rw [hj] at e1; cases e1
  obtain ⟨oi', v, mi, e2, rfl, k2⟩ := stepD_some h2
  rw [hi] at e2; cases e2
  rw [wanted_apart a1] at k2
  have hev := ev_apart (st := st) (m := mj) (v := u) a1
  have hmem : (St.put ⟨st.fr, mj⟩ oj.dst u).mem = mj := St.put_mem _ _ _
  rw [hmem] at k2
  -- memory
  have key : ∃ mi', ((wantedA ops oi st.fr = some true ∧ opD T Γ oi.op (St.ev st.fr) st.mem = some (v, mi')) ∨ (wantedA ops oi st.fr = some false ∧ v = .tup [] ∧ mi' = st.mem)) ∧
      ((wantedA ops oj st.fr = some true ∧ opD T Γ oj.op (St.ev st.fr) mi' = some (u, mi)) ∨ (wantedA ops oj st.fr = some false ∧ u = .tup [] ∧ mi = mi')) := by
    rcases k2 with ⟨w2, d2⟩ | ⟨w2, rfl, rfl⟩
    · have d2' : opD T Γ oi.op (St.ev st.fr) mj = some (v, mi) := by
        rw [← d2]; exact (opK_congr _ hev _ _).symm
      rcases k1 with ⟨w1, d1⟩ | ⟨w1, rfl, rfl⟩
      · obtain ⟨m1', q1, q2⟩ := mem_swap' hΓ hc d1 d2' hsc
        exact ⟨m1', .inl ⟨w2, q1⟩, .inl ⟨w1, q2⟩⟩
      · exact ⟨mi, .inl ⟨w2, d2'⟩, .inr ⟨w1, rfl, rfl⟩⟩
    · rcases k1 with ⟨w1, d1⟩ | ⟨w1, rfl, rfl⟩
      · exact ⟨st.mem, .inr ⟨w2, rfl, rfl⟩, .inl ⟨w1, d1⟩⟩
      · exact ⟨st.mem, .inr ⟨w2, rfl, rfl⟩, .inr ⟨w1, rfl, rfl⟩⟩
  obtain ⟨mi', q1, q2⟩ := key
  refine ⟨_, stepD_mk hi q1, ?_⟩
  have hev' := ev_apart (ops := ops) (o := oj) (st := st) (m := mi') (v := v) a3
  have hfin := stepD_mk (T := T) (Γ := Γ) (st := St.put ⟨st.fr, mi'⟩ oi.dst v) (v := u) (m := mi) hj (by
    rw [wanted_apart a3, St.put_mem]
    rcases q2 with ⟨w1, d1⟩ | h
    · exact .inl ⟨w1, by rw [← d1]; exact opK_congr _ hev' _ _⟩
    · exact .inr h)
  rw [hfin]
  congr 1
  have := put_put (fr := st.fr) (m := mj) (m' := mi) (d := oj.dst) (e := oi.dst) (u := u) (v := v) a2
  have e3 : (St.put ⟨st.fr, mi'⟩ oi.dst v).fr = (St.put ⟨st.fr, mi⟩ oi.dst v).fr := by cases oi.dst <;> rfl
  rw [e3, this]

end
end Am

/- THE ABSTRACT MACHINE: regions that leave their order open. -/
namespace Am
open Go

section
variable {P : Program} {R : Type} {T : TypeId → TRow} {Γ : FuncId → Option Summ}

theorem opD_grow (hΓ : GNat Γ) {o : Op} (hw : opCls T Γ o ≠ .wild) {ev : Operand → AV} (hev : ∀ f, ev (.func f) = .fn f []) {mem m : Mem} {v : AV} (h : opD T Γ o ev mem = some (v, m)) : mem.length ≤ m.length := by
  cases hc : opCls T Γ o with
  | none =>
    rcases opD_none hΓ hc ev hev mem mem with ⟨h', _⟩ | ⟨u, h', _⟩
    · rw [h'] at h; cases h
    · rw [h'] at h; cases h; exact Nat.le_refl _
  | read => obtain ⟨rfl, _⟩ := opD_read (.inl hc) h; exact Nat.le_refl _
  | addr => obtain ⟨rfl, _⟩ := opD_read (.inr hc) h; exact Nat.le_refl _
  | make => obtain ⟨new, rfl⟩ := opD_make hΓ hc hev h; simp
  | store =>
    have hl := (opD_store hc h).1
    rcases Nat.lt_or_ge m.length mem.length with h' | h'
    · obtain ⟨b', hb, _⟩ := hl m.length mem[m.length] (List.getElem?_eq_getElem h')
      have := (List.getElem?_eq_some_iff.1 hb).1
      omega
    · exact h'
  | wild => exact absurd hc hw

theorem MC.apart_wild {x y : MC} (h : MC.apart x y = true) (hy : y ≠ .none) : x ≠ .wild := by
  rintro rfl
  cases y <;> simp [MC.apart] at h hy

theorem stepD_grow (hΓ : GNat Γ) {ops : List Oper} {i : Nat} {o : Oper} (ho : ops[i]? = some o) (hw : opCls T Γ o.op ≠ .wild) {st st' : St} (h : stepD T Γ ops i st = some st') : st.mem.length ≤ st'.mem.length := by
  obtain ⟨o', v, m, e, rfl, k⟩ := stepD_some h
  rw [ho] at e; cases e
  rw [St.put_mem]
  rcases k with ⟨_, k⟩ | ⟨_, _, rfl⟩
  · exact opD_grow hΓ hw (St.ev_func _) k
  · exact Nat.le_refl _

theorem runD_keeps {ops : List Oper} {t : Nat} : ∀ (l : List Nat) {st stF : St}, (∀ w ∈ l, ∀ ow, ops[w]? = some ow → ow.dst ≠ some t) → runD T Γ ops l st = some stF → stF.fr.getD t .undef = st.fr.getD t .undef
  | [], st, stF, _, h => by cases h; rfl
  | w :: l, st, stF, hw, h => by
    simp only [runD] at h
    cases h1 : stepD T Γ ops w st with
    | none => rw [h1] at h; cases h
    | some st1 =>
      rw [h1] at h
      rw [runD_keeps l (fun w' hw' => hw w' (by simp [hw'])) h]
      obtain ⟨o, v, m, e, rfl, _⟩ := stepD_some h1
      exact getD_put (st := ⟨st.fr, m⟩) (fun d hd he => hw w (by simp) o e (by rw [hd, he]))

theorem Swaps.wild {x y : Op} {fr : List AV} (h : Swaps T Γ x y fr) (hy : opCls T Γ y ≠ .none) : opCls T Γ x ≠ .wild := by
  rcases h with h | ⟨a, b, hp, _⟩
  · exact MC.apart_wild h hy
  · rcases lsPair_spec hp with ⟨t, u, v, rfl, rfl⟩ | ⟨t, u, v, rfl, rfl⟩ <;> simp [opCls]

/-- What an operation may go ahead of, at a state from which the region ends with some frame. -/
def PreOk (T : TypeId → TRow) (Γ : FuncId → Option Summ) (ops : List Oper) (oi : Oper) (i : Nat) (post : List Nat) (frF : List AV) : List Nat → Prop
  | [] => True
  | j :: pre => (∃ oj, ops[j]? = some oj ∧ slotsApart ops oj oi = true ∧ (MC.apart (opCls T Γ oj.op) (opCls T Γ oi.op) = true ∨
      ∃ a b, lsPair oj.op oi.op = some (a, b) ∧ apartAt frF (a, b) = true ∧ ∀ w ∈ j :: (pre ++ i :: post), ∀ ow, ops[w]? = some ow → ow.dst ≠ some a ∧ ow.dst ≠ some b)) ∧ PreOk T Γ ops oi i post frF pre

/-- An operation goes ahead of those that do not meddle with it. -/
theorem bubble (hΓ : GNat Γ) {ops : List Oper} {i : Nat} {oi : Oper} (hi : ops[i]? = some oi) (post : List Nat) (stF : St) : ∀ (pre : List Nat),
    PreOk T Γ ops oi i post stF.fr pre → ∀ (st : St),
    (opCls T Γ oi.op = .none ∨ ∀ z ∈ oi.op.operands.toList, Scoped st.mem.length (St.ev st.fr z)) → runD T Γ ops (pre ++ i :: post) st = some stF → runD T Γ ops (i :: (pre ++ post)) st = some stF
  | [], _, st, _, h => h
  | j :: pre, hp, st, hsc, h => by
    obtain ⟨⟨oj, hj, hs, hc'⟩, hp'⟩ := hp
    have hc : Swaps T Γ oj.op oi.op st.fr := by
      rcases hc' with hc | ⟨a, b, hl, ha, hw⟩
      · exact .inl hc
      · refine .inr ⟨a, b, hl, ?_⟩
        have e1 := runD_keeps (t := a) _ (fun w hw' ow ho => (hw w hw' ow ho).1) h
        have e2 := runD_keeps (t := b) _ (fun w hw' ow ho => (hw w hw' ow ho).2) h
        rw [← ha]
        simp only [apartAt, e1, e2]
    simp only [List.cons_append, runD] at h ⊢
    cases h1 : stepD T Γ ops j st with
    | none => rw [h1] at h; cases h
    | some st1 =>
      rw [h1] at h
      simp only [Option.bind_some] at h
      have hsc1 : opCls T Γ oi.op = .none ∨ ∀ z ∈ oi.op.operands.toList, Scoped st1.mem.length (St.ev st1.fr z) := by
        rcases hsc with hn | hsc
        · exact .inl hn
        by_cases hn : opCls T Γ oi.op = .none
        · exact .inl hn
        refine .inr fun z hz => ?_
        have hg := stepD_grow hΓ hj (hc.wild hn) h1
        have hz' := hsc z hz
        obtain ⟨oj', v, m, e, rfl, k⟩ := stepD_some h1
        rw [hj] at e; cases e
        rw [ev_apart (slots_spec hs).1 z hz]
        cases hx : St.ev st.fr z <;> rw [hx] at hz' <;> simp only [Scoped] at hz' ⊢ <;> omega
      have h2 := bubble hΓ hi post stF pre hp' st1 hsc1 h
      simp only [runD] at h2
      cases h3 : stepD T Γ ops i st1 with
      | none => rw [h3] at h2; cases h2
      | some st2 =>
        rw [h3] at h2
        obtain ⟨st1', q1, q2⟩ := step_swap hΓ hj hi hs hc h1 h3 hsc
        rw [q1]
        simp only [Option.bind_some, runD, q2]
        exact h2

theorem fold_bit (acc : List Nat) (j : Nat) : ∀ (ds : List Nat) (m : Nat), (ds.foldl (fun m e => m ||| (2 ^ e ||| acc.getD e 0)) m).testBit j = true → m.testBit j = true ∨ ∃ e ∈ ds, j = e ∨ (acc.getD e 0).testBit j = true
  | [], m, h => .inl h
  | e :: ds, m, h => by
    rw [List.foldl_cons] at h
    rcases fold_bit acc j ds _ h with h | ⟨e', he, h⟩
    · rw [Nat.testBit_or, Nat.testBit_or, Bool.or_eq_true, Bool.or_eq_true, Nat.testBit_two_pow] at h
      rcases h with h | h | h
      · exact .inl h
      · exact .inr ⟨e, by simp, .inl (by simpa using (of_decide_eq_true h).symm)⟩
      · exact .inr ⟨e, by simp, .inr h⟩
    · exact .inr ⟨e', by simp [he], h⟩

theorem masks_ok {ops : List Oper} {L : Nat → Prop} (hL : ∀ i o, ops[i]? = some o → L i → ∀ e ∈ directs o, L e) : ∀ (l done : List Oper) (acc : List Nat), ops = done ++ l → acc.length = done.length →
    (∀ n o, done[n]? = some o → (∀ e ∈ directs o, L e) → ∀ j, (acc.getD n 0).testBit j = true → L j) →
    ∀ n o, ops[n]? = some o → (∀ e ∈ directs o, L e) → ∀ j, ((masks l acc).getD n 0).testBit j = true → L j
  | [], done, acc, he, hl, hd => by
    simp only [List.append_nil] at he
    subst he
    exact hd
  | o :: l, done, acc, he, hl, hd => by
    refine masks_ok hL l (done ++ [o]) _ (by simp [he]) (by simp [hl]) ?_
    intro n o' hn hdir j hj
    by_cases hlt : n < done.length
    · rw [List.getElem?_append_left hlt] at hn
      refine hd n o' hn hdir j ?_
      rw [← hj]
      simp [List.getD, List.getElem?_append_left (show n < acc.length by omega)]
    · have hn' : n = done.length := by
        have := (List.getElem?_eq_some_iff.1 hn).1
        simp at this; omega
      subst hn'
      simp only [List.getElem?_concat_length, Option.some.injEq] at hn
      subst hn
      rw [← hl] at hj
      simp only [List.getD, List.getElem?_concat_length, Option.getD_some] at hj
      rcases fold_bit acc j _ 0 hj with h | ⟨e, he', h⟩
      · simp at h
      · rcases h with rfl | h
        · exact hdir _ he'
        · have hlt : e < done.length := by
            rcases Nat.lt_or_ge e done.length with h' | h'
            · exact h'
            · rw [List.getD, List.getElem?_eq_none (by omega)] at h; simp at h
          have hoe : done[e]? = some done[e] := List.getElem?_eq_getElem hlt
          refine hd e _ hoe ?_ j h
          refine hL e _ ?_ (hdir e he')
          rw [he, List.getElem?_append_left hlt, hoe]

theorem orderly_spec {ops : List Oper} (h : orderly T Γ ops = true) :
    (∀ i o, ops[i]? = some o → ∀ e ∈ directs o, e < i) ∧
    (∀ i j oi oj, ops[i]? = some oi → ops[j]? = some oj → j < i → ((masks ops []).getD i 0).testBit j = true ∨ (slotsApart ops oj oi = true ∧ (MC.apart (opCls T Γ oj.op) (opCls T Γ oi.op) = true ∨ lsFine ops (masks ops []) j i oj oi = true))) := by
  simp only [orderly, Bool.and_eq_true] at h
  obtain ⟨h1, h2⟩ := h
  rw [List.all_eq_true] at h1 h2
  constructor
  · intro i o ho e he
    have := h1 (o, i) (List.mem_zipIdx_iff_getElem?.2 (by simpa using ho))
    rw [List.all_eq_true] at this
    simpa using this e he
  · intro i j oi oj hi hj hlt
    have h3 := h2 (oi, i) (List.mem_zipIdx_iff_getElem?.2 (by simpa using hi))
    rw [List.all_eq_true] at h3
    have h4 := h3 (oj, j) (List.mem_of_getElem? (i := j) (by rw [List.getElem?_take_of_lt hlt, List.getElem?_zipIdx, hj]; simp))
    simpa [Bool.or_eq_true, Bool.and_eq_true] using h4

theorem dyn_spec {ops : List Oper} {fr : List AV} (h : dynFine T Γ true ops fr = true) {i j : Nat} {oi oj : Oper} (hi : ops[i]? = some oi) (hj : ops[j]? = some oj) (hlt : j < i) (hm : ((masks ops []).getD i 0).testBit j = false) (hc : MC.apart (opCls T Γ oj.op) (opCls T Γ oi.op) = false)
    {p : Nat × Nat} (hp : lsPair oj.op oi.op = some p) : apartAt fr p = true := by
  simp only [dynFine, cond_true, List.all_eq_true] at h
  refine h p ?_
  simp only [dynPairs, List.mem_flatMap, List.mem_filterMap]
  refine ⟨(oi, i), List.mem_zipIdx_iff_getElem?.2 (by simpa using hi), (oj, j), List.mem_of_getElem? (i := j) (by rw [List.getElem?_take_of_lt hlt, List.getElem?_zipIdx, hj]; simp), ?_⟩
  simp only [hm, hc, Bool.or_self, cond_false, hp]

theorem lsFine_spec {ops : List Oper} {ms : List Nat} {j i : Nat} {x y : Oper} (h : lsFine ops ms j i x y = true) : ∃ a b, lsPair x.op y.op = some (a, b) ∧ ∀ w ow, ops[w]? = some ow → (ow.dst = some a → w < j) ∧ (ow.dst = some b → w < j ∨ (ms.getD i 0).testBit w = true) := by
  unfold lsFine at h
  split at h
  · rename_i a b hp
    simp only [Bool.and_eq_true, List.all_eq_true] at h
    refine ⟨a, b, hp, fun w ow ho => ?_⟩
    have hm : (ow, w) ∈ ops.zipIdx := List.mem_zipIdx_iff_getElem?.2 (by simpa using ho)
    have h1 := h.1 _ hm
    have h2 := h.2 _ hm
    refine ⟨fun hd => ?_, fun hd => ?_⟩
    · simpa [hd] using h1
    · simpa [hd] using h2
  · cases h

theorem RV.inScope {μ : Mu} {mem : Mem} {sh : Nat → Prop} {w : World} {a : AV} {v : Value} (h : RV μ mem sh w a v) : Scoped mem.length a := by
  obtain ⟨cs, h1, _⟩ := h
  cases a <;> simp only [Scoped]
  · obtain ⟨v, _, h2⟩ := h1
    unfold PtrR at h2
    split at h2
    · exact h2.elim
    · rename_i hm; exact (List.getElem?_eq_some_iff.1 hm).1
    · rename_i hm; exact (List.getElem?_eq_some_iff.1 hm).1
  · obtain ⟨v, _, h2⟩ := h1
    unfold SlR at h2
    split at h2
    · rename_i hm; exact (List.getElem?_eq_some_iff.1 hm).1
    · rename_i hm; exact (List.getElem?_eq_some_iff.1 hm).1
    · exact h2.elim

theorem mem_directs {o : Oper} {e : Nat} : e ∈ directs o ↔ ∃ d ∈ o.after, Region.binds .any d = true ∧ d.on = e := by
  simp only [directs, List.mem_filterMap, Array.mem_toList_iff]
  constructor
  · rintro ⟨d, hd, h⟩
    split at h
    · rename_i hb; exact ⟨d, hd, hb, by simpa using h⟩
    · cases h
  · rintro ⟨d, hd, hb, rfl⟩
    exact ⟨d, hd, by simp [hb]⟩

theorem any_ok (hT : TOk P T) (hG : GOk P Γ) (hΓ : GNat Γ) {ops : Array Oper} (ho : orderly T Γ ops.toList = true) {Q : Exit → Act → World → Prop} : ∀ (fuel : Nat) (rest : List Nat) (listed : Array Bool) {μ : Mu} {sh : Nat → Prop} {st : St} {a : Act} {w : World} {k : St → Option R} {r : R},
    rest.length = fuel → listed.size = ops.size → (∀ j, j ∈ rest ↔ listed.getD j true = false) → rest.Pairwise (· < ·) →
    (∀ i o, ops.toList[i]? = some o → listed.getD i false = true → ∀ e ∈ directs o, listed.getD e false = true) →
    (∀ st', k st' = some r → dynFine T Γ true ops.toList st'.fr = true) → SR μ sh st a w → (runD T Γ ops.toList rest st).bind k = some r →
    (∀ st' a' w' μ' sh', k st' = some r → SR μ' sh' st' a' w' → Mv μ st.mem sh w μ' st'.mem sh' w' → Q .normal a' w') → wpAny P .any ops Q fuel listed a w := by
  obtain ⟨hlt, hap⟩ := orderly_spec ho
  intro fuel
  induction fuel with
  | zero =>
    intro rest listed μ sh st a w k r hl hsz hr hp hcl hdy hS h hQ
    have hn : rest = [] := List.length_eq_zero_iff.1 hl
    subst hn
    refine ⟨?_, hQ st a w μ sh h hS (Mv.refl _ _ _ _)⟩
    rw [List.eq_nil_iff_forall_not_mem]
    intro j hj
    have := (hr j).2 (mem_ready.1 hj).1
    cases this
  | succ fuel ih =>
    intro rest listed μ sh st a w k r hl hsz hr hp hcl hdy hS h hQ
    have inb : ∀ i, i ∈ rest → i < ops.size := by
      intro i hi
      have := (hr i).1 hi
      rcases Nat.lt_or_ge i listed.size with h' | h'
      · omega
      · simp [Array.getElem?_eq_none h'] at this
    refine ⟨?_, ?_⟩
    · intro hnil
      cases rest with
      | nil => cases hl
      | cons i rest =>
        exfalso
        have hi := inb i (by simp)
        have hmem : i ∈ Region.ready .any ops listed := by
          rw [mem_ready]
          refine ⟨(hr i).1 (by simp), ops[i], by simp [hi], fun e he hb => ?_⟩
          have hei : e.on < i := hlt i ops[i] (by simp [hi]) e.on (mem_directs.2 ⟨e, he, hb, rfl⟩)
          have hnr : e.on ∉ i :: rest := by
            intro hm
            rcases List.mem_cons.1 hm with hm | hm
            · omega
            · have := (List.pairwise_cons.1 hp).1 _ hm; omega
          have : listed.getD e.on true ≠ false := fun hf => hnr ((hr _).2 hf)
          have hlt' : e.on < listed.size := by omega
          simp [hlt'] at this ⊢
          exact this
        rw [hnil] at hmem
        cases hmem
    · intro i hi
      obtain ⟨h0, oi, hoi, hdir⟩ := mem_ready.1 hi
      have hir : i ∈ rest := (hr i).2 h0
      obtain ⟨pre, post, rfl⟩ := List.append_of_mem hir
      have hoi' : ops.toList[i]? = some oi := by simpa using hoi
      have hdir' : ∀ e ∈ directs oi, listed.getD e false = true := by
        intro e he
        obtain ⟨d, hd, hb, rfl⟩ := mem_directs.1 he
        exact hdir d hd hb
      have inL : ∀ w, ((masks ops.toList []).getD i 0).testBit w = true → w ∉ pre ++ i :: post := by
        intro w hm hw
        have := masks_ok (L := fun e => listed.getD e false = true) (fun i o h1 h2 => hcl i o h1 h2) ops.toList [] [] rfl rfl (by intro n o hn; simp at hn) i oi hoi' hdir' w hm
        have h1 := (hr w).1 hw
        have hjl : w < listed.size := by have := inb w hw; omega
        simp [hjl] at this h1
        rw [this] at h1; cases h1
      have hpre : ∀ stF : St, k stF = some r → ∀ q : List Nat, (∃ q0, pre = q0 ++ q) → PreOk T Γ ops.toList oi i post stF.fr q := by
        intro stF hkF q
        induction q with
        | nil => intro _; trivial
        | cons j q ihq =>
          rintro ⟨q0, hq0⟩
          refine ⟨?_, ihq ⟨q0 ++ [j], by rw [hq0]; simp⟩⟩
          have hjp : j ∈ pre := by rw [hq0]; simp
          have hjn := inb j (by simp [hjp])
          have hji : j < i := (List.pairwise_append.1 hp).2.2 j hjp i (by simp)
          refine ⟨ops[j], by simp [hjn], ?_⟩
          rcases hap i j oi ops[j] hoi' (by simp [hjn]) hji with hm | ⟨hs, hm⟩
          · exact absurd (by simp [hjp]) (inL j hm)
          · refine ⟨hs, ?_⟩
            cases hc : MC.apart (opCls T Γ ops[j].op) (opCls T Γ oi.op) with
            | true => exact .inl rfl
            | false =>
              rw [hc] at hm
              obtain ⟨a0, b0, hl0, hw0⟩ := lsFine_spec (hm.resolve_left (by simp))
              have hmf : ((masks ops.toList []).getD i 0).testBit j = false := by
                cases hq : ((masks ops.toList []).getD i 0).testBit j with
                | false => rfl
                | true => exact absurd (by simp [hjp]) (inL j hq)
              refine .inr ⟨a0, b0, hl0, dyn_spec (hdy stF hkF) hoi' (by simp [hjn]) hji hmf hc hl0, ?_⟩
              intro w hw ow ho
              have hge : j ≤ w := by
                have hp' : (j :: (q ++ i :: post)).Pairwise (· < ·) := by
                  have hsub : pre ++ i :: post = q0 ++ (j :: (q ++ i :: post)) := by rw [hq0]; simp
                  rw [hsub] at hp
                  exact (List.pairwise_append.1 hp).2.1
                rcases List.mem_cons.1 hw with rfl | hw
                · exact Nat.le_refl _
                · exact Nat.le_of_lt ((List.pairwise_cons.1 hp').1 w hw)
              have hwm : w ∈ pre ++ i :: post := by
                rw [hq0]
                simp only [List.mem_append, List.mem_cons] at hw ⊢
                rcases hw with h | h | h
                · exact .inl (.inr (.inl h))
                · exact .inl (.inr (.inr h))
                · exact .inr h
              refine ⟨fun hd => ?_, fun hd => ?_⟩
              · have := (hw0 w ow ho).1 hd; omega
              · rcases (hw0 w ow ho).2 hd with h | h
                · omega
                · exact inL w h hwm
      have hev : opCls T Γ oi.op = .none ∨ ∀ z ∈ oi.op.operands.toList, Scoped st.mem.length (St.ev st.fr z) := .inr fun z _ => (ev_ok hS.fr z).inScope
      cases hrun : runD T Γ ops.toList (pre ++ i :: post) st with
      | none => rw [hrun] at h; cases h
      | some stF =>
        rw [hrun] at h
        have hb := bubble hΓ hoi' post stF pre (hpre stF h pre ⟨[], rfl⟩) st hev hrun
        simp only [runD] at hb
        have hstep : stepK T Γ ops.toList i st (fun st' => (runD T Γ ops.toList (pre ++ post) st').bind k) = some r := by
          rw [stepK_eq hΓ]
          cases h1 : stepD T Γ ops.toList i st with
          | none => rw [h1] at hb; cases hb
          | some st1 => rw [h1] at hb; simp only [Option.bind_some] at hb ⊢; rw [hb]; exact h
        refine step_ok hT hG hS hstep ?_
        intro st' a' w' μ' sh' k1 k2 k3
        have hil : i < listed.size := by
          rw [hsz]; exact inb i (by simp)
        refine ih (pre ++ post) _ (by simp at hl ⊢; omega) (by simp [hsz]) ?_ ?_ ?_ hdy k2 k1 (fun st'' a'' w'' μ'' sh'' q1 q2 q3 => hQ _ _ _ _ _ q1 q2 (k3.trans q3))
        · intro j
          by_cases hji : i = j
          · subst hji
            have hnot : i ∉ pre ++ post := by
              intro hm
              rcases List.mem_append.1 hm with hm | hm
              · have := (List.pairwise_append.1 hp).2.2 i hm i (by simp); omega
              · have := (List.pairwise_cons.1 (List.pairwise_append.1 hp).2.1).1 i hm; omega
            constructor
            · intro hm; exact absurd hm hnot
            · intro hm; simp [hil] at hm
          · rw [getD_set_ne true hji, ← hr j]
            simp only [List.mem_append, List.mem_cons]
            constructor
            · rintro (h | h)
              · exact .inl h
              · exact .inr (.inr h)
            · rintro (h | h | h)
              · exact .inl h
              · exact absurd h.symm hji
              · exact .inr h
        · refine hp.sublist ?_
          exact List.Sublist.append_left (List.sublist_cons_self _ _) _
        · intro j o hj hlj e he
          by_cases hji : i = j
          · subst hji
            rw [hoi'] at hj; cases hj
            exact getD_set_true (hdir' e he)
          · rw [getD_set_ne false hji] at hlj
            exact getD_set_true (hcl j o hj hlj e he)

theorem MemR.heap {μ : Mu} {mem : Mem} {sh : Nat → Prop} {w w' : World} (h : MemR μ mem sh w) (he : w'.heap = w.heap) : MemR μ mem sh w' := by
  have hk : ShKeep sh w sh w' := ⟨fun _ h => h, fun _ _ => by rw [he]⟩
  refine ⟨h.len, ?_, h.inj, fun g hg => by rw [he]; exact h.shl g hg, fun i g n hi => by rw [he]; exact h.mul i g n hi⟩
  intro id b hb
  have := h.blk id b hb
  cases b with
  | dead => exact this
  | var v =>
    obtain ⟨g, n, c, e, h1, h2, h3, h4, h5⟩ := this
    exact ⟨g, n, c, e, h1, by rw [he]; exact h2, h3, RC.ext (Ext.refl _ _) hk _ _ h4, h5⟩
  | list t l =>
    rcases this with h | ⟨g, n, c, e, cs, h1, h2, h3, h4, h5, h6⟩
    · exact .inl h
    · exact .inr ⟨g, n, c, e, cs, h1, by rw [he]; exact h2, h3, EncL.mono (Enc.keep hk t) l cs h4, h5, h6⟩
  | iter s pos =>
    obtain ⟨g, n, h1, h2, h3⟩ := this
    exact ⟨g, n, h1, by rw [he]; exact h2, h3⟩

theorem SR.heap {μ : Mu} {sh : Nat → Prop} {st : St} {a : Act} {w w' : World} (h : SR μ sh st a w) (he : w'.heap = w.heap) : SR μ sh st a w' :=
  ⟨h.mem.heap he, h.fr.ext (Ext.refl _ _) ⟨fun _ h => h, fun _ _ => by rw [he]⟩⟩

theorem Mv.heap {μ : Mu} {mem : Mem} {sh : Nat → Prop} {w w' : World} (he : w'.heap = w.heap) (hos : SameOs w w') : Mv μ mem sh w μ mem sh w' :=
  ⟨Ext.refl _ _, ⟨fun _ h => h, fun _ _ => by rw [he]⟩, by rw [he]; exact Nat.le_refl _, fun _ _ _ => by rw [he], fun _ h => .inl h, fun i _ n h => .inl ⟨i, n, h⟩, hos⟩

/-- Whatever order a region is run in: it does what the text's order does. -/
theorem draw_ok (hm : P.follows .mixedOrders = true) (hT : TOk P T) (hG : GOk P Γ) (hΓ : GNat Γ) : DrawOk P T Γ := by
  intro R id ops st k r μ sh a w Q ho hdy h hS hQ
  refine wp_region_any hm ?_
  rw [opsK_eq hΓ] at h
  have hp : (List.range ops.size).Pairwise (· < ·) := List.pairwise_lt_range
  refine any_ok hT hG hΓ ho ops.size (List.range ops.size) _ (by simp) (by simp) ?_ hp ?_ hdy (hS.heap (w' := { w with drawn := w.drawn + 1 }) rfl) h ?_
  · intro j
    rw [List.mem_range]
    constructor
    · intro hj; simp [hj]
    · intro hj
      rcases Nat.lt_or_ge j ops.size with h' | h'
      · exact h'
      · simp [Array.getElem?_eq_none (show (Array.replicate ops.size false).size ≤ j by simpa using h')] at hj
  · intro i o _ hl
    exfalso
    rcases Nat.lt_or_ge i ops.size with h' | h'
    · simp [h'] at hl
    · simp [Array.getElem?_eq_none (show (Array.replicate ops.size false).size ≤ i by simpa using h')] at hl
  · intro st' a' w' μ' sh' k1 k2 k3
    exact hQ _ _ _ _ _ k1 k2 ((Mv.heap (w := w) (w' := { w with drawn := w.drawn + 1 }) rfl ⟨rfl, rfl⟩).trans k3)

end
end Am

