/- A library of this claim: the abstract machine: templates and loops. -/
import Derived.Test.YteeiccpbiniljaaGreatDoorAm3
import Derived.LoopN
set_option linter.all false
/- THE ABSTRACT MACHINE: a state that is read by a template. -/
namespace Am
open Go

def Env.le (e e' : Env) : Prop := (∀ (i : Nat) (x : Option Nat), e.b[i]? = some (some x) → e'.b[i]? = some (some x)) ∧ (∀ i : Nat, i ∈ e.l → i ∈ e'.l) ∧ e'.b.length = e.b.length

theorem Env.le_refl (e : Env) : e.le e := ⟨fun _ _ h => h, fun _ h => h, rfl⟩
theorem Env.le_trans {a b c : Env} (h : a.le b) (h' : b.le c) : a.le c := ⟨fun i x hi => h'.1 i x (h.1 i x hi), fun i hi => h'.2.1 i (h.2.1 i hi), h'.2.2.trans h.2.2⟩

theorem oEq_eq {a b : Option Nat} (h : oEq a b = true) : a = b := by
  cases a <;> cases b <;> simp [oEq] at h <;> simp [h]

theorem Env.bind_spec {e e' : Env} {i : Nat} {j : Option Nat} (h : e.bind i j = some e') : e.le e' ∧ e'.b[i]? = some (some j) := by
  unfold Env.bind at h
  split at h
  · rename_i hb
    cases h
    refine ⟨⟨fun n x hn => ?_, fun _ h => h, by simp⟩, ?_⟩
    · simp only
      rw [List.getElem?_set]
      split
      · rename_i he; subst he; rw [hb] at hn; cases hn
      · exact hn
    · simp only
      rw [List.getElem?_set_self (List.getElem?_eq_some_iff.1 hb).1]
  · rename_i j' hb
    cases hq : oEq j' j with
    | false => rw [hq] at h; cases h
    | true => rw [hq] at h; cases h; exact ⟨Env.le_refl _, by rw [hb, oEq_eq hq]⟩
  · cases h

theorem Env.lend_le (e : Env) (i : Nat) : e.le (e.lend i) := ⟨fun _ _ h => h, fun _ h => List.mem_cons_of_mem _ h, rfl⟩

theorem stepEq_eq : ∀ {p q : List Step}, stepEq p q = true → p = q
  | [], [], _ => rfl
  | .fld i :: p, .fld j :: q, h => by simp only [stepEq, Bool.and_eq_true, beq_iff_eq] at h; rw [h.1, stepEq_eq h.2]
  | .idx i :: p, .idx j :: q, h => by simp only [stepEq, Bool.and_eq_true, beq_iff_eq] at h; rw [h.1, stepEq_eq h.2]
  | [], _ :: _, h | .fld _ :: _, [], h | .idx _ :: _, [], h | .fld _ :: _, .idx _ :: _, h | .idx _ :: _, .fld _ :: _, h => by simp [stepEq] at h

theorem cast_some {s t : Ty} {x : s.den} {y : t.den} (h : Ty.cast s t x = some y) : AV.val t y = AV.val s x := by
  unfold Ty.cast at h
  split at h
  · rename_i he; subst he; cases h; rfl
  · cases h

mutual
/-- The second value is the first one, its blocks called otherwise, its slices lent; if 'u': less may be told. -/
inductive Ren (E : Env) (mem : Mem) : Bool → AV → AV → Prop
  | val {u} (t : Ty) (x : t.den) : Ren E mem u (.val t x) (.val t x)
  | lent {u} {t : Ty} {l : List t.den} {i : Nat} : i ∈ E.l → mem[i]? = some (.list t l) → Ren E mem u (.slice i) (.val (.list t) l)
  | lent0 {u} {t : Ty} : Ren E mem u .nils (.val (.list t) [])
  | elem {u} (t : Ty) (x : t.den) : Ren E mem u (.elem t x) (.elem t x)
  | ptr {u} {i j : Nat} {p : List Step} : E.b[i]? = some (some (some j)) → Ren E mem u (.ptr j p) (.ptr i p)
  | nilp {u} : Ren E mem u .nilp .nilp
  | slice {u} {i j : Nat} : E.b[i]? = some (some (some j)) → Ren E mem u (.slice j) (.slice i)
  | slice0 {u} {i : Nat} : E.b[i]? = some (some none) → Ren E mem u .nils (.slice i)
  | nils {u} : Ren E mem u .nils .nils
  | fn {u} {f : FuncId} {vs vs' : List AV} : Rens E mem true vs vs' → Ren E mem u (.fn f vs) (.fn f vs')
  | nilf {u} : Ren E mem u .nilf .nilf
  | comp {u} {vs vs' : List AV} : Rens E mem false vs vs' → Ren E mem u (.comp vs) (.comp vs')
  | tup {vs vs' : List AV} : Rens E mem true vs vs' → Ren E mem true (.tup vs) (.tup vs')
  | undef {v : AV} : Ren E mem true v .undef
inductive Rens (E : Env) (mem : Mem) : Bool → List AV → List AV → Prop
  | nil {u} : Rens E mem u [] []
  | cons {u} {v v' : AV} {l l' : List AV} : Ren E mem u v v' → Rens E mem u l l' → Rens E mem u (v :: l) (v' :: l')
end

/-- What a reading tells. -/
def Dec (u : Bool) (mem : Mem) (v : AV) (e e' : Env) {X Y : Type} (enc : Y → AV × X) (f : X → Y) : Prop :=
  ∃ v', (∀ z, enc (f z) = (v', z)) ∧ e.le e' ∧ ∀ E : Env, e'.le E → Ren E mem u v v'
def Decs (u : Bool) (mem : Mem) (v : List AV) (e e' : Env) {X Y : Type} (enc : Y → List AV × X) (f : X → Y) : Prop :=
  ∃ v', (∀ z, enc (f z) = (v', z)) ∧ e.le e' ∧ ∀ E : Env, e'.le E → Rens E mem u v v'

theorem map_pair {α β γ : Type} {o : Option α} {g : α → β × γ} {r : β × γ} (h : o.map g = some r) : ∃ x, o = some x ∧ g x = r := by
  cases o with
  | none => cases h
  | some x => exact ⟨x, rfl, by simpa using h⟩

mutual
theorem Sh.dec_ok : ∀ (s : Sh) (X : Type) (u : Bool) (mem : Mem) (v : AV) (e e' : Env) (f : X → s.den X), (u = false → s.solid = true) → s.dec X mem v e = some (f, e') → Dec u mem v e e' (s.enc X) f
  | .undef, X, u, mem, v, e, e', f, hu, h => by
    simp only [Sh.dec, Option.some.injEq, Prod.mk.injEq] at h
    obtain ⟨rfl, rfl⟩ := h
    cases u with
    | false => simp [Sh.solid] at hu
    | true => exact ⟨.undef, fun _ => rfl, Env.le_refl _, fun _ _ => .undef⟩
  | .hole t, X, u, mem, v, e, e', f, hu, h => by
    unfold Sh.dec at h
    split at h
    · obtain ⟨y, hy, h2⟩ := map_pair h
      cases h2
      refine ⟨.val t y, fun _ => rfl, Env.le_refl _, fun _ _ => ?_⟩
      rw [cast_some hy]
      exact .val _ _
    · split at h
      · rename_i hm
        obtain ⟨y, hy, h2⟩ := map_pair h
        cases h2
        refine ⟨.val (.list _) y, fun _ => rfl, Env.lend_le _ _, fun E hE => ?_⟩
        rw [cast_some hy]
        exact .lent (hE.2.1 _ (List.mem_cons_self ..)) hm
      · cases h
    · cases h
      exact ⟨_, fun _ => rfl, Env.le_refl _, fun _ _ => .lent0⟩
    · cases h
  | .elem t, X, u, mem, v, e, e', f, hu, h => by
    unfold Sh.dec at h
    split at h
    · obtain ⟨y, hy, h2⟩ := map_pair h
      cases h2
      refine ⟨.elem t y, fun _ => rfl, Env.le_refl _, fun _ _ => ?_⟩
      unfold Ty.cast at hy
      split at hy
      · rename_i he; subst he; cases hy; exact .elem _ _
      · cases hy
    · cases h
  | .ptr i p, X, u, mem, v, e, e', f, hu, h => by
    unfold Sh.dec at h
    split at h
    · rename_i j q
      cases hq : stepEq p q with
      | false => rw [hq] at h; cases h
      | true =>
        rw [hq] at h
        obtain ⟨y, hy, h2⟩ := map_pair h
        cases h2
        obtain ⟨h3, h4⟩ := Env.bind_spec hy
        refine ⟨.ptr i p, fun _ => rfl, h3, fun E hE => ?_⟩
        rw [stepEq_eq hq]
        exact .ptr (hE.1 _ _ h4)
    · cases h
  | .nilp, X, u, mem, v, e, e', f, hu, h => by
    unfold Sh.dec at h
    split at h
    · cases h; exact ⟨_, fun _ => rfl, Env.le_refl _, fun _ _ => .nilp⟩
    · cases h
  | .slice i, X, u, mem, v, e, e', f, hu, h => by
    unfold Sh.dec at h
    split at h
    · obtain ⟨y, hy, h2⟩ := map_pair h
      cases h2
      obtain ⟨h3, h4⟩ := Env.bind_spec hy
      exact ⟨.slice i, fun _ => rfl, h3, fun E hE => .slice (hE.1 _ _ h4)⟩
    · obtain ⟨y, hy, h2⟩ := map_pair h
      cases h2
      obtain ⟨h3, h4⟩ := Env.bind_spec hy
      exact ⟨.slice i, fun _ => rfl, h3, fun E hE => .slice0 (hE.1 _ _ h4)⟩
    · cases h
  | .nils, X, u, mem, v, e, e', f, hu, h => by
    unfold Sh.dec at h
    split at h
    · cases h; exact ⟨_, fun _ => rfl, Env.le_refl _, fun _ _ => .nils⟩
    · cases h
  | .nilf, X, u, mem, v, e, e', f, hu, h => by
    unfold Sh.dec at h
    split at h
    · cases h; exact ⟨_, fun _ => rfl, Env.le_refl _, fun _ _ => .nilf⟩
    · cases h
  | .fn g cs, X, u, mem, v, e, e', f, hu, h => by
    unfold Sh.dec at h
    split at h
    · rename_i g' vs
      cases hq : g == g' with
      | false => rw [hq] at h; cases h
      | true =>
        rw [hq] at h
        have hg : g = g' := by simpa using hq
        subst hg
        obtain ⟨v', h1, h2, h3⟩ := Sh.decs_ok cs X true mem vs e e' f (fun h => by cases h) h
        refine ⟨.fn g v', fun z => ?_, h2, fun E hE => .fn (h3 E hE)⟩
        simp only [Sh.enc]
        rw [h1]
    · cases h
  | .comp fs, X, u, mem, v, e, e', f, hu, h => by
    unfold Sh.dec at h
    split at h
    · rename_i vs
      cases hs : Sh.solids fs with
      | false => rw [hs] at h; cases h
      | true =>
        rw [hs] at h
        obtain ⟨v', h1, h2, h3⟩ := Sh.decs_ok fs X false mem vs e e' f (fun _ => hs) h
        refine ⟨.comp v', fun z => ?_, h2, fun E hE => .comp (h3 E hE)⟩
        simp only [Sh.enc]
        rw [h1]
    · cases h
  | .tup fs, X, u, mem, v, e, e', f, hu, h => by
    unfold Sh.dec at h
    split at h
    · rename_i vs
      cases u with
      | false => simp [Sh.solid] at hu
      | true =>
        obtain ⟨v', h1, h2, h3⟩ := Sh.decs_ok fs X true mem vs e e' f (fun h => by cases h) h
        refine ⟨.tup v', fun z => ?_, h2, fun E hE => .tup (h3 E hE)⟩
        simp only [Sh.enc]
        rw [h1]
    · cases h
theorem Sh.decs_ok : ∀ (l : List Sh) (X : Type) (u : Bool) (mem : Mem) (v : List AV) (e e' : Env) (f : X → Sh.dens l X), (u = false → Sh.solids l = true) → Sh.decs l X mem v e = some (f, e') → Decs u mem v e e' (Sh.encs l X) f
  | [], X, u, mem, v, e, e', f, hu, h => by
    cases v with
    | nil => simp only [Sh.decs] at h; cases h; exact ⟨[], fun _ => rfl, Env.le_refl _, fun _ _ => .nil⟩
    | cons v0 vs => simp [Sh.decs] at h
  | s :: l, X, u, mem, v, e, e', f, hu, h => by
    cases v with
    | nil => simp [Sh.decs] at h
    | cons v0 vs =>
      simp only [Sh.decs] at h
      split at h
      · rename_i f1 e1 hf1
        split at h
        · rename_i g1 e2 hg1
          cases h
          obtain ⟨a1, a2, a3, a4⟩ := Sh.dec_ok s _ u mem v0 e e1 f1 (fun hf => by have := hu hf; simp only [Sh.solids, Bool.and_eq_true] at this; exact this.1) hf1
          obtain ⟨b1, b2, b3, b4⟩ := Sh.decs_ok l _ u mem vs e1 e' g1 (fun hf => by have := hu hf; simp only [Sh.solids, Bool.and_eq_true] at this; exact this.2) hg1
          refine ⟨a1 :: b1, fun z => ?_, Env.le_trans a3 b3, fun E hE => .cons (a4 E (Env.le_trans b3 hE)) (b4 E hE)⟩
          simp only [Sh.encs]
          rw [a2, b2]
        · cases h
      · cases h
end

end Am

/- THE ABSTRACT MACHINE: a state that is read by a template is the same state. -/
namespace Am
open Go

def BRen (E : Env) (mem : Mem) (i : Nat) : Blk → Prop
  | .dead => True
  | .var v' => ∃ j v, E.b[i]? = some (some (some j)) ∧ mem[j]? = some (.var v) ∧ Ren E mem false v v'
  | .list t l => (E.b[i]? = some (some none) ∧ l = []) ∨ ∃ j, E.b[i]? = some (some (some j)) ∧ mem[j]? = some (.list t l)
  | .iter s n => ∃ j, E.b[i]? = some (some (some j)) ∧ mem[j]? = some (.iter s n)

theorem BSh.dec_ok (b : BSh) (X : Type) (i : Nat) (mem : Mem) (e e' : Env) (f : X → b.den X) (h : b.dec X i mem e = some (f, e')) :
    ∃ b', (∀ z, b.enc X (f z) = (b', z)) ∧ e.le e' ∧ ∀ E : Env, e'.le E → BRen E mem i b' := by
  cases b with
  | dead =>
    simp only [BSh.dec] at h
    cases h
    exact ⟨.dead, fun _ => rfl, Env.le_refl _, fun _ _ => trivial⟩
  | var s =>
    simp only [BSh.dec] at h
    split at h
    · rename_i j hj
      split at h
      · rename_i v hv
        cases hs : s.solid with
        | false => rw [hs] at h; cases h
        | true =>
          rw [hs] at h
          obtain ⟨v', h1, h2, h3⟩ := Sh.dec_ok s X false mem v e e' f (fun _ => hs) h
          refine ⟨.var v', fun z => ?_, h2, fun E hE => ⟨j, v, (Env.le_trans h2 hE).1 _ _ hj, hv, h3 E hE⟩⟩
          simp only [BSh.enc]
          rw [h1]
      · cases h
    · cases h
  | list t =>
    simp only [BSh.dec] at h
    split at h
    · rename_i hj
      cases h
      exact ⟨.list t [], fun _ => rfl, Env.le_refl _, fun E hE => .inl ⟨hE.1 _ _ hj, rfl⟩⟩
    · rename_i j hj
      split at h
      · rename_i s l hv
        obtain ⟨y, hy, h2⟩ := map_pair h
        cases h2
        refine ⟨.list t y, fun _ => rfl, Env.le_refl _, fun E hE => .inr ⟨j, hE.1 _ _ hj, ?_⟩⟩
        unfold Ty.cast at hy
        split at hy
        · rename_i he; cases he; cases hy; exact hv
        · cases hy
      · cases h
    · cases h
  | iter =>
    simp only [BSh.dec] at h
    split at h
    · rename_i j hj
      split at h
      · rename_i s n hv
        cases h
        exact ⟨.iter s n, fun _ => rfl, Env.le_refl _, fun E hE => ⟨j, hE.1 _ _ hj, hv⟩⟩
      · cases h
    · cases h

theorem BSh.decs_ok : ∀ (l : List BSh) (X : Type) (i : Nat) (mem : Mem) (e e' : Env) (f : X → BSh.dens l X), BSh.decs l X i mem e = some (f, e') →
    ∃ bs, (∀ z, BSh.encs l X (f z) = (bs, z)) ∧ e.le e' ∧ bs.length = l.length ∧ ∀ E : Env, e'.le E → ∀ n b, bs[n]? = some b → BRen E mem (i + n) b
  | [], X, i, mem, e, e', f, h => by
    simp only [BSh.decs] at h
    cases h
    exact ⟨[], fun _ => rfl, Env.le_refl _, rfl, fun _ _ n b hb => by simp at hb⟩
  | b :: l, X, i, mem, e, e', f, h => by
    simp only [BSh.decs] at h
    split at h
    · rename_i f1 e1 hf1
      split at h
      · rename_i g1 e2 hg1
        cases h
        obtain ⟨a1, a2, a3, a4⟩ := BSh.dec_ok b _ i mem e e1 f1 hf1
        obtain ⟨b1, b2, b3, b5, b4⟩ := BSh.decs_ok l _ (i + 1) mem e1 e' g1 hg1
        refine ⟨a1 :: b1, fun z => ?_, Env.le_trans a3 b3, by simp [b5], fun E hE n c hc => ?_⟩
        · simp only [BSh.encs]
          rw [a2, b2]
        · cases n with
          | zero => simp at hc; subst hc; exact a4 E (Env.le_trans b3 hE)
          | succ n =>
            have := b4 E hE n c (by simpa using hc)
            rwa [show i + 1 + n = i + (n + 1) by omega] at this
      · cases h
    · cases h

mutual
theorem Ren.lay {E : Env} {mem : Mem} {u : Bool} : ∀ {v v' : AV}, Ren E mem u v v' → u = false → v.lay v' = true
  | _, _, .val t x, _ => by simp [AV.lay]
  | _, _, .lent .., _ => by simp [AV.lay, AV.atom, Ty.agg]
  | _, _, .lent0, _ => by simp [AV.lay, AV.atom, Ty.agg]
  | _, _, .elem .., _ => by simp [AV.lay, AV.atom]
  | _, _, .ptr _, _ => by simp [AV.lay, AV.atom]
  | _, _, .nilp, _ => by simp [AV.lay, AV.atom]
  | _, _, .slice _, _ => by simp [AV.lay, AV.atom]
  | _, _, .slice0 _, _ => by simp [AV.lay, AV.atom]
  | _, _, .nils, _ => by simp [AV.lay, AV.atom]
  | _, _, .fn _, _ => by simp [AV.lay, AV.atom]
  | _, _, .nilf, _ => by simp [AV.lay, AV.atom]
  | _, _, .comp h, _ => by simp only [AV.lay]; exact Rens.lay h rfl
  | _, _, .tup _, hu => by cases hu
  | _, _, .undef, hu => by cases hu
theorem Rens.lay {E : Env} {mem : Mem} {u : Bool} : ∀ {v v' : List AV}, Rens E mem u v v' → u = false → AV.lays v v' = true
  | _, _, .nil, _ => rfl
  | _, _, .cons h h', hu => by simp only [AV.lays, Bool.and_eq_true]; exact ⟨h.lay hu, h'.lay hu⟩
end

theorem AV.atom_agg {v : AV} (h : v.atom = true) : v.agg = false := (AV.atom_okp h).2.2

/-- The blocks' places. -/
def muOf (μ : Mu) (E : Env) (bs : List Blk) : Mu :=
  (List.range bs.length).map fun i => match bs[i]?, E.b[i]? with
    | some .dead, _ => none
    | _, some (some (some j)) => μ.getD j none
    | _, _ => none

theorem muOf_get {μ : Mu} {E : Env} {bs : List Blk} {i : Nat} {b : Blk} (hb : bs[i]? = some b) (hd : b ≠ .dead) :
    (muOf μ E bs)[i]? = some (match E.b[i]? with | some (some (some j)) => μ.getD j none | _ => none) := by
  have hi := (List.getElem?_eq_some_iff.1 hb).1
  unfold muOf
  rw [List.getElem?_map, List.getElem?_range hi]
  simp only [Option.map_some, hb]
  cases b <;> first | exact absurd rfl hd | (split <;> simp_all)

theorem muOf_some {μ : Mu} {E : Env} {bs : List Blk} {i g n : Nat} (h : (muOf μ E bs)[i]? = some (some (g, n))) : ∃ j, E.b[i]? = some (some (some j)) ∧ μ[j]? = some (some (g, n)) ∧ ∃ b, bs[i]? = some b ∧ b ≠ .dead := by
  have hi : i < bs.length := by
    have := (List.getElem?_eq_some_iff.1 h).1
    simpa [muOf] using this
  have hb : bs[i]? = some bs[i] := List.getElem?_eq_getElem hi
  by_cases hd : bs[i] = .dead
  · exfalso
    unfold muOf at h
    rw [List.getElem?_map, List.getElem?_range hi] at h
    simp [hb, hd] at h
  · rw [muOf_get hb hd] at h
    split at h
    · rename_i j hj
      refine ⟨j, hj, ?_, _, hb, hd⟩
      simp only [Option.some.injEq] at h
      rw [List.getD] at h
      cases hm : μ[j]? with
      | none => rw [hm] at h; cases h
      | some x => rw [hm] at h; simp at h; rw [h]
    · cases h

section
variable {μ : Mu} {mem : Mem} {sh : Nat → Prop} {w : World} {E : Env} {bs : List Blk}

def shOf (μ : Mu) (E : Env) (sh : Nat → Prop) : Nat → Prop := fun g => sh g ∨ ∃ (j n : Nat), j ∈ E.l ∧ μ[j]? = some (some (g, n))

theorem PtrR.ren (hl : E.b.length = bs.length) (hB : ∀ i b, bs[i]? = some b → BRen E mem i b) {i j : Nat} {p : List Step} {x : Value} (hE : E.b[i]? = some (some (some j))) (h : PtrR μ mem j p x) : PtrR (muOf μ E bs) bs i p x := by
  have hi : i < bs.length := by rw [← hl]; exact (List.getElem?_eq_some_iff.1 hE).1
  have hb : bs[i]? = some bs[i] := List.getElem?_eq_getElem hi
  have hpt := h.pointer
  have hbr := hB i _ hb
  unfold PtrR at h ⊢
  rw [hb]
  by_cases hd : bs[i] = .dead
  · rw [hd]; exact hpt
  · have hm := muOf_get (μ := μ) (E := E) hb hd
    rw [hE] at hm
    cases hc : bs[i] with
    | dead => exact absurd hc hd
    | var v' =>
      rw [hc] at hbr
      obtain ⟨j', v, h1, h2, h3⟩ := hbr
      rw [hE] at h1; cases h1
      rw [h2] at h
      obtain ⟨g, n, k1, k2, k3⟩ := h
      have hs := (AV.lay_same _ _ (h3.lay rfl)).2.2 p
      refine ⟨g, n, ?_, ?_, ?_⟩
      · rw [hm]; simp [k1]
      · simp only [Blk.okp] at k2 ⊢; rw [← hs.1]; exact k2
      · simp only [Blk.off] at k3 ⊢; rw [← hs.2]; exact k3
    | list t l =>
      rw [hc] at hbr
      rcases hbr with ⟨h1, _⟩ | ⟨j', h1, h2⟩
      · rw [hE] at h1; cases h1
      rw [hE] at h1; cases h1
      rw [h2] at h
      obtain ⟨g, n, k1, k2, k3⟩ := h
      exact ⟨g, n, by rw [hm]; simp [k1], k2, k3⟩
    | iter s m =>
      rw [hc] at hbr
      obtain ⟨j', h1, h2⟩ := hbr
      rw [hE] at h1; cases h1
      rw [h2] at h
      obtain ⟨g, n, k1, k2, k3⟩ := h
      exact ⟨g, n, by rw [hm]; simp [k1], k2, k3⟩

theorem SlR.ren (hl : E.b.length = bs.length) (hB : ∀ i b, bs[i]? = some b → BRen E mem i b) {i j : Nat} {x : Value} (hE : E.b[i]? = some (some (some j))) (h : SlR μ mem j x) (hsl : ∀ b, bs[i]? = some b → (∃ t l, b = .list t l) ∨ b = .dead) :
    SlR (muOf μ E bs) bs i x := by
  have hi : i < bs.length := by rw [← hl]; exact (List.getElem?_eq_some_iff.1 hE).1
  have hb : bs[i]? = some bs[i] := List.getElem?_eq_getElem hi
  have hpt := h.slice
  have hbr := hB i _ hb
  unfold SlR at h ⊢
  rw [hb]
  rcases hsl _ hb with ⟨t, l, hc⟩ | hd
  · have hm := muOf_get (μ := μ) (E := E) hb (by rw [hc]; simp)
    rw [hE] at hm
    rw [hc] at hbr ⊢
    rcases hbr with ⟨h1, _⟩ | ⟨j', h1, h2⟩
    · rw [hE] at h1; cases h1
    rw [hE] at h1; cases h1
    rw [h2] at h
    rcases h with ⟨k1, k2⟩ | ⟨g, n, cap, k1, k2⟩
    · exact .inl ⟨by rw [hm]; simp [k1], k2⟩
    · exact .inr ⟨g, n, cap, by rw [hm]; simp [k1], k2⟩
  · rw [hd]; exact hpt

/-- A slice's block is a list. -/
theorem BRen.list_of {i j : Nat} (hB : ∀ i b, bs[i]? = some b → BRen E mem i b) (hE : E.b[i]? = some (some (some j))) {x : Value} (h : SlR μ mem j x) : ∀ b, bs[i]? = some b → (∃ t l, b = .list t l) ∨ b = .dead := by
  intro b hb
  have hbr := hB i b hb
  unfold SlR at h
  cases b with
  | dead => exact .inr rfl
  | list t l => exact .inl ⟨t, l, rfl⟩
  | var v =>
    obtain ⟨j', v', h1, h2, _⟩ := hbr
    rw [hE] at h1; cases h1
    rw [h2] at h; exact h.elim
  | iter s n =>
    obtain ⟨j', h1, h2⟩ := hbr
    rw [hE] at h1; cases h1
    rw [h2] at h; exact h.elim

theorem SlR.ren0 (hl : E.b.length = bs.length) (hB : ∀ i b, bs[i]? = some b → BRen E mem i b) {i : Nat} (hE : E.b[i]? = some (some none)) : SlR (muOf μ E bs) bs i (.slice none 0 0) := by
  have hi : i < bs.length := by rw [← hl]; exact (List.getElem?_eq_some_iff.1 hE).1
  have hb : bs[i]? = some bs[i] := List.getElem?_eq_getElem hi
  have hbr := hB i _ hb
  unfold SlR
  rw [hb]
  cases hc : bs[i] with
  | dead => exact ⟨_, _, _, rfl⟩
  | list t l =>
    have hm := muOf_get (μ := μ) (E := E) hb (by rw [hc]; simp)
    rw [hE] at hm
    exact .inl ⟨hm, rfl⟩
  | var v =>
    rw [hc] at hbr
    obtain ⟨j', v', h1, _⟩ := hbr
    rw [hE] at h1; cases h1
  | iter s n =>
    rw [hc] at hbr
    obtain ⟨j', h1, _⟩ := hbr
    rw [hE] at h1; cases h1

theorem shOf_keep : ShKeep sh w (shOf μ E sh) w := ⟨fun _ h => .inl h, fun _ _ => rfl⟩

theorem lent_ok (hM : MemR μ mem sh w) {i : Nat} {t : Ty} {l : List t.den} {x : Value} (hi : i ∈ E.l) (hm : mem[i]? = some (.list t l)) (h : SlR μ mem i x) : Enc (shOf μ E sh) w (.list t) l [x] := by
  have hbr := hM.blk i _ hm
  unfold SlR at h
  rw [hm] at h
  rcases h with ⟨k1, rfl⟩ | ⟨g, n, cap, k1, rfl, k3, k4⟩
  · rcases hbr with ⟨_, rfl⟩ | ⟨g, n, c, e, cs, h1, _⟩
    · exact .inl ⟨rfl, rfl⟩
    · rw [k1] at h1; cases h1
  · rcases hbr with ⟨h1, _⟩ | ⟨g', n', c, e, cs, h1, h2, h3, h4, h5, h6⟩
    · rw [k1] at h1; cases h1
    rw [k1] at h1; cases h1
    exact .inr ⟨g, 0, cap, c, e, cs, rfl, .inr ⟨i, n, hi, k1⟩, h2, EncL.mono (Enc.keep shOf_keep t) l cs h4, by simpa using h5⟩

theorem Ren.agg {u : Bool} {v v' : AV} (h : Ren E mem u v v') (hu : v' ≠ .undef) : v.agg = v'.agg := by
  cases h <;> first | rfl | exact absurd rfl hu

theorem Ren.no_undef {v v' : AV} (h : Ren E mem false v v') : v' ≠ .undef := by
  cases h <;> simp

mutual
theorem Ren.rc (hM : MemR μ mem sh w) (hl : E.b.length = bs.length) (hB : ∀ i b, bs[i]? = some b → BRen E mem i b) {u : Bool} : ∀ {v v' : AV}, Ren E mem u v v' → v' ≠ .undef → ∀ {cs : List Value}, RC μ mem sh w v cs →
    RC (muOf μ E bs) bs (shOf μ E sh) w v' cs
  | _, _, .val t x, _, cs, h => Enc.keep shOf_keep t x cs h
  | _, _, .lent hi hm, _, cs, ⟨x, e, h⟩ => by subst e; exact lent_ok hM hi hm h
  | _, _, .lent0, _, cs, h => by simp only [RC] at h; exact .inl ⟨h, rfl⟩
  | _, _, .elem t x, _, cs, ⟨b, off, c, e, cs', h1, h2, h3, h4, h5⟩ => ⟨b, off, c, e, cs', h1, .inl h2, h3, Enc.keep shOf_keep t x cs' h4, h5⟩
  | _, _, .ptr hE, _, cs, ⟨x, e, h⟩ => ⟨x, e, h.ren hl hB hE⟩
  | _, _, .nilp, _, cs, h => h
  | _, _, .slice hE, _, cs, ⟨x, e, h⟩ => ⟨x, e, h.ren hl hB hE (BRen.list_of hB hE h)⟩
  | _, _, .slice0 hE, _, cs, h => ⟨_, h, SlR.ren0 hl hB hE⟩
  | _, _, .nils, _, cs, h => h
  | _, _, .fn hs, _, cs, ⟨vs, e, h⟩ => ⟨vs, e, Rens.rvs hM hl hB hs h⟩
  | _, _, .nilf, _, cs, h => h
  | _, _, .comp hs, _, cs, h => Rens.rcs hM hl hB hs rfl h
  | _, _, .tup hs, _, cs, ⟨l, e, h⟩ => ⟨l, e, Rens.rvs hM hl hB hs h⟩
  | _, _, .undef, hu, cs, h => absurd rfl hu
theorem Rens.rcs (hM : MemR μ mem sh w) (hl : E.b.length = bs.length) (hB : ∀ i b, bs[i]? = some b → BRen E mem i b) {u : Bool} : ∀ {v v' : List AV}, Rens E mem u v v' → u = false → ∀ {cs : List Value}, RCs μ mem sh w v cs → RCs (muOf μ E bs) bs (shOf μ E sh) w v' cs
  | _, _, .nil, _, cs, h => h
  | _, _, .cons h h', hu, cs, ⟨c, d, e, h1, h2⟩ => ⟨c, d, e, h.rc hM hl hB (by subst hu; exact h.no_undef) h1, h'.rcs hM hl hB hu h2⟩
theorem Rens.rvs (hM : MemR μ mem sh w) (hl : E.b.length = bs.length) (hB : ∀ i b, bs[i]? = some b → BRen E mem i b) {u : Bool} : ∀ {v v' : List AV}, Rens E mem u v v' → ∀ {vs : List Value}, RVs μ mem sh w v vs → RVs (muOf μ E bs) bs (shOf μ E sh) w v' vs
  | _, _, .nil, vs, h => h
  | _, _, @Rens.cons _ _ _ v v' l l' h h', vs, h2 => by
    obtain ⟨x, rest, cs, e, h3, h4, h5⟩ := h2
    have h6 := h'.rvs hM hl hB h5
    by_cases hu : v' = .undef
    · subst hu
      exact ⟨x, rest, [x], e, ⟨x, rfl⟩, rfl, h6⟩
    · exact ⟨x, rest, cs, e, h.rc hM hl hB hu h3, by rw [← h.agg hu]; exact h4, h6⟩
end

theorem Ren.rv (hM : MemR μ mem sh w) (hl : E.b.length = bs.length) (hB : ∀ i b, bs[i]? = some b → BRen E mem i b) {u : Bool} {v v' : AV} (h : Ren E mem u v v') {x : Value} (hv : RV μ mem sh w v x) : RV (muOf μ E bs) bs (shOf μ E sh) w v' x := by
  by_cases hu : v' = .undef
  · subst hu; exact RV_undef _
  · obtain ⟨cs, h3, h4⟩ := hv
    exact ⟨cs, h.rc hM hl hB hu h3, by rw [← h.agg hu]; exact h4⟩

theorem nodup_inj : ∀ {l : List (Option (Option Nat))}, nodupB l = true → ∀ (i k j : Nat), l[i]? = some (some (some j)) → l[k]? = some (some (some j)) → i = k
  | [], _, i, k, j, h, _ => by simp at h
  | x :: l, hn, i, k, j, h1, h2 => by
    have hn' : nodupB l = true ∧ ∀ j, x = some (some j) → l.any (isB j) = false := by
      match x, hn with
      | none, hn => exact ⟨hn, fun j h => by cases h⟩
      | some none, hn => exact ⟨hn, fun j h => by cases h⟩
      | some (some j'), hn =>
        simp only [nodupB, Bool.and_eq_true, Bool.not_eq_true'] at hn
        exact ⟨hn.2, fun j h => by cases h; exact hn.1⟩
    have no : ∀ (m : Nat), x = some (some j) → l[m]? = some (some (some j)) → False := by
      intro m hx hm
      have := hn'.2 j hx
      rw [List.any_eq_false] at this
      exact this _ (List.mem_of_getElem? hm) (by simp [isB])
    cases i with
    | zero =>
      cases k with
      | zero => rfl
      | succ k => simp at h1 h2; exact (no k h1 h2).elim
    | succ i =>
      cases k with
      | zero => simp at h1 h2; exact (no i h2 h1).elim
      | succ k => simp at h1 h2; rw [nodup_inj hn'.1 i k j h1 h2]

theorem Env.fine_spec (h : E.fine = true) : (∀ (i k j : Nat), E.b[i]? = some (some (some j)) → E.b[k]? = some (some (some j)) → i = k) ∧ ∀ (i j : Nat), E.b[i]? = some (some (some j)) → j ∉ E.l := by
  simp only [Env.fine, Bool.and_eq_true] at h
  refine ⟨nodup_inj h.1, fun i j hi hj => ?_⟩
  have := h.2
  rw [List.all_eq_true] at this
  have := this j hj
  simp only [Bool.not_eq_true'] at this
  rw [List.any_eq_false] at this
  exact this _ (List.mem_of_getElem? hi) (by simp [isB])

/-- What is not dead is bound to what is not dead, or to nothing. -/
theorem BRen.bound {i : Nat} {b : Blk} (h : BRen E mem i b) (hd : b ≠ .dead) : E.b[i]? = some (some none) ∨ ∃ j c, E.b[i]? = some (some (some j)) ∧ mem[j]? = some c ∧ c ≠ .dead ∧ BLay c b := by
  cases b with
  | dead => exact absurd rfl hd
  | var v' => obtain ⟨j, v, h1, h2, h3⟩ := h; exact .inr ⟨j, _, h1, h2, by simp, AV.lay_same _ _ (h3.lay rfl)⟩
  | list t l =>
    rcases h with ⟨h1, _⟩ | ⟨j, h1, h2⟩
    · exact .inl h1
    · exact .inr ⟨j, _, h1, h2, by simp, BLay.refl _⟩
  | iter s n => obtain ⟨j, h1, h2⟩ := h; exact .inr ⟨j, _, h1, h2, by simp, BLay.refl _⟩

theorem MemR.ren (hM : MemR μ mem sh w) (hl : E.b.length = bs.length) (hf : E.fine = true) (hm : ∀ j ∈ E.l, ∃ t l, mem[j]? = some (.list t l)) (hB : ∀ i b, bs[i]? = some b → BRen E mem i b) : MemR (muOf μ E bs) bs (shOf μ E sh) w := by
  obtain ⟨hf1, hf2⟩ := Env.fine_spec hf
  refine ⟨by simp [muOf], ?_, ?_, ?_, ?_⟩
  · intro i b hb
    have hbr := hB i b hb
    have nsh : ∀ (j g n : Nat) c, E.b[i]? = some (some (some j)) → mem[j]? = some c → c ≠ .dead → μ[j]? = some (some (g, n)) → ¬ sh g → ¬ shOf μ E sh g := by
      rintro j g n c hE hj hc hg hs (h | ⟨k, m, hk, hkg⟩)
      · exact hs h
      · obtain ⟨t, l, hkm⟩ := hm k hk
        have := hM.inj j k g n m c _ hj hkm hc (by simp) hg hkg
        subst this
        exact hf2 i j hE hk
    cases b with
    | dead => exact trivial
    | var v' =>
      have hmu := muOf_get (μ := μ) (E := E) hb (by simp)
      obtain ⟨j, v, h1, h2, h3⟩ := hbr
      obtain ⟨g, n, c, e, k1, k2, k3, k4, k5⟩ := hM.blk j _ h2
      rw [h1] at hmu
      exact ⟨g, n, c, e, by rw [hmu]; simp [k1], k2, k3, h3.rc hM hl hB h3.no_undef k4, nsh j g n _ h1 h2 (by simp) k1 k5⟩
    | list t l =>
      have hmu := muOf_get (μ := μ) (E := E) hb (by simp)
      rcases hbr with ⟨h1, rfl⟩ | ⟨j, h1, h2⟩
      · rw [h1] at hmu
        exact .inl ⟨hmu, rfl⟩
      · rw [h1] at hmu
        rcases hM.blk j _ h2 with ⟨k1, k2⟩ | ⟨g, n, c, e, cs, k1, k2, k3, k4, k5, k6⟩
        · exact .inl ⟨by rw [hmu]; simp [k1], k2⟩
        · exact .inr ⟨g, n, c, e, cs, by rw [hmu]; simp [k1], k2, k3, EncL.mono (Enc.keep shOf_keep t) l cs k4, k5, nsh j g n _ h1 h2 (by simp) k1 k6⟩
    | iter s m =>
      have hmu := muOf_get (μ := μ) (E := E) hb (by simp)
      obtain ⟨j, h1, h2⟩ := hbr
      rw [h1] at hmu
      obtain ⟨g, n, k1, k2, k3⟩ := hM.blk j _ h2
      exact ⟨g, n, by rw [hmu]; simp [k1], k2, nsh j g n _ h1 h2 (by simp) k1 k3⟩
  · intro i k g n m b c hi hk hbd hcd hgi hgk
    obtain ⟨j1, e1, m1, _⟩ := muOf_some hgi
    obtain ⟨j2, e2, m2, _⟩ := muOf_some hgk
    rcases (hB i b hi).bound hbd with h | ⟨j1', c1, h1, h2, h3, _⟩
    · rw [e1] at h; cases h
    rw [e1] at h1; cases h1
    rcases (hB k c hk).bound hcd with h | ⟨j2', c2, h4, h5, h6, _⟩
    · rw [e2] at h; cases h
    rw [e2] at h4; cases h4
    have := hM.inj j1 j2 g n m c1 c2 h2 h5 h3 h6 m1 m2
    subst this
    exact hf1 i k j1 e1 e2
  · rintro g (h | ⟨j, n, _, h⟩)
    · exact hM.shl g h
    · exact hM.mul j g n h
  · intro i g n h
    obtain ⟨j, _, hj, _⟩ := muOf_some h
    exact hM.mul j g n hj

end
end Am

/- THE ABSTRACT MACHINE: loops. -/
namespace Am
open Go

theorem ids_get : ∀ (n k i : Nat), i < n → (ids n k)[i]? = some (some (some (k + i)))
  | 0, _, _, h => by omega
  | n + 1, k, 0, _ => rfl
  | n + 1, k, i + 1, h => by simp only [ids, List.getElem?_cons_succ]; rw [ids_get n (k + 1) i (by omega)]; congr 3; omega

theorem ids_len : ∀ (n k : Nat), (ids n k).length = n
  | 0, _ => rfl
  | n + 1, k => by simp [ids, ids_len n]

/-- What is told by a state that was read. -/
structure Read (s : StSh) (p : Nat) (st : St) (x : s.den) (E : Env) : Prop where
  len : E.b.length = (s.enc x).mem.length
  mlen : (s.enc x).mem.length = s.mem.length
  fine : E.fine = true
  lent : ∀ j ∈ E.l, ∃ t l, st.mem[j]? = some (.list t l)
  blk : ∀ i b, (s.enc x).mem[i]? = some b → BRen E st.mem i b
  fr : Rens E st.mem true st.fr (s.enc x).fr
  pin : ∀ i, i < p → E.b[i]? = some (some (some i))
  ple : p ≤ (s.enc x).mem.length
  has : ∀ i j : Nat, E.b[i]? = some (some (some j)) → j < st.mem.length

theorem StSh.dec_ok {s : StSh} {p : Nat} {st : St} {x : s.den} {E : Env} (h : s.dec p st = some (x, E)) : Read s p st x E := by
  unfold StSh.dec at h
  cases hp : Nat.ble p s.mem.length with
  | false => rw [hp] at h; cases h
  | true =>
    rw [hp] at h
    simp only [cond_true] at h
    have hple := Nat.le_of_ble_eq_true hp
    split at h
    · rename_i f e1 hf
      split at h
      · rename_i g e2 hg
        cases hc : (e2.fine && st.mem.holds e2) with
        | false => rw [hc] at h; cases h
        | true =>
          rw [hc] at h
          cases h
          simp only [Bool.and_eq_true] at hc
          obtain ⟨v', a1, a2, a3⟩ := Sh.decs_ok s.fr _ true st.mem st.fr _ e1 f (fun h => by cases h) hf
          obtain ⟨bs, b1, b2, b3, b4⟩ := BSh.decs_ok s.mem _ 0 st.mem e1 E g hg
          have hfr : (s.enc (f (g ()))).fr = v' := by simp only [StSh.enc]; rw [a1]
          have hme : (s.enc (f (g ()))).mem = bs := by simp only [StSh.enc]; rw [a1]; simp only; rw [b1]
          have hle := Env.le_trans a2 b2
          have h0 : (s.env p).b.length = s.mem.length := by simp [StSh.env, ids_len]; omega
          refine ⟨?_, ?_, hc.1, ?_, ?_, ?_, ?_, ?_, ?_⟩
          · rw [hme, hle.2.2, h0, b3]
          · rw [hme, b3]
          · intro j hj
            have := hc.2
            unfold Mem.holds at this
            rw [Bool.and_eq_true, List.all_eq_true] at this
            have := this.1 j hj
            split at this
            · rename_i t l hm; exact ⟨t, l, hm⟩
            · cases this
          · intro i b hb
            rw [hme] at hb
            have := b4 E (Env.le_refl _) i b hb
            rwa [Nat.zero_add] at this
          · rw [hfr]; exact a3 E b2
          · intro i hi
            refine hle.1 i (some i) ?_
            simp only [StSh.env]
            rw [List.getElem?_append_left (by rw [ids_len]; exact hi), ids_get p 0 i hi, Nat.zero_add]
          · rw [hme, b3]; exact hple
          · intro i j hi
            have := hc.2
            unfold Mem.holds at this
            rw [Bool.and_eq_true, List.all_eq_true, List.all_eq_true] at this
            have := this.2 _ (List.mem_of_getElem? hi)
            simp only [Nat.blt] at this
            exact Nat.le_of_ble_eq_true this
      · cases h
    · cases h

theorem Rens.length {E : Env} {mem : Mem} {u : Bool} : ∀ {v v' : List AV}, Rens E mem u v v' → v'.length = v.length
  | _, _, .nil => rfl
  | _, _, .cons _ h => by simp [h.length]

theorem Rens.get {E : Env} {mem : Mem} {u : Bool} : ∀ {v v' : List AV}, Rens E mem u v v' → ∀ {i : Nat} {a' : AV}, v'[i]? = some a' → ∃ a, v[i]? = some a ∧ Ren E mem u a a'
  | _, _, .nil, i, a', h => by simp at h
  | _, _, .cons h h', 0, a', hi => by simp at hi; subst hi; exact ⟨_, rfl, h⟩
  | _, _, .cons h h', i + 1, a', hi => by simpa using h'.get (by simpa using hi)

section
variable {P : Program} {R : Type} {T : TypeId → TRow} {Γ : FuncId → Option Summ} {Λ : Nat → Option LoopSum} {μ : Mu} {sh : Nat → Prop} {w : World}

theorem Read.mem {s : StSh} {p : Nat} {st : St} {x : s.den} {E : Env} (h : Read s p st x E) (hM : MemR μ st.mem sh w) : MemR (muOf μ E (s.enc x).mem) (s.enc x).mem (shOf μ E sh) w ∧ Wv p μ st.mem sh w (muOf μ E (s.enc x).mem) (s.enc x).mem (shOf μ E sh) w := by
  refine ⟨hM.ren h.len h.fine h.lent h.blk, ⟨?_, shOf_keep, Nat.le_refl _, fun _ _ _ => rfl, ?_, ?_, ⟨rfl, rfl⟩⟩⟩
  · intro i b hi hb
    have hlt : i < (s.enc x).mem.length := Nat.lt_of_lt_of_le hi h.ple
    have hb' : (s.enc x).mem[i]? = some (s.enc x).mem[i] := List.getElem?_eq_getElem hlt
    refine ⟨_, hb', ?_⟩
    by_cases hd : (s.enc x).mem[i] = .dead
    · exact .inl hd
    · right
      have hE := h.pin i hi
      rcases (h.blk i _ hb').bound hd with h1 | ⟨j, c, h1, h2, h3, h4⟩
      · rw [hE] at h1; cases h1
      rw [hE] at h1; cases h1
      rw [hb] at h2; cases h2
      refine ⟨?_, h4⟩
      rw [muOf_get hb' hd, hE]
      have hlm : i < μ.length := by rw [hM.len]; exact (List.getElem?_eq_some_iff.1 hb).1
      simp [hlm]
  · rintro g (hg | ⟨j, n, _, hg⟩)
    · exact .inl hg
    · exact .inr (.inl ⟨j, n, hg⟩)
  · intro i g n hi
    obtain ⟨j, _, hj, _⟩ := muOf_some hi
    exact .inl ⟨j, n, hj⟩

theorem Read.sr {s : StSh} {p : Nat} {st : St} {x : s.den} {E : Env} (h : Read s p st x E) {a : Act} (hS : SR μ sh st a w) : SR (muOf μ E (s.enc x).mem) (shOf μ E sh) (s.enc x) a w := by
  refine ⟨(h.mem hS.mem).1, ⟨?_, ?_, hS.fr.def_⟩⟩
  · rw [h.fr.length]; exact hS.fr.len
  · intro i av hi
    obtain ⟨b, hb, hr⟩ := h.fr.get hi
    obtain ⟨v, hv, hrv⟩ := hS.fr.slot i b hb
    exact ⟨v, hv, hr.rv hS.mem h.len h.blk hrv⟩

theorem CPost.trans {p : Nat} {μ' : Mu} {mem mem' : Mem} {sh' : Nat → Prop} {w' : World} {k : Ex → St → Option R} {r : R} (hW : Wv p μ mem sh w μ' mem' sh' w') {e : Exit} {a : Act} {w'' : World} (h : CPost p μ' mem' sh' w' k r e a w'') : CPost p μ mem sh w k r e a w'' := by
  obtain ⟨e', st'', μ'', sh'', h1, h2, h3, h4⟩ := h
  exact ⟨e', st'', μ'', sh'', h1, h2, h3, hW.trans h4⟩

theorem rounds_mono {c : Code} {Q Q' : Exit → Act → World → Prop} (h : ∀ e a w, Q e a w → Q' e a w) : ∀ (n : Nat) (a : Act) (w : World), Code.rounds P c Q n a w → Code.rounds P c Q' n a w
  | 0, _, _, hr => hr
  | n + 1, a, w, hr => wp_mono hr (fun e a' w' he => by cases e <;> first | exact rounds_mono h n a' w' he | exact h _ _ _ he)

/-- A loop as it stands. -/
theorem raw_ok (hT : TOk P T) (hΓ : GOk P Γ) (hD : DrawOk P T Γ) {p cur : Nat} {body : Code} (hL : LoopsOk P p Λ (loopsOf cur body)) (n : Nat) : LoopOk P p body (LoopSum.raw T Γ Λ cur body n) := by
  intro R st k r h μ sh a w hS
  refine wp_loop_rounds n ?_
  have key : ∀ (n : Nat) (st : St) (μ : Mu) (sh : Nat → Prop) (a : Act) (w : World), rawK T Γ Λ cur body n st k = some r → SR μ sh st a w → Code.rounds P body (CPost p μ st.mem sh w k r) n a w := by
    intro n
    induction n with
    | zero => intro st μ sh a w h _; cases h
    | succ n ih =>
      intro st μ sh a w h hS
      simp only [rawK] at h
      refine wp_mono (code_ok hT hΓ hD p body cur hL hS h) ?_
      rintro e a' w' ⟨e', st', μ', sh', he, hk, hS', hW⟩
      cases e <;> simp [absE] at he <;> subst he
      · exact rounds_mono (fun e a'' w'' => CPost.trans hW) n a' w' (ih st' μ' sh' a' w' hk hS')
      · exact ⟨_, st', μ', sh', rfl, hk, hS', hW⟩
      · exact ⟨_, st', μ', sh', rfl, hk, hS', hW⟩
  exact key n st μ sh a w h hS

/-- A loop whose rounds are told by a function. -/
theorem loop_ok (hT : TOk P T) (hΓ : GOk P Γ) (hD : DrawOk P T Γ) {l : LSh} {p cur : Nat} {body : Code} (hL : LoopsOk P p Λ (loopsOf cur body))
    {B : l.sh.den → {S : Type} → (l.sh.den → Option S) → (l.out.den → Option S) → (l.ret.den → Option S) → Option S}
    (hB : ∀ (S : Type) (x : l.sh.den) (kn : l.sh.den → Option S) (kx : l.out.den → Option S) (kr : l.ret.den → Option S), roundK T Γ Λ l p cur body x kn kx kr = B x kn kx kr)
    {L : l.sh.den → {S : Type} → (l.out.den → Option S) → (l.ret.den → Option S) → Option S}
    (hI : ∀ (S : Type) (x : l.sh.den) (k : l.out.den → Option S) (kr : l.ret.den → Option S) (r : S), L x k kr = some r → ∃ n, iter B n x k kr = some r) : LoopOk P p body (LoopSum.of l p L) := by
  intro R st k r h μ sh a w hS
  simp only [LoopSum.of] at h
  cases hd : l.sh.dec p st with
  | none => rw [hd] at h; cases h
  | some y =>
    rw [hd] at h
    simp only [Option.bind_some] at h
    obtain ⟨x, E⟩ := y
    obtain ⟨n, h⟩ := hI _ _ _ _ _ h
    have hR := StSh.dec_ok hd
    have hS1 := hR.sr hS
    have hW1 := (hR.mem hS.mem).2
    refine wp_loop_rounds n ?_
    have key : ∀ (n : Nat) (x : l.sh.den) (μ : Mu) (sh : Nat → Prop) (a : Act) (w : World), iter B n x (fun z => k (.exit l.x) (l.out.enc z)) (fun z => k .ret (l.ret.enc z)) = some r → SR μ sh (l.sh.enc x) a w → Code.rounds P body (CPost p μ (l.sh.enc x).mem sh w k r) n a w := by
      intro n
      induction n with
      | zero => intro x μ sh a w h _; cases h
      | succ n ih =>
        intro x μ sh a w h hS
        simp only [iter] at h
        rw [← hB] at h
        unfold roundK at h
        refine wp_mono (code_ok hT hΓ hD p body cur hL hS h) ?_
        rintro e a' w' ⟨e', st', μ', sh', he, hk, hS', hW⟩
        have leave : ∀ (out : StSh) (e' : Ex), absE e = some e' → ((out.dec p st').bind fun y => k e' (out.enc y.1)) = some r → CPost p μ (l.sh.enc x).mem sh w k r e a' w' := by
          intro out e' he hk
          cases hd : out.dec p st' with
          | none => rw [hd] at hk; cases hk
          | some y =>
            rw [hd] at hk
            obtain ⟨y, E⟩ := y
            have hR := StSh.dec_ok hd
            exact ⟨e', _, _, _, he, hk, hR.sr hS', hW.trans (hR.mem hS'.mem).2⟩
        cases e <;> simp [absE] at he <;> subst he
        · simp only at hk
          cases hd : l.sh.dec p st' with
          | none => rw [hd] at hk; cases hk
          | some y =>
            rw [hd] at hk
            obtain ⟨y, E⟩ := y
            have hR := StSh.dec_ok hd
            exact rounds_mono (fun e a'' w'' hc => CPost.trans hW (CPost.trans (hR.mem hS'.mem).2 hc)) n a' w' (ih y _ _ a' w' hk (hR.sr hS'))
        · rename_i id
          simp only at hk
          cases hq : (id == l.x) with
          | false => rw [hq] at hk; cases hk
          | true =>
            rw [hq] at hk
            have : id = l.x := by simpa using hq
            subst this
            exact leave _ _ rfl hk
        · exact leave _ _ rfl hk
    exact rounds_mono (fun e a' w' hc => CPost.trans hW1 hc) n a w (key n x _ _ a w h hS1)

end
end Am

/- THE ABSTRACT MACHINE: what a call leaves is laid back. -/
namespace Am
open Go

def isSome2 : Option (Option (Option Nat)) → Option Nat
  | some (some (some j)) => some j
  | _ => none

def muNews : List (Option (Option Nat)) → Mu → Mu
  | some (some _) :: e, _ :: l => none :: muNews e l
  | _ :: e, m :: l => m :: muNews e l
  | [], m :: l => m :: muNews [] l
  | _, [] => []

theorem news_len (ρ : Nat → Nat) : ∀ (e : List (Option (Option Nat))) (bs : List Blk), (news ρ e bs).length = bs.length
  | [], [] => rfl
  | _ :: _, [] => by simp [news]
  | [], b :: bs => by simp [news, news_len ρ [] bs]
  | some (some _) :: e, b :: bs => by simp [news, news_len ρ e bs]
  | some none :: e, b :: bs => by simp [news, news_len ρ e bs]
  | none :: e, b :: bs => by simp [news, news_len ρ e bs]

theorem muNews_len : ∀ (e : List (Option (Option Nat))) (l : Mu), (muNews e l).length = l.length
  | [], [] => rfl
  | _ :: _, [] => by simp [muNews]
  | [], b :: bs => by simp [muNews, muNews_len [] bs]
  | some (some _) :: e, b :: bs => by simp [muNews, muNews_len e bs]
  | some none :: e, b :: bs => by simp [muNews, muNews_len e bs]
  | none :: e, b :: bs => by simp [muNews, muNews_len e bs]

theorem news_get (ρ : Nat → Nat) : ∀ (e : List (Option (Option Nat))) (bs : List Blk) (i : Nat) (b : Blk), bs[i]? = some b → (news ρ e bs)[i]? = some (if (isSome2 e[i]?).isSome then .dead else b.ren ρ)
  | [], [], _, _, h => by simp at h
  | _ :: _, [], _, _, h => by simp at h
  | [], b :: bs, 0, c, h => by simp at h; subst h; simp [news, isSome2]
  | some (some _) :: e, b :: bs, 0, c, h => by simp at h; subst h; simp [news, isSome2]
  | some none :: e, b :: bs, 0, c, h => by simp at h; subst h; simp [news, isSome2]
  | none :: e, b :: bs, 0, c, h => by simp at h; subst h; simp [news, isSome2]
  | [], b :: bs, i + 1, c, h => by simpa [news, isSome2] using news_get ρ [] bs i c (by simpa using h)
  | some (some _) :: e, b :: bs, i + 1, c, h => by simpa [news] using news_get ρ e bs i c (by simpa using h)
  | some none :: e, b :: bs, i + 1, c, h => by simpa [news] using news_get ρ e bs i c (by simpa using h)
  | none :: e, b :: bs, i + 1, c, h => by simpa [news] using news_get ρ e bs i c (by simpa using h)

theorem muNews_get : ∀ (e : List (Option (Option Nat))) (l : Mu) (i : Nat) (b : Option (Nat × Nat)), l[i]? = some b → (muNews e l)[i]? = some (if (isSome2 e[i]?).isSome then none else b)
  | [], [], _, _, h => by simp at h
  | _ :: _, [], _, _, h => by simp at h
  | [], b :: bs, 0, c, h => by simp at h; subst h; simp [muNews, isSome2]
  | some (some _) :: e, b :: bs, 0, c, h => by simp at h; subst h; simp [muNews, isSome2]
  | some none :: e, b :: bs, 0, c, h => by simp at h; subst h; simp [muNews, isSome2]
  | none :: e, b :: bs, 0, c, h => by simp at h; subst h; simp [muNews, isSome2]
  | [], b :: bs, i + 1, c, h => by simpa [muNews, isSome2] using muNews_get [] bs i c (by simpa using h)
  | some (some _) :: e, b :: bs, i + 1, c, h => by simpa [muNews] using muNews_get e bs i c (by simpa using h)
  | some none :: e, b :: bs, i + 1, c, h => by simpa [muNews] using muNews_get e bs i c (by simpa using h)
  | none :: e, b :: bs, i + 1, c, h => by simpa [muNews] using muNews_get e bs i c (by simpa using h)

theorem wbs_len (ρ : Nat → Nat) : ∀ (e : List (Option (Option Nat))) (bs : List Blk) (mem : Mem), (wbs ρ e bs mem).length = mem.length
  | some (some j) :: e, b :: bs, mem => by simp [wbs, wbs_len ρ e bs]
  | some none :: e, b :: bs, mem => by simp [wbs, wbs_len ρ e bs]
  | none :: e, b :: bs, mem => by simp [wbs, wbs_len ρ e bs]
  | [], _, mem => by simp [wbs]
  | _ :: _, [], mem => by simp [wbs]

theorem wbs_n (ρ : Nat → Nat) (e : List (Option (Option Nat))) (b : Blk) (bs : List Blk) (mem : Mem) : wbs ρ (some none :: e) (b :: bs) mem = wbs ρ e bs mem := by simp [wbs]
theorem wbs_m (ρ : Nat → Nat) (e : List (Option (Option Nat))) (b : Blk) (bs : List Blk) (mem : Mem) : wbs ρ (none :: e) (b :: bs) mem = wbs ρ e bs mem := by simp [wbs]

theorem wbs_other (ρ : Nat → Nat) {j : Nat} : ∀ (e : List (Option (Option Nat))) (bs : List Blk) (mem : Mem), (∀ i : Nat, i < bs.length → e[i]? ≠ some (some (some j))) → (wbs ρ e bs mem)[j]? = mem[j]?
  | some (some k) :: e, b :: bs, mem, h => by
    rw [wbs, wbs_other ρ e bs _ (fun i hi => by simpa using h (i + 1) (by simpa using hi))]
    refine List.getElem?_set_ne ?_
    rintro rfl
    exact h 0 (by simp) rfl
  | some none :: e, b :: bs, mem, h => by rw [wbs_n]; exact wbs_other ρ e bs _ (fun i hi => by simpa using h (i + 1) (by simpa using hi))
  | none :: e, b :: bs, mem, h => by rw [wbs_m]; exact wbs_other ρ e bs _ (fun i hi => by simpa using h (i + 1) (by simpa using hi))
  | [], _, mem, h => by simp [wbs]
  | _ :: _, [], mem, h => by simp [wbs]

theorem wbs_bound (ρ : Nat → Nat) {j : Nat} {b : Blk} : ∀ (e : List (Option (Option Nat))) (bs : List Blk) (mem : Mem) (i : Nat), (∀ i k : Nat, e[i]? = some (some (some j)) → e[k]? = some (some (some j)) → i = k) → e[i]? = some (some (some j)) → bs[i]? = some b → j < mem.length →
    (wbs ρ e bs mem)[j]? = some (b.ren ρ)
  | [], _, _, i, _, h, _, _ => by simp at h
  | _ :: _, [], _, i, _, _, h, _ => by simp at h
  | x :: e, c :: bs, mem, 0, hn, h, hb, hj => by
    simp at h hb
    subst h hb
    rw [wbs, wbs_other]
    · exact List.getElem?_set_self hj
    · intro i hi he
      have := hn 0 (i + 1) rfl (by simpa using he)
      omega
  | x :: e, c :: bs, mem, i + 1, hn, h, hb, hj => by
    have hn' : ∀ i k : Nat, e[i]? = some (some (some j)) → e[k]? = some (some (some j)) → i = k := fun i k h1 h2 => by
      have := hn (i + 1) (k + 1) (by simpa using h1) (by simpa using h2); omega
    match x with
    | some (some k) => rw [wbs]; exact wbs_bound ρ e bs _ i hn' (by simpa using h) (by simpa using hb) (by simpa using hj)
    | some none => rw [wbs_n]; exact wbs_bound ρ e bs _ i hn' (by simpa using h) (by simpa using hb) hj
    | none => rw [wbs_m]; exact wbs_bound ρ e bs _ i hn' (by simpa using h) (by simpa using hb) hj

theorem kills_len : ∀ (e : List (Option (Option Nat))) (mem : Mem), (kills e mem).length = mem.length
  | some (some j) :: e, mem => by simp [kills, kills_len e]
  | some none :: e, mem => by simp [kills, kills_len e]
  | none :: e, mem => by simp [kills, kills_len e]
  | [], mem => rfl

theorem kills_n (e : List (Option (Option Nat))) (mem : Mem) : kills (some none :: e) mem = kills e mem := by simp [kills]
theorem kills_m (e : List (Option (Option Nat))) (mem : Mem) : kills (none :: e) mem = kills e mem := by simp [kills]

/-- A block is killed or as it was. -/
theorem kills_get : ∀ (e : List (Option (Option Nat))) (mem : Mem) (j : Nat) (b : Blk), (kills e mem)[j]? = some b → b = .dead ∨ (mem[j]? = some b ∧ ∀ i : Nat, e[i]? ≠ some (some (some j)))
  | some (some k) :: e, mem, j, b, h => by
    rw [kills] at h
    rcases kills_get e _ j b h with h | ⟨h1, h2⟩
    · exact .inl h
    · by_cases hk : k = j
      · subst hk
        rw [List.getElem?_set] at h1
        simp only [if_true] at h1
        split at h1
        · cases h1; exact .inl rfl
        · cases h1
      · rw [List.getElem?_set_ne hk] at h1
        refine .inr ⟨h1, fun i => ?_⟩
        cases i with
        | zero => simp only [List.getElem?_cons_zero]; intro h3; cases h3; exact hk rfl
        | succ i => simpa using h2 i
  | some none :: e, mem, j, b, h => by
    rw [kills_n] at h
    rcases kills_get e _ j b h with h | ⟨h1, h2⟩
    · exact .inl h
    · exact .inr ⟨h1, fun i => by cases i with
        | zero => simp
        | succ i => simpa using h2 i⟩
  | none :: e, mem, j, b, h => by
    rw [kills_m] at h
    rcases kills_get e _ j b h with h | ⟨h1, h2⟩
    · exact .inl h
    · exact .inr ⟨h1, fun i => by cases i with
        | zero => simp
        | succ i => simpa using h2 i⟩
  | [], mem, j, b, h => .inr ⟨h, fun i => by simp⟩

/-- What is not killed stays. -/
theorem kills_keep (e : List (Option (Option Nat))) (mem : Mem) (j : Nat) (b : Blk) (hb : mem[j]? = some b) : (kills e mem)[j]? = some b ∨ (kills e mem)[j]? = some .dead := by
  have hj : j < (kills e mem).length := by rw [kills_len]; exact (List.getElem?_eq_some_iff.1 hb).1
  have hg : (kills e mem)[j]? = some (kills e mem)[j] := List.getElem?_eq_getElem hj
  rcases kills_get e mem j _ hg with h | ⟨h, _⟩
  · right; rw [hg, h]
  · left; rw [hg, ← h, hb]

theorem wbs_same (ρ : Nat → Nat) : ∀ (e : List (Option (Option Nat))) (bs : List Blk) (mem : Mem), (∀ (i j : Nat) b, e[i]? = some (some (some j)) → bs[i]? = some b → mem[j]? = some (b.ren ρ)) → wbs ρ e bs mem = mem
  | some (some j) :: e, b :: bs, mem, h => by
    have h0 := h 0 j b rfl rfl
    have hs : mem.set j (b.ren ρ) = mem := by
      apply List.ext_getElem?
      intro i
      rw [List.getElem?_set]
      split
      · rename_i he; subst he; rw [if_pos (List.getElem?_eq_some_iff.1 h0).1, h0]
      · rfl
    rw [wbs, hs]
    exact wbs_same ρ e bs mem (fun i j b h1 h2 => h (i + 1) j b (by simpa using h1) (by simpa using h2))
  | some none :: e, b :: bs, mem, h => by rw [wbs_n]; exact wbs_same ρ e bs mem (fun i j b h1 h2 => h (i + 1) j b (by simpa using h1) (by simpa using h2))
  | none :: e, b :: bs, mem, h => by rw [wbs_m]; exact wbs_same ρ e bs mem (fun i j b h1 h2 => h (i + 1) j b (by simpa using h1) (by simpa using h2))
  | [], _, mem, h => by simp [wbs]
  | _ :: _, [], mem, h => by simp [wbs]

mutual
theorem AV.ren_same (ρ : Nat → Nat) : ∀ v : AV, (v.ren ρ).same v
  | .ptr _ _ => AV.same_atoms rfl rfl
  | .slice _ => AV.same_atoms rfl rfl
  | .fn _ _ => AV.same_atoms rfl rfl
  | .comp fs => by
    have := AV.rens_same ρ fs
    refine ⟨by simp [AV.ren, AV.size, this.1], rfl, fun p => ?_⟩
    cases p with
    | nil => simp [AV.ren, AV.okp, AV.off]
    | cons s p => cases s <;> simp [AV.ren, AV.okp, AV.off, (this.2 _ p).1, (this.2 _ p).2]
  | .tup vs => ⟨rfl, rfl, fun p => by cases p <;> simp [AV.ren, AV.okp, AV.off]⟩
  | .val _ _ | .nilp | .nils | .nilf | .elem _ _ | .undef => AV.same_refl _
theorem AV.rens_same (ρ : Nat → Nat) : ∀ l : List AV, AV.sizes (AV.rens ρ l) = AV.sizes l ∧ ∀ i p, AV.okps (AV.rens ρ l) i p = AV.okps l i p ∧ AV.offs (AV.rens ρ l) i p = AV.offs l i p
  | [] => ⟨rfl, fun _ _ => ⟨rfl, rfl⟩⟩
  | v :: l => by
    have h1 := AV.ren_same ρ v
    have h2 := AV.rens_same ρ l
    refine ⟨by simp [AV.rens, AV.sizes, h1.1, h2.1], fun i p => ?_⟩
    cases i with
    | zero => simp [AV.rens, AV.okps, AV.offs, (h1.2.2 p).1, (h1.2.2 p).2]
    | succ i => simp [AV.rens, AV.okps, AV.offs, (h2.2 i p).1, (h2.2 i p).2, h1.1]
end

theorem Blk.ren_lay (ρ : Nat → Nat) (b : Blk) : BLay b (b.ren ρ) := by
  cases b with
  | var v =>
    have := AV.ren_same ρ v
    exact ⟨this.1.symm, this.2.1.symm, fun p => ⟨(this.2.2 p).1.symm, (this.2.2 p).2.symm⟩⟩
  | _ => exact BLay.refl _

theorem Blk.ren_dead {ρ : Nat → Nat} {b : Blk} : b.ren ρ = .dead ↔ b = .dead := by cases b <;> simp [Blk.ren]

theorem AV.ren_agg (ρ : Nat → Nat) (v : AV) : (v.ren ρ).agg = v.agg := (AV.ren_same ρ v).2.1

mutual
def AV.flat : AV → Bool
  | .val t _ => t.flat
  | .elem _ _ => false
  | .fn _ cs => AV.flats cs
  | .comp fs => AV.flats fs
  | .tup vs => AV.flats vs
  | _ => true
def AV.flats : List AV → Bool
  | [] => true
  | s :: l => s.flat && AV.flats l
end

def Blk.flat : Blk → Bool
  | .var v => v.flat
  | .list t _ => t.flat
  | _ => true

theorem EncL.mono' {α : Type} {f g : α → List Value → Prop} (h : ∀ x c, f x c → g x c) (l : List α) (cs : List Value) : EncL f l cs → EncL g l cs := EncL.mono h l cs

theorem Enc.flat {sh sh' : Nat → Prop} {w w' : World} : ∀ (t : Ty), t.flat = true → ∀ (x : t.den) (cs : List Value), Enc sh w t x cs → Enc sh' w' t x cs
  | .int _, _, _, _, h => h
  | .bool, _, _, _, h => h
  | .str, _, _, _, h => h
  | .unit, _, _, _, h => h
  | .pair a b, hf, x, cs, ⟨c, d, e, hc, hd⟩ => by
    simp only [Ty.flat, Bool.and_eq_true] at hf
    exact ⟨c, d, e, Enc.flat a hf.1 _ _ hc, Enc.flat b hf.2 _ _ hd⟩
  | .arr n t, hf, x, cs, ⟨hn, h⟩ => ⟨hn, EncL.mono (Enc.flat t hf) x cs h⟩
  | .list _, hf, _, _, _ => by cases hf

mutual
theorem Sh.flat_enc : ∀ (s : Sh) (X : Type) (x : s.den X), s.flat = true → (s.enc X x).1.flat = true
  | .undef, _, _, _ => rfl
  | .hole t, _, _, h => h
  | .elem _, _, _, h => by cases h
  | .ptr _ _, _, _, _ => rfl
  | .nilp, _, _, _ => rfl
  | .slice _, _, _, _ => rfl
  | .nils, _, _, _ => rfl
  | .fn _ cs, X, x, h => Sh.flats_enc cs X x h
  | .nilf, _, _, _ => rfl
  | .comp fs, X, x, h => Sh.flats_enc fs X x h
  | .tup vs, X, x, h => Sh.flats_enc vs X x h
theorem Sh.flats_enc : ∀ (l : List Sh) (X : Type) (x : Sh.dens l X), Sh.flats l = true → AV.flats (Sh.encs l X x).1 = true
  | [], _, _, _ => rfl
  | s :: l, X, x, h => by
    simp only [Sh.flats, Bool.and_eq_true] at h
    simp only [Sh.encs, AV.flats, Bool.and_eq_true]
    exact ⟨Sh.flat_enc s _ _ h.1, Sh.flats_enc l _ _ h.2⟩
end

theorem BSh.flat_enc (b : BSh) (X : Type) (x : b.den X) (h : b.flat = true) : (b.enc X x).1.flat = true := by
  cases b with
  | var s => exact Sh.flat_enc s X x h
  | list t => exact h
  | iter => rfl
  | dead => rfl

theorem BSh.flats_enc : ∀ (l : List BSh) (X : Type) (x : BSh.dens l X), l.all BSh.flat = true → ∀ b ∈ (BSh.encs l X x).1, b.flat = true
  | [], _, _, _, b, hb => by simp [BSh.encs] at hb
  | s :: l, X, x, h, b, hb => by
    simp only [List.all_cons, Bool.and_eq_true] at h
    simp only [BSh.encs, List.mem_cons] at hb
    rcases hb with rfl | hb
    · exact BSh.flat_enc s _ _ h.1
    · exact BSh.flats_enc l _ _ h.2 b hb

theorem StSh.flat_enc {s : StSh} (x : s.den) (h : s.flat = true) : AV.flats (s.enc x).fr = true ∧ ∀ b ∈ (s.enc x).mem, b.flat = true := by
  simp only [StSh.flat, Bool.and_eq_true] at h
  exact ⟨Sh.flats_enc _ _ _ h.1, BSh.flats_enc _ _ _ h.2⟩

section
variable {ρ : Nat → Nat} {μ μ' : Mu} {mem mem' : Mem} {sh sh' : Nat → Prop} {w : World}

/-- Each block stands somewhere else. -/
def Moved (ρ : Nat → Nat) (μ : Mu) (mem : Mem) (μ' : Mu) (mem' : Mem) : Prop :=
  ∀ i b, mem[i]? = some b → mem'[ρ i]? = some (b.ren ρ) ∧ (b ≠ .dead → μ'[ρ i]? = μ[i]?)

theorem PtrR.moved (hm : Moved ρ μ mem μ' mem') {i : Nat} {p : List Step} {x : Value} (h : PtrR μ mem i p x) : PtrR μ' mem' (ρ i) p x := by
  have hp := h.pointer
  unfold PtrR at h ⊢
  cases hb : mem[i]? with
  | none => rw [hb] at h; exact h.elim
  | some b =>
    rw [hb] at h
    obtain ⟨h1, h2⟩ := hm i b hb
    rw [h1]
    have hl := (Blk.ren_lay ρ b).okp p
    cases b with
    | dead => exact hp
    | var v =>
      obtain ⟨g, n, k1, k2, k3⟩ := h
      exact ⟨g, n, by rw [h2 (by simp)]; exact k1, by rw [← hl.1]; exact k2, by rw [← hl.2]; exact k3⟩
    | list t l =>
      obtain ⟨g, n, k1, k2, k3⟩ := h
      exact ⟨g, n, by rw [h2 (by simp)]; exact k1, k2, k3⟩
    | iter s n =>
      obtain ⟨g, n, k1, k2, k3⟩ := h
      exact ⟨g, n, by rw [h2 (by simp)]; exact k1, k2, k3⟩

theorem SlR.moved (hm : Moved ρ μ mem μ' mem') {i : Nat} {x : Value} (h : SlR μ mem i x) : SlR μ' mem' (ρ i) x := by
  have hp := h.slice
  unfold SlR at h ⊢
  cases hb : mem[i]? with
  | none => rw [hb] at h; exact h.elim
  | some b =>
    rw [hb] at h
    obtain ⟨h1, h2⟩ := hm i b hb
    rw [h1]
    cases b with
    | dead => exact hp
    | var v => exact h.elim
    | list t l => simp only [Blk.ren]; rw [h2 (by simp)]; exact h
    | iter s n => exact h.elim

mutual
theorem RC.moved (hm : Moved ρ μ mem μ' mem') {fl : Bool} (hk : fl = false → ∀ g, sh g → sh' g) : ∀ (v : AV) (cs : List Value), (fl = true → v.flat = true) → RC μ mem sh w v cs → RC μ' mem' sh' w (v.ren ρ) cs
  | .val t x, cs, hf, h => by
    cases fl with
    | false => exact Enc.keep ⟨hk rfl, fun _ _ => rfl⟩ t x cs h
    | true => exact Enc.flat t (hf rfl) x cs h
  | .ptr i p, cs, _, ⟨x, e, h⟩ => ⟨x, e, h.moved hm⟩
  | .nilp, cs, _, h => h
  | .slice i, cs, _, ⟨x, e, h⟩ => ⟨x, e, h.moved hm⟩
  | .nils, cs, _, h => h
  | .fn f caps, cs, hf, ⟨vs, e, h⟩ => ⟨vs, e, RVs.moved hm hk caps vs hf h⟩
  | .nilf, cs, _, h => h
  | .comp fs, cs, hf, h => RCs.moved hm hk fs cs hf h
  | .tup vs, cs, hf, ⟨l, e, h⟩ => ⟨l, e, RVs.moved hm hk vs l hf h⟩
  | .elem t x, cs, hf, h => by
    cases fl with
    | true => cases hf rfl
    | false =>
      obtain ⟨b, off, c, e, cs', h1, h2, h3, h4, h5⟩ := h
      exact ⟨b, off, c, e, cs', h1, hk rfl _ h2, h3, Enc.keep ⟨hk rfl, fun _ _ => rfl⟩ t x cs' h4, h5⟩
  | .undef, cs, _, h => h
theorem RCs.moved (hm : Moved ρ μ mem μ' mem') {fl : Bool} (hk : fl = false → ∀ g, sh g → sh' g) : ∀ (l : List AV) (cs : List Value), (fl = true → AV.flats l = true) → RCs μ mem sh w l cs → RCs μ' mem' sh' w (AV.rens ρ l) cs
  | [], cs, _, h => h
  | a :: l, cs, hf, ⟨c, d, e, h1, h2⟩ => ⟨c, d, e, RC.moved hm hk a c (fun h => by have := hf h; simp only [AV.flats, Bool.and_eq_true] at this; exact this.1) h1, RCs.moved hm hk l d (fun h => by have := hf h; simp only [AV.flats, Bool.and_eq_true] at this; exact this.2) h2⟩
theorem RVs.moved (hm : Moved ρ μ mem μ' mem') {fl : Bool} (hk : fl = false → ∀ g, sh g → sh' g) : ∀ (l : List AV) (vs : List Value), (fl = true → AV.flats l = true) → RVs μ mem sh w l vs → RVs μ' mem' sh' w (AV.rens ρ l) vs
  | [], cs, _, h => h
  | a :: l, vs, hf, ⟨v, rest, cs, e, h1, h2, h3⟩ => ⟨v, rest, cs, e, RC.moved hm hk a cs (fun h => by have := hf h; simp only [AV.flats, Bool.and_eq_true] at this; exact this.1) h1, by rw [AV.ren_agg]; exact h2,
      RVs.moved hm hk l rest (fun h => by have := hf h; simp only [AV.flats, Bool.and_eq_true] at this; exact this.2) h3⟩
end

theorem BR.moved (hm : Moved ρ μ mem μ' mem') {fl : Bool} (hk : fl = false → ∀ g, sh g → sh' g) (hn : ∀ g, ¬ sh g → ¬ sh' g) {i : Nat} {b : Blk} (hb : mem[i]? = some b) (hf : fl = true → b.flat = true) (h : BR μ mem sh w i b) : BR μ' mem' sh' w (ρ i) (b.ren ρ) := by
  obtain ⟨_, h2⟩ := hm i b hb
  cases b with
  | dead => trivial
  | var v =>
    obtain ⟨g, n, c, e, k1, k2, k3, k4, k5⟩ := h
    exact ⟨g, n, c, e, by rw [h2 (by simp)]; exact k1, k2, k3, RC.moved hm hk v _ hf k4, hn _ k5⟩
  | list t l =>
    rcases h with ⟨k1, k2⟩ | ⟨g, n, c, e, cs, k1, k2, k3, k4, k5, k6⟩
    · exact .inl ⟨by rw [h2 (by simp)]; exact k1, k2⟩
    · refine .inr ⟨g, n, c, e, cs, by rw [h2 (by simp)]; exact k1, k2, k3, ?_, k5, hn _ k6⟩
      cases fl with
      | false => exact EncL.mono (Enc.keep ⟨hk rfl, fun _ _ => rfl⟩ t) l cs k4
      | true => exact EncL.mono (Enc.flat t (hf rfl)) l cs k4
  | iter s m =>
    obtain ⟨g, n, k1, k2, k3⟩ := h
    exact ⟨g, n, by rw [h2 (by simp)]; exact k1, k2, hn _ k3⟩

end
end Am

/- THE ABSTRACT MACHINE: functions, as they are called. -/
namespace Am
open Go

section
variable {μ μ2 : Mu} {mem bs0 bs2 : Mem} {sh sh2 : Nat → Prop} {w w2 : World} {E : Env}

/-- Behind a call: the callee's blocks are laid back into the caller's memory. -/
theorem back_ok (hM : MemR μ mem sh w) (hlen : E.b.length = bs0.length) (hfine : E.fine = true) (hlent : ∀ j ∈ E.l, ∃ t l, mem[j]? = some (.list t l)) (hB : ∀ i b, bs0[i]? = some b → BRen E mem i b)
    (hhas : ∀ i j : Nat, E.b[i]? = some (some (some j)) → j < mem.length) (hM2 : MemR μ2 bs2 sh2 w2) {p : Nat} (hp0 : p ≤ bs0.length) (hW : Wv p (muOf μ E bs0) bs0 (shOf μ E sh) w μ2 bs2 sh2 w2) (hle : p ≤ bs2.length)
    {v : AV} {u : Value} (hV : RV μ2 bs2 sh2 w2 v u) (hflat : E.l = [] ∨ (v.flat = true ∧ ∀ b ∈ bs2, b.flat = true)) :
    ∃ μN shN, MemR μN (wbs ((E.cut p).rho mem.length) (E.cut p).b bs2 (kills (E.b.drop p) mem) ++ news ((E.cut p).rho mem.length) (E.cut p).b bs2) shN w2 ∧ RV μN (wbs ((E.cut p).rho mem.length) (E.cut p).b bs2 (kills (E.b.drop p) mem) ++ news ((E.cut p).rho mem.length) (E.cut p).b bs2) shN w2 (v.ren ((E.cut p).rho mem.length)) u ∧
      Mv μ mem sh w μN (wbs ((E.cut p).rho mem.length) (E.cut p).b bs2 (kills (E.b.drop p) mem) ++ news ((E.cut p).rho mem.length) (E.cut p).b bs2) shN w2 := by
  obtain ⟨hinj, hdis⟩ := Env.fine_spec hfine
  generalize hρ : (E.cut p).rho mem.length = ρ
  generalize hC : (E.cut p).b = C
  have hCb : ∀ i : Nat, i < p → C[i]? = E.b[i]? := fun i hi => by rw [← hC]; exact List.getElem?_take_of_lt hi
  have hCn : ∀ i : Nat, p ≤ i → C[i]? = none := fun i hi => by rw [← hC]; exact List.getElem?_eq_none (by simp [Env.cut]; omega)
  have hCE : ∀ i j : Nat, C[i]? = some (some (some j)) → i < p ∧ E.b[i]? = some (some (some j)) := by
    intro i j h
    rcases Nat.lt_or_ge i p with hi | hi
    · exact ⟨hi, by rw [← hCb i hi]; exact h⟩
    · rw [hCn i hi] at h; cases h
  have rho_b : ∀ i j : Nat, C[i]? = some (some (some j)) → ρ i = j := by intro i j h; rw [← hρ]; rw [← hC] at h; simp [Env.rho, h]
  have rho_n : ∀ i : Nat, isSome2 C[i]? = none → ρ i = mem.length + i := by
    intro i h; rw [← hρ]; rw [← hC] at h; unfold Env.rho
    split
    · rename_i hh; rw [hh] at h; cases h
    · rfl
  have some2 : ∀ i : Nat, (∃ j, C[i]? = some (some (some j))) ∨ isSome2 C[i]? = none := by
    intro i
    cases h : isSome2 C[i]? with
    | none => exact .inr rfl
    | some j =>
      left
      unfold isSome2 at h
      split at h
      · rename_i hh; exact ⟨_, hh⟩
      · cases h
  have hbl : ∀ i j : Nat, E.b[i]? = some (some (some j)) → i < bs0.length := fun i j h => by rw [← hlen]; exact (List.getElem?_eq_some_iff.1 h).1
  generalize hK0 : kills (E.b.drop p) mem = memK
  have hKl : memK.length = mem.length := by rw [← hK0]; exact kills_len _ _
  let memN := wbs ρ C bs2 memK ++ news ρ C bs2
  let μN : Mu := μ ++ muNews C μ2
  let lentg : Nat → Prop := fun g => ∃ (j n : Nat), j ∈ E.l ∧ μ[j]? = some (some (g, n))
  let shN : Nat → Prop := fun g => sh2 g ∧ ¬ lentg g
  have hwl : (wbs ρ C bs2 memK).length = mem.length := by rw [wbs_len, hKl]
  have hlen2 := hM2.len
  -- what was taken along
  have F1 : ∀ (i j : Nat) b2, C[i]? = some (some (some j)) → bs2[i]? = some b2 → b2 ≠ .dead → ∃ c, mem[j]? = some c ∧ c ≠ .dead ∧ BLay c b2 ∧ μ2[i]? = μ[j]? := by
    intro i j b2 hC0 hb hd
    obtain ⟨hip, hE⟩ := hCE i j hC0
    have hi := hbl i j hE
    have hb0 : bs0[i]? = some bs0[i] := List.getElem?_eq_getElem hi
    obtain ⟨b', hb', hor⟩ := hW.pin i _ hip hb0
    rw [hb] at hb'; cases hb'
    rcases hor with h | ⟨h1, h2⟩
    · exact absurd h hd
    have hd0 : bs0[i] ≠ .dead := by
      intro h0
      rw [h0] at h2
      cases b2 <;> simp [BLay] at h2
      exact hd rfl
    rcases (hB i _ hb0).bound hd0 with h | ⟨j', c, k1, k2, k3, k4⟩
    · rw [hE] at h; cases h
    rw [hE] at k1; cases k1
    refine ⟨c, k2, k3, k4.trans h2, ?_⟩
    rw [h1, muOf_get hb0 hd0, hE]
    have hlm : j < μ.length := by rw [hM.len]; exact (List.getElem?_eq_some_iff.1 k2).1
    simp [hlm]
  -- whose the callee's old places are
  have F0 : ∀ (i g n : Nat), (muOf μ E bs0)[i]? = some (some (g, n)) → ∃ j c, E.b[i]? = some (some (some j)) ∧ μ[j]? = some (some (g, n)) ∧ mem[j]? = some c ∧ c ≠ .dead := by
    intro i g n h
    obtain ⟨j, h1, h2, b, h3, h4⟩ := muOf_some h
    rcases (hB i b h3).bound h4 with k | ⟨j', c, k1, k2, k3, _⟩
    · rw [h1] at k; cases k
    rw [h1] at k1; cases k1
    exact ⟨j, c, h1, h2, k2, k3⟩
  have hlm : μ.length = mem.length := hM.len
  -- places
  have muN_old : ∀ j : Nat, j < mem.length → μN[j]? = μ[j]? := fun j hj => List.getElem?_append_left (by rw [hlm]; exact hj)
  have muN_new : ∀ i : Nat, μN[mem.length + i]? = (muNews C μ2)[i]? := fun i => by
    show (μ ++ muNews C μ2)[mem.length + i]? = _
    rw [List.getElem?_append_right (by omega), hlm]; congr 1; omega
  have memN_old : ∀ j : Nat, j < mem.length → memN[j]? = (wbs ρ C bs2 memK)[j]? := fun j hj => List.getElem?_append_left (by rw [hwl]; exact hj)
  have memN_new : ∀ i : Nat, memN[mem.length + i]? = (news ρ C bs2)[i]? := fun i => by
    show (wbs ρ C bs2 memK ++ news ρ C bs2)[mem.length + i]? = _
    rw [List.getElem?_append_right (by omega), hwl]; congr 1; omega
  have F4 : Moved ρ μ2 bs2 μN memN := by
    intro i b hb
    rcases some2 i with ⟨j, hj⟩ | hn
    · have hjl := hhas i j (hCE i j hj).2
      rw [rho_b i j hj, memN_old j hjl, muN_old j hjl]
      refine ⟨wbs_bound ρ C bs2 memK i (fun i k h1 h2 => hinj i k j (hCE i j h1).2 (hCE k j h2).2) hj hb (by rw [hKl]; exact hjl), fun hd => ?_⟩
      obtain ⟨_, _, _, _, h⟩ := F1 i j b hj hb hd
      exact h.symm
    · rw [rho_n i hn, memN_new, muN_new, news_get ρ C bs2 i b hb]
      have hi : i < μ2.length := by rw [hlen2]; exact (List.getElem?_eq_some_iff.1 hb).1
      rw [muNews_get C μ2 i _ (List.getElem?_eq_getElem hi), hn]
      simp [hi]
  -- each block of the new memory
  have F6 : ∀ (id : Nat) b, memN[id]? = some b → (id < mem.length ∧ mem[id]? = some b ∧ (∀ i : Nat, E.b[i]? ≠ some (some (some id)))) ∨ (∃ i b2, bs2[i]? = some b2 ∧ id = ρ i ∧ b = b2.ren ρ) ∨ b = .dead := by
    intro id b hb
    by_cases hlt : id < mem.length
    · rw [memN_old id hlt] at hb
      by_cases hex : ∃ i : Nat, i < bs2.length ∧ C[i]? = some (some (some id))
      · obtain ⟨i, hi, hE⟩ := hex
        rw [wbs_bound ρ C bs2 memK i (fun i k h1 h2 => hinj i k id (hCE i id h1).2 (hCE k id h2).2) hE (List.getElem?_eq_getElem hi) (by rw [hKl]; exact hlt)] at hb
        cases hb
        exact .inr (.inl ⟨i, _, List.getElem?_eq_getElem hi, (rho_b i id hE).symm, rfl⟩)
      · have hno : ∀ i : Nat, i < bs2.length → C[i]? ≠ some (some (some id)) := fun i hi h => hex ⟨i, hi, h⟩
        rw [wbs_other ρ C bs2 memK hno, ← hK0] at hb
        rcases kills_get _ _ _ _ hb with h | ⟨h1, h2⟩
        · exact .inr (.inr h)
        · refine .inl ⟨hlt, h1, fun i h => ?_⟩
          rcases Nat.lt_or_ge i p with hi | hi
          · exact hno i (Nat.lt_of_lt_of_le hi hle) (by rw [hCb i hi]; exact h)
          · refine h2 (i - p) ?_
            rw [List.getElem?_drop, show p + (i - p) = i by omega]
            exact h
    · obtain ⟨i, rfl⟩ : ∃ i, id = mem.length + i := ⟨id - mem.length, by omega⟩
      rw [memN_new] at hb
      have hi : i < bs2.length := by
        have := (List.getElem?_eq_some_iff.1 hb).1
        rwa [news_len] at this
      rw [news_get ρ C bs2 i _ (List.getElem?_eq_getElem hi)] at hb
      rcases some2 i with ⟨j, hj⟩ | hn
      · rw [hj] at hb; simp [isSome2] at hb; exact .inr (.inr hb.symm)
      · rw [hn] at hb
        simp only [Option.isSome_none, Bool.false_eq_true, if_false, Option.some.injEq] at hb
        exact .inr (.inl ⟨i, _, List.getElem?_eq_getElem hi, (rho_n i hn).symm, hb.symm⟩)
  -- an old block that was not taken along is nobody's else
  have nobody : ∀ (id g n : Nat) b, mem[id]? = some b → b ≠ .dead → (∀ i : Nat, E.b[i]? ≠ some (some (some id))) → μ[id]? = some (some (g, n)) → ∀ (i m : Nat), (muOf μ E bs0)[i]? ≠ some (some (g, m)) := by
    intro id g n b hb hd hno hg i m h
    obtain ⟨j, c, h1, h2, h3, h4⟩ := F0 i g m h
    have := hM.inj id j g n m b c hb h3 hd h4 hg h2
    subst this
    exact hno i h1
  have lent_no : ∀ g, lentg g → ¬ sh g := by
    rintro g ⟨j, n, hj, hg⟩
    obtain ⟨t, l, hm⟩ := hlent j hj
    rcases hM.blk j _ hm with ⟨k1, _⟩ | ⟨g', n', c, e, cs, k1, _, _, _, _, k6⟩
    · rw [k1] at hg; cases hg
    · rw [k1] at hg; cases hg; exact k6
  have hK : ShKeep sh w shN w2 := ⟨fun b hb => ⟨hW.keep.1 b (.inl hb), fun h => lent_no b h hb⟩, fun b hb => hW.keep.2 b (.inl hb)⟩
  have hX : Ext μ mem μN memN := by
    intro id b hb
    have hlt := (List.getElem?_eq_some_iff.1 hb).1
    by_cases hex : ∃ i : Nat, i < bs2.length ∧ C[i]? = some (some (some id))
    · obtain ⟨i, hi, hE⟩ := hex
      have hb2 : bs2[i]? = some bs2[i] := List.getElem?_eq_getElem hi
      refine ⟨bs2[i].ren ρ, by rw [memN_old id hlt]; exact wbs_bound ρ C bs2 memK i (fun i k h1 h2 => hinj i k id (hCE i id h1).2 (hCE k id h2).2) hE hb2 (by rw [hKl]; exact hlt), ?_⟩
      by_cases hd : bs2[i] = .dead
      · exact .inl (Blk.ren_dead.2 hd)
      · obtain ⟨c, k1, k2, k3, k4⟩ := F1 i id _ hE hb2 hd
        rw [hb] at k1; cases k1
        exact .inr ⟨muN_old id hlt, k3.trans (Blk.ren_lay ρ _)⟩
    · have hno : ∀ i : Nat, i < bs2.length → C[i]? ≠ some (some (some id)) := fun i hi h => hex ⟨i, hi, h⟩
      have hmN : memN[id]? = memK[id]? := by rw [memN_old id hlt, wbs_other ρ C bs2 memK hno]
      rcases kills_keep (E.b.drop p) mem id b hb with h | h
      · exact ⟨b, by rw [hmN, ← hK0]; exact h, .inr ⟨muN_old id hlt, BLay.refl b⟩⟩
      · exact ⟨.dead, by rw [hmN, ← hK0]; exact h, .inl rfl⟩
  have hno2 : ∀ g, ¬ sh2 g → ¬ shN g := fun g h hg => h hg.1
  -- lists that were lent
  have hfl : ∃ fl : Bool, (fl = false → ∀ g, sh2 g → shN g) ∧ (fl = true → v.flat = true) ∧ ∀ b ∈ bs2, fl = true → b.flat = true := by
    rcases hflat with h | ⟨h1, h2⟩
    · refine ⟨false, fun _ g hg => ⟨hg, ?_⟩, fun h => (by cases h), fun _ _ h => (by cases h)⟩
      rintro ⟨j, n, hj, _⟩
      rw [h] at hj; cases hj
    · exact ⟨true, fun h => (by cases h), fun _ => h1, fun b hb _ => h2 b hb⟩
  obtain ⟨fl, hf1, hf2, hf3⟩ := hfl
  refine ⟨μN, shN, ⟨?_, ?_, ?_, ?_, ?_⟩, ?_, ⟨hX, hK, hW.size, ?_, ?_, ?_, hW.os⟩⟩
  · show (μ ++ muNews C μ2).length = (wbs ρ C bs2 memK ++ news ρ C bs2).length
    rw [List.length_append, List.length_append, hwl, news_len, muNews_len, hlm, hlen2]
  · intro id b hb
    rcases F6 id b hb with ⟨hlt, hm, hno⟩ | ⟨i, b2, h1, rfl, rfl⟩ | rfl
    · -- as it was
      have old : ∀ (g n : Nat), b ≠ .dead → μ[id]? = some (some (g, n)) → ¬ sh g → w2.heap[g]? = w.heap[g]? ∧ ¬ shN g := by
        intro g n hd hg hs
        have hgs := hM.mul id g n hg
        constructor
        · by_cases hl : shOf μ E sh g
          · exact hW.keep.2 g hl
          · exact hW.old g hgs (nobody id g n b hm hd hno hg)
        · rintro ⟨h2, h3⟩
          rcases hW.shn g h2 with (h | h) | ⟨i, m, h⟩ | h
          · exact hs h
          · exact h3 h
          · exact nobody id g n b hm hd hno hg i m h
          · omega
      have hbr := hM.blk id b hm
      cases b with
      | dead => trivial
      | var x =>
        obtain ⟨g, n, c, e, k1, k2, k3, k4, k5⟩ := hbr
        obtain ⟨o1, o2⟩ := old g n (by simp) k1 k5
        exact ⟨g, n, c, e, by rw [muN_old id hlt]; exact k1, by rw [o1]; exact k2, k3, RC.ext hX hK _ _ k4, o2⟩
      | list t l =>
        rcases hbr with ⟨k1, k2⟩ | ⟨g, n, c, e, cs, k1, k2, k3, k4, k5, k6⟩
        · exact .inl ⟨by rw [muN_old id hlt]; exact k1, k2⟩
        · obtain ⟨o1, o2⟩ := old g n (by simp) k1 k6
          exact .inr ⟨g, n, c, e, cs, by rw [muN_old id hlt]; exact k1, by rw [o1]; exact k2, k3, EncL.mono (Enc.keep hK t) l cs k4, k5, o2⟩
      | iter s m =>
        obtain ⟨g, n, k1, k2, k3⟩ := hbr
        obtain ⟨o1, o2⟩ := old g n (by simp) k1 k3
        exact ⟨g, n, by rw [muN_old id hlt]; exact k1, by rw [o1]; exact k2, o2⟩
    · exact BR.moved F4 hf1 hno2 h1 (hf3 b2 (List.mem_of_getElem? h1)) (hM2.blk i b2 h1)
    · trivial
  · intro a b g n m x y hx hy hxd hyd hga hgb
    rcases F6 a x hx with ⟨hlt, hma, hno⟩ | ⟨i, b2, h1, rfl, rfl⟩ | rfl
    · rw [muN_old a hlt] at hga
      rcases F6 b y hy with ⟨hlt', hmb, hno'⟩ | ⟨k, b3, h3, rfl, rfl⟩ | rfl
      · rw [muN_old b hlt'] at hgb
        exact hM.inj a b g n m x y hma hmb hxd hyd hga hgb
      · exfalso
        have hd3 : b3 ≠ .dead := fun h => hyd (Blk.ren_dead.2 h)
        rw [(F4 k b3 h3).2 hd3] at hgb
        rcases hW.mun k g m hgb with ⟨j, m', h⟩ | h
        · exact nobody a g n x hma hxd hno hga j m' h
        · have := hM.mul a g n hga; omega
      · exact absurd rfl hyd
    · have hd2 : b2 ≠ .dead := fun h => hxd (Blk.ren_dead.2 h)
      rw [(F4 i b2 h1).2 hd2] at hga
      rcases F6 b y hy with ⟨hlt', hmb, hno'⟩ | ⟨k, b3, h3, rfl, rfl⟩ | rfl
      · exfalso
        rw [muN_old b hlt'] at hgb
        rcases hW.mun i g n hga with ⟨j, m', h⟩ | h
        · exact nobody b g m y hmb hyd hno' hgb j m' h
        · have := hM.mul b g m hgb; omega
      · have hd3 : b3 ≠ .dead := fun h => hyd (Blk.ren_dead.2 h)
        rw [(F4 k b3 h3).2 hd3] at hgb
        rw [hM2.inj i k g n m b2 b3 h1 h3 hd2 hd3 hga hgb]
      · exact absurd rfl hyd
    · exact absurd rfl hxd
  · intro g hg
    exact hM2.shl g hg.1
  · intro i g n h
    by_cases hlt : i < mem.length
    · rw [muN_old i hlt] at h
      exact Nat.lt_of_lt_of_le (hM.mul i g n h) hW.size
    · obtain ⟨k, rfl⟩ : ∃ k, i = mem.length + k := ⟨i - mem.length, by omega⟩
      rw [muN_new] at h
      have hk : k < μ2.length := by
        have := (List.getElem?_eq_some_iff.1 h).1
        rwa [muNews_len] at this
      rw [muNews_get C μ2 k _ (List.getElem?_eq_getElem hk)] at h
      split at h
      · cases h
      · refine hM2.mul k g n ?_
        rw [List.getElem?_eq_getElem hk]; exact h
  · obtain ⟨cs, h1, h2⟩ := hV
    exact ⟨cs, RC.moved F4 hf1 v cs hf2 h1, by rw [AV.ren_agg]; exact h2⟩
  · intro g hg hno
    refine hW.old g hg ?_
    intro i n h
    obtain ⟨j, _, _, h2, _⟩ := F0 i g n h
    exact hno j n h2
  · rintro g ⟨hg, _⟩
    rcases hW.shn g hg with (h | ⟨j, n, _, h⟩) | ⟨i, m, h⟩ | h
    · exact .inl h
    · exact .inr (.inl ⟨j, n, h⟩)
    · obtain ⟨j, _, _, h2, _⟩ := F0 i g m h
      exact .inr (.inl ⟨j, m, h2⟩)
    · exact .inr (.inr h)
  · intro i g n h
    by_cases hlt : i < mem.length
    · rw [muN_old i hlt] at h
      exact .inl ⟨i, n, h⟩
    · obtain ⟨k, rfl⟩ : ∃ k, i = mem.length + k := ⟨i - mem.length, by omega⟩
      rw [muN_new] at h
      have hk : k < μ2.length := by
        have := (List.getElem?_eq_some_iff.1 h).1
        rwa [muNews_len] at this
      rw [muNews_get C μ2 k _ (List.getElem?_eq_getElem hk)] at h
      split at h
      · cases h
      · have h' : μ2[k]? = some (some (g, n)) := by rw [List.getElem?_eq_getElem hk]; exact h
        rcases hW.mun k g n h' with ⟨j, m, hj⟩ | h3
        · obtain ⟨j', _, _, h2, _⟩ := F0 j g m hj
          exact .inl ⟨j', m, h2⟩
        · exact .inr h3

end
end Am

/- THE ABSTRACT MACHINE: what goes on behind code goes on behind what the code does. -/
namespace Am
open Go

def LoopSum.Nice (S : LoopSum) : Prop := ∀ {R : Type} (st : St) (k : Ex → St → Option R), S.run st k = (S.run st fun e st => some (e, st)).bind fun p => k p.1 p.2
def LNat (Λ : Nat → Option LoopSum) : Prop := ∀ n S, Λ n = some S → S.Nice

section
variable {T : TypeId → TRow} {Γ : FuncId → Option Summ} {Λ : Nat → Option LoopSum}

abbrev Both (V W X : Type) : Type := V ⊕ (W ⊕ X)
def inlB {V W X : Type} (y : V) : Both V W X := .inl y
def bothK {V W X S : Type} (kn : V → Option S) (kx : W → Option S) (kr : X → Option S) : Both V W X → Option S
  | .inl y => kn y
  | .inr (.inl p) => kx p
  | .inr (.inr p) => kr p
def inxB {V W X : Type} (y : W) : Both V W X := .inr (.inl y)
def inrB {V W X : Type} (y : X) : Both V W X := .inr (.inr y)

theorem bind_assoc' {α β γ : Type} (o : Option α) (f : α → Option β) (g : β → Option γ) : (o.bind f).bind g = o.bind fun x => (f x).bind g := by cases o <;> rfl

theorem nat_via {f : {R : Type} → (Ex → St → Option R) → Option R} (hf : ∀ {R : Type} (k : Ex → St → Option R), f k = (f fun e st => some (e, st)).bind fun p => k p.1 p.2) {R S : Type} {k1 : Ex → St → Option R} {k2 : Ex → St → Option S} {h : S → Option R}
    (hk : ∀ e st, k1 e st = (k2 e st).bind h) : f k1 = (f k2).bind h := by
  rw [hf k1, hf k2, bind_assoc']
  congr 1
  funext p
  exact hk p.1 p.2

theorem clearK_nat {R S : Type} (t : TypeId) (d2 e0 e1 : Nat) (st : St) (k : St → Option R) (k' : St → Option S) {g : S → Option R} (hk : ∀ st, k st = (k' st).bind g) : clearK T t d2 e0 e1 st k = (clearK T t d2 e0 e1 st k').bind g := by
  unfold clearK
  split
  · split
    · split
      · have key : ∀ (c : Bool) (st : St), (cond c (k st) none) = (cond c (k' st) none).bind g := fun c st => by cases c <;> first | exact hk _ | rfl
        exact key _ _
      · rfl
    · rfl
  · rfl

theorem codeK_nat (hΓ : GNat Γ) (hΛ : LNat Λ) : ∀ (c : Code) {R : Type} (cur : Nat) (st : St) (k : Ex → St → Option R), codeK T Γ Λ cur c st k = (codeK T Γ Λ cur c st fun e st => some (e, st)).bind fun p => k p.1 p.2
  | .skip, R, cur, st, k => rfl
  | .region id ops draw, R, cur, st, k => by
    simp only [codeK]
    split
    · rfl
    · split
      · rename_i t d2 e0 e1 _
        rw [opsK_eq hΓ, opsK_eq hΓ, bind_assoc']
        congr 1
        funext st'
        exact clearK_nat t d2 e0 e1 st' _ _ (fun _ => rfl)
      · rw [opsK_eq hΓ, opsK_eq hΓ, bind_assoc']
        congr 1
        funext st'
        cases dynFine T Γ draw ops.toList st'.fr <;> rfl
  | .seq x y, R, cur, st, k => by
    simp only [codeK]
    refine nat_via (f := fun {R} k => codeK T Γ Λ cur x st k) (fun k => codeK_nat hΓ hΛ x cur st k) (fun e st' => ?_)
    cases e
    · simp only [forceSt_eq]
      exact codeK_nat hΓ hΛ y cur st' k
    · rfl
    · rfl
  | .cond c x y, R, cur, st, k => by
    simp only [codeK, forceSt_eq]
    split
    · rename_i b _
      cases b
      · exact codeK_nat hΓ hΛ y cur _ k
      · exact codeK_nat hΓ hΛ x cur _ k
    · rfl
  | .block id c, R, cur, st, k => by
    simp only [codeK]
    refine nat_via (f := fun {R} k => codeK T Γ Λ id c st k) (fun k => codeK_nat hΓ hΛ c id st k) (fun e st' => ?_)
    cases e
    · rfl
    · simp only
      split <;> rfl
    · rfl
  | .loop c, R, cur, st, k => by
    simp only [codeK]
    split
    · rename_i S hS
      exact hΛ _ S hS st k
    · rfl
  | .exit id, R, cur, st, k => rfl
  | .ret, R, cur, st, k => rfl
  | .rangeFunc .., R, cur, st, k | .scope _, R, cur, st, k | .label _, R, cur, st, k
  | .goto _, R, cur, st, k | .refuse _, R, cur, st, k => by simp [codeK]

theorem resK_nat {R : Type} : ∀ (l : List ResultVar) (st : St) (vs : List AV) (k : List AV → Option R), resK T l st vs k = (resK T l st vs some).bind k
  | [], st, vs, k => rfl
  | .tmp t :: l, st, vs, k => resK_nat l st _ k
  | .cell a t :: l, st, vs, k => by
    simp only [resK]
    rw [loadK_nat, loadK_nat (T := T) t _ _ (fun v => resK T l st (v :: vs) some), bind_assoc']
    congr 1
    funext v
    exact resK_nat l st _ k

theorem fnK_nat (hΓ : GNat Γ) (hΛ : LNat Λ) {R : Type} (fn : Func) (args : List AV) (mem : Mem) (k : AV → Mem → Option R) : fnK T Γ Λ fn args mem k = (fnK T Γ Λ fn args mem fun v m => some (v, m)).bind fun p => k p.1 p.2 := by
  unfold fnK
  split
  · rename_i c hc
    refine nat_via (f := fun {R} k => codeK T Γ Λ 0 c _ k) (fun k => codeK_nat hΓ hΛ c 0 _ k) (fun e st => ?_)
    have fin : ∀ (k : AV → Mem → Option R), (resK T fn.results.toList st [] fun vs => match vs with
        | [v] => k v st.mem
        | vs => k (.tup vs) st.mem) = (resK T fn.results.toList st [] fun vs => match vs with
        | [v] => some (v, st.mem)
        | vs => some (.tup vs, st.mem)).bind fun p => k p.1 p.2 := by
      intro k
      rw [resK_nat, resK_nat (R := AV × Mem), bind_assoc']
      congr 1
      funext vs
      match vs with
      | [] => rfl
      | [_] => rfl
      | _ :: _ :: _ => rfl
    cases e
    · exact fin k
    · rfl
    · exact fin k
  · rfl

theorem bodyK_nat (hΓ : GNat Γ) (hΛ : LNat Λ) {S : Type} (fn : Func) (p : Nat) (inn out : StSh) (x : inn.den) (k : out.den → Option S) : bodyK T Γ Λ fn p inn out x k = (bodyK T Γ Λ fn p inn out x some).bind k := by
  unfold bodyK
  rw [fnK_nat hΓ hΛ, fnK_nat hΓ hΛ (R := out.den), bind_assoc']
  congr 1
  funext p
  rw [bind_assoc']
  rfl

theorem roundK_nat (hΓ : GNat Γ) (hΛ : LNat Λ) {S : Type} (l : LSh) (p cur : Nat) (body : Code) (x : l.sh.den) (kn : l.sh.den → Option S) (kx : l.out.den → Option S) (kr : l.ret.den → Option S) :
    roundK T Γ Λ l p cur body x kn kx kr = (roundK T Γ Λ l p cur body x (fun y => some (inlB y)) (fun y => some (inxB y)) (fun y => some (inrB y))).bind (bothK kn kx kr) := by
  unfold roundK
  refine nat_via (f := fun {R} k => codeK T Γ Λ cur body (l.sh.enc x) k) (fun k => codeK_nat hΓ hΛ body cur _ k) (fun e st => ?_)
  cases e with
  | normal => simp only []; rw [bind_assoc']; rfl
  | exit id => simp only []; cases (id == l.x) <;> simp only [cond_true, cond_false] <;> first | rfl | (rw [bind_assoc']; rfl)
  | ret => simp only []; rw [bind_assoc']; rfl

theorem raw_nat (hΓ : GNat Γ) (hΛ : LNat Λ) (cur : Nat) (body : Code) (n : Nat) : (LoopSum.raw T Γ Λ cur body n).Nice := by
  intro R st k
  show rawK T Γ Λ cur body n st k = (rawK T Γ Λ cur body n st fun e st => some (e, st)).bind fun p => k p.1 p.2
  induction n generalizing st with
  | zero => rfl
  | succ n ih =>
    simp only [rawK]
    refine nat_via (f := fun {R} k => codeK T Γ Λ cur body st k) (fun k => codeK_nat hΓ hΛ body cur st k) (fun e st' => ?_)
    cases e
    · exact ih st'
    · rfl
    · rfl

/-- A loop of so many rounds that are told by a function. -/
def LoopSum.by (l : LSh) (p : Nat) (B : l.sh.den → {S : Type} → (l.sh.den → Option S) → (l.out.den → Option S) → (l.ret.den → Option S) → Option S) (fuel : l.sh.den → Nat) : LoopSum :=
  LoopSum.of l p fun x _ k kr => iter B (fuel x) x k kr

theorem iter_nat {V W X : Type} {B : V → {S : Type} → (V → Option S) → (W → Option S) → (X → Option S) → Option S}
    (hB : ∀ (S : Type) (x : V) (kn : V → Option S) (kx : W → Option S) (kr : X → Option S), B x kn kx kr = (B x (fun y => some (inlB y)) (fun y => some (inxB y)) (fun y => some (inrB y))).bind (bothK kn kx kr)) : ∀ (n : Nat) (x : V) {S : Type} (k : W → Option S) (kr : X → Option S), iter B n x k kr = (iter B n x (fun y => some (Sum.inl y : W ⊕ X)) (fun y => some (Sum.inr y))).bind fun p => match p with | .inl y => k y | .inr y => kr y
  | 0, _, _, _, _ => rfl
  | n + 1, x, S, k, kr => by
    simp only [iter]
    rw [hB S, hB _ x (fun y => iter B n y (fun y => some (Sum.inl y : W ⊕ X)) (fun y => some (Sum.inr y))), bind_assoc']
    congr 1
    funext r
    cases r with
    | inl y => exact iter_nat hB n y k kr
    | inr p => cases p <;> rfl

theorem by_nat (hΓ : GNat Γ) (hΛ : LNat Λ) {l : LSh} {p cur : Nat} {body : Code} {B : l.sh.den → {S : Type} → (l.sh.den → Option S) → (l.out.den → Option S) → (l.ret.den → Option S) → Option S}
    (hB : ∀ (S : Type) (x : l.sh.den) (kn : l.sh.den → Option S) (kx : l.out.den → Option S) (kr : l.ret.den → Option S), roundK T Γ Λ l p cur body x kn kx kr = B x kn kx kr) (fuel : l.sh.den → Nat) : (LoopSum.by l p B fuel).Nice := by
  intro R st k
  show ((l.sh.dec p st).bind fun y => iter B (fuel y.1) y.1 (fun z => k (.exit l.x) (l.out.enc z)) (fun z => k .ret (l.ret.enc z))) = ((l.sh.dec p st).bind fun y => iter B (fuel y.1) y.1 (fun z => some ((.exit l.x : Ex), l.out.enc z)) (fun z => some ((.ret : Ex), l.ret.enc z))).bind fun p => k p.1 p.2
  have hB' : ∀ (S : Type) (x : l.sh.den) (kn : l.sh.den → Option S) (kx : l.out.den → Option S) (kr : l.ret.den → Option S), B x kn kx kr = (B x (fun y => some (inlB y)) (fun y => some (inxB y)) (fun y => some (inrB y))).bind (bothK kn kx kr) := by
    intro S x kn kx kr
    rw [← hB, ← hB]
    exact roundK_nat hΓ hΛ ..
  rw [bind_assoc']
  congr 1
  funext y
  rw [iter_nat hB', iter_nat hB' _ _ (fun z => some ((.exit l.x : Ex), l.out.enc z)), bind_assoc']
  congr 1
  funext p
  cases p <;> rfl

end

section
variable {P : Program} {T : TypeId → TRow} {Γ : FuncId → Option Summ} {Λ : Nat → Option LoopSum}

theorem by_ok (hT : TOk P T) (hΓ : GOk P Γ) (hD : DrawOk P T Γ) {l : LSh} {p cur : Nat} {body : Code} (hL : LoopsOk P p Λ (loopsOf cur body))
    {B : l.sh.den → {S : Type} → (l.sh.den → Option S) → (l.out.den → Option S) → (l.ret.den → Option S) → Option S}
    (hB : ∀ (S : Type) (x : l.sh.den) (kn : l.sh.den → Option S) (kx : l.out.den → Option S) (kr : l.ret.den → Option S), roundK T Γ Λ l p cur body x kn kx kr = B x kn kx kr) (fuel : l.sh.den → Nat) : LoopOk P p body (LoopSum.by l p B fuel) :=
  loop_ok hT hΓ hD hL hB (fun _ _ _ _ _ h => ⟨_, h⟩)

end
end Am

