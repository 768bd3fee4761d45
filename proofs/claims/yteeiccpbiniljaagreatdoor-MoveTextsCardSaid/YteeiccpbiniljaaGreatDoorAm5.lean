/- A library of this claim: the abstract machine: functions that are told by shallow ones. -/
import Derived.Test.YteeiccpbiniljaaGreatDoorAm4
import Derived.ProofKit
import Derived.OpenShut
import Derived.Sort.Grow
import Derived.KernelRfl
import Derived.Below
import Derived.Lib.Case
set_option linter.all false
/- THE ABSTRACT MACHINE: a function that is told. -/
namespace Am
open Go

mutual
def AV.refs : AV → Bool
  | .val .unit _ => true
  | .ptr _ _ | .nilp | .nilf | .nils => true
  | .comp fs => AV.refsL fs
  | _ => false
def AV.refsL : List AV → Bool
  | [] => true
  | v :: l => v.refs && AV.refsL l
end

mutual
theorem Ren.back {E : Env} {mem : Mem} {u : Bool} {n : Nat} : ∀ {v v' : AV}, Ren E mem u v v' → v'.refs = true → v'.ren (E.rho n) = v
  | _, _, .val t x, _ => rfl
  | _, _, .lent .., h => by simp [AV.refs] at h
  | _, _, .lent0, h => by simp [AV.refs] at h
  | _, _, .elem .., _ => rfl
  | _, _, .ptr hE, _ => by simp [AV.ren, Env.rho, hE]
  | _, _, .nilp, _ => rfl
  | _, _, .slice hE, h => by simp [AV.refs] at h
  | _, _, .slice0 hE, h => by simp [AV.refs] at h
  | _, _, .nils, _ => rfl
  | _, _, .fn hs, h => by simp [AV.refs] at h
  | _, _, .nilf, _ => rfl
  | _, _, .comp hs, h => by simp only [AV.refs] at h; simp only [AV.ren]; rw [hs.back h]
  | _, _, .tup hs, h => by simp [AV.refs] at h
  | _, _, .undef, h => by simp [AV.refs] at h
theorem Rens.back {E : Env} {mem : Mem} {u : Bool} {n : Nat} : ∀ {v v' : List AV}, Rens E mem u v v' → AV.refsL v' = true → AV.rens (E.rho n) v' = v
  | _, _, .nil, _ => rfl
  | _, _, .cons h h', hr => by
    simp only [AV.refsL, Bool.and_eq_true] at hr
    simp only [AV.rens]
    rw [h.back hr.1, h'.back hr.2]
end

mutual
theorem Sh.eqv_enc : ∀ (s t : Sh), s.eqv t = true → ∀ (X Y : Type) (x : s.den X) (y : t.den Y), (s.enc X x).1 = (t.enc Y y).1 ∧ (s.enc X x).1.refs = true
  | .hole .unit, .hole .unit, _, X, Y, x, y => ⟨rfl, rfl⟩
  | .ptr i p, .ptr j q, h, X, Y, x, y => by
    simp only [Sh.eqv, Bool.and_eq_true, beq_iff_eq] at h
    obtain ⟨rfl, h2⟩ := h
    have := stepEq_eq h2
    subst this
    exact ⟨rfl, rfl⟩
  | .nilp, .nilp, _, X, Y, x, y => ⟨rfl, rfl⟩
  | .nilf, .nilf, _, X, Y, x, y => ⟨rfl, rfl⟩
  | .nils, .nils, _, X, Y, x, y => ⟨rfl, rfl⟩
  | .comp fs, .comp gs, h, X, Y, x, y => by
    simp only [Sh.eqv] at h
    obtain ⟨h1, h2⟩ := Sh.eqvs_enc fs gs h X Y x y
    exact ⟨congrArg AV.comp h1, h2⟩
  | .undef, t, h, X, Y, x, y => by simp [Sh.eqv] at h
  | .elem _, t, h, X, Y, x, y => by simp [Sh.eqv] at h
  | .slice _, t, h, X, Y, x, y => by simp [Sh.eqv] at h
  | .fn _ _, t, h, X, Y, x, y => by simp [Sh.eqv] at h
  | .tup _, t, h, X, Y, x, y => by simp [Sh.eqv] at h
  | .hole (.int _), t, h, X, Y, x, y => by simp [Sh.eqv] at h
  | .hole .bool, t, h, X, Y, x, y => by simp [Sh.eqv] at h
  | .hole .str, t, h, X, Y, x, y => by simp [Sh.eqv] at h
  | .hole (.pair _ _), t, h, X, Y, x, y => by simp [Sh.eqv] at h
  | .hole (.arr _ _), t, h, X, Y, x, y => by simp [Sh.eqv] at h
  | .hole (.list _), t, h, X, Y, x, y => by simp [Sh.eqv] at h
  | .hole .unit, .hole (.int _), h, X, Y, x, y => by simp [Sh.eqv] at h
  | .hole .unit, .hole .bool, h, X, Y, x, y => by simp [Sh.eqv] at h
  | .hole .unit, .hole .str, h, X, Y, x, y => by simp [Sh.eqv] at h
  | .hole .unit, .hole (.pair _ _), h, X, Y, x, y => by simp [Sh.eqv] at h
  | .hole .unit, .hole (.arr _ _), h, X, Y, x, y => by simp [Sh.eqv] at h
  | .hole .unit, .hole (.list _), h, X, Y, x, y => by simp [Sh.eqv] at h
  | .hole .unit, .undef, h, X, Y, x, y | .hole .unit, .elem _, h, X, Y, x, y | .hole .unit, .ptr _ _, h, X, Y, x, y | .hole .unit, .nilp, h, X, Y, x, y | .hole .unit, .slice _, h, X, Y, x, y
  | .hole .unit, .nils, h, X, Y, x, y | .hole .unit, .fn _ _, h, X, Y, x, y | .hole .unit, .nilf, h, X, Y, x, y | .hole .unit, .comp _, h, X, Y, x, y | .hole .unit, .tup _, h, X, Y, x, y => by simp [Sh.eqv] at h
  | .ptr _ _, .undef, h, X, Y, x, y | .ptr _ _, .elem _, h, X, Y, x, y | .ptr _ _, .hole _, h, X, Y, x, y | .ptr _ _, .nilp, h, X, Y, x, y | .ptr _ _, .slice _, h, X, Y, x, y
  | .ptr _ _, .nils, h, X, Y, x, y | .ptr _ _, .fn _ _, h, X, Y, x, y | .ptr _ _, .nilf, h, X, Y, x, y | .ptr _ _, .comp _, h, X, Y, x, y | .ptr _ _, .tup _, h, X, Y, x, y => by simp [Sh.eqv] at h
  | .nilp, .undef, h, X, Y, x, y | .nilp, .elem _, h, X, Y, x, y | .nilp, .hole _, h, X, Y, x, y | .nilp, .ptr _ _, h, X, Y, x, y | .nilp, .slice _, h, X, Y, x, y
  | .nilp, .nils, h, X, Y, x, y | .nilp, .fn _ _, h, X, Y, x, y | .nilp, .nilf, h, X, Y, x, y | .nilp, .comp _, h, X, Y, x, y | .nilp, .tup _, h, X, Y, x, y => by simp [Sh.eqv] at h
  | .nilf, .undef, h, X, Y, x, y | .nilf, .elem _, h, X, Y, x, y | .nilf, .hole _, h, X, Y, x, y | .nilf, .ptr _ _, h, X, Y, x, y | .nilf, .slice _, h, X, Y, x, y
  | .nilf, .nils, h, X, Y, x, y | .nilf, .fn _ _, h, X, Y, x, y | .nilf, .nilp, h, X, Y, x, y | .nilf, .comp _, h, X, Y, x, y | .nilf, .tup _, h, X, Y, x, y => by simp [Sh.eqv] at h
  | .nils, .undef, h, X, Y, x, y | .nils, .elem _, h, X, Y, x, y | .nils, .hole _, h, X, Y, x, y | .nils, .ptr _ _, h, X, Y, x, y | .nils, .slice _, h, X, Y, x, y
  | .nils, .nilf, h, X, Y, x, y | .nils, .fn _ _, h, X, Y, x, y | .nils, .nilp, h, X, Y, x, y | .nils, .comp _, h, X, Y, x, y | .nils, .tup _, h, X, Y, x, y => by simp [Sh.eqv] at h
  | .comp _, .undef, h, X, Y, x, y | .comp _, .elem _, h, X, Y, x, y | .comp _, .hole _, h, X, Y, x, y | .comp _, .ptr _ _, h, X, Y, x, y | .comp _, .slice _, h, X, Y, x, y
  | .comp _, .nilf, h, X, Y, x, y | .comp _, .fn _ _, h, X, Y, x, y | .comp _, .nilp, h, X, Y, x, y | .comp _, .nils, h, X, Y, x, y | .comp _, .tup _, h, X, Y, x, y => by simp [Sh.eqv] at h
theorem Sh.eqvs_enc : ∀ (l m : List Sh), Sh.eqvs l m = true → ∀ (X Y : Type) (x : Sh.dens l X) (y : Sh.dens m Y), (Sh.encs l X x).1 = (Sh.encs m Y y).1 ∧ AV.refsL (Sh.encs l X x).1 = true
  | [], [], _, X, Y, x, y => ⟨rfl, rfl⟩
  | s :: l, t :: m, h, X, Y, x, y => by
    simp only [Sh.eqvs, Bool.and_eq_true] at h
    obtain ⟨h1, h2⟩ := Sh.eqv_enc s t h.1 (Sh.dens l X) (Sh.dens m Y) x y
    obtain ⟨h3, h4⟩ := Sh.eqvs_enc l m h.2 X Y (s.enc (Sh.dens l X) x).2 (t.enc (Sh.dens m Y) y).2
    simp only [Sh.encs]
    rw [h1, h3]
    refine ⟨rfl, ?_⟩
    simp only [AV.refsL, Bool.and_eq_true]
    rw [← h1, ← h3]
    exact ⟨h2, h4⟩
  | [], _ :: _, h, _, _, _, _ | _ :: _, [], h, _, _, _, _ => by simp [Sh.eqvs] at h
end

theorem BSh.encs_get : ∀ (l : List BSh) (X : Type) (x : BSh.dens l X) (i : Nat) (b : Blk), (BSh.encs l X x).1[i]? = some b → ∃ c : BSh, ∃ (Y : Type) (y : c.den Y), l[i]? = some c ∧ b = (c.enc Y y).1
  | [], _, _, _, _, h => by simp [BSh.encs] at h
  | c :: l, X, x, 0, b, h => by simp [BSh.encs] at h; exact ⟨c, _, x, rfl, h.symm⟩
  | c :: l, X, x, i + 1, b, h => by
    simp only [BSh.encs, List.getElem?_cons_succ] at h ⊢
    exact BSh.encs_get l X _ i b h

theorem keeps_get : ∀ {l m : List BSh} {i : Nat} {c : BSh}, keeps l m = true → l[i]? = some c → ∃ s t, c = .var s ∧ m[i]? = some (.var t) ∧ s.eqv t = true
  | [], _, _, _, _, h => by simp at h
  | .var s :: l, .var t :: m, 0, c, h, hi => by
    simp only [keeps, Bool.and_eq_true] at h
    simp at hi
    exact ⟨s, t, hi.symm, rfl, h.1⟩
  | .var s :: l, .var t :: m, i + 1, c, h, hi => by
    simp only [keeps, Bool.and_eq_true] at h
    simpa using keeps_get h.2 (by simpa using hi)
  | .var s :: l, .list _ :: m, i, c, h, hi | .var s :: l, .iter :: m, i, c, h, hi | .var s :: l, .dead :: m, i, c, h, hi | .var s :: l, [], i, c, h, hi => by simp [keeps] at h
  | .list _ :: l, _, i, c, h, hi | .iter :: l, _, i, c, h, hi | .dead :: l, _, i, c, h, hi => by simp [keeps] at h

mutual
theorem Sh.closed_ren (ρ : Nat → Nat) : ∀ (s : Sh) (X : Type) (x : s.den X), s.closed = true → (s.enc X x).1.ren ρ = (s.enc X x).1
  | .undef, _, _, _ => rfl
  | .hole t, _, _, _ => rfl
  | .elem _, _, _, _ => rfl
  | .ptr _ _, _, _, h => by cases h
  | .nilp, _, _, _ => rfl
  | .slice _, _, _, h => by cases h
  | .nils, _, _, _ => rfl
  | .fn _ cs, X, x, h => congrArg _ (Sh.closeds_ren ρ cs X x h)
  | .nilf, _, _, _ => rfl
  | .comp fs, X, x, h => congrArg _ (Sh.closeds_ren ρ fs X x h)
  | .tup vs, X, x, h => congrArg _ (Sh.closeds_ren ρ vs X x h)
theorem Sh.closeds_ren (ρ : Nat → Nat) : ∀ (l : List Sh) (X : Type) (x : Sh.dens l X), Sh.closeds l = true → AV.rens ρ (Sh.encs l X x).1 = (Sh.encs l X x).1
  | [], _, _, _ => rfl
  | s :: l, X, x, h => by
    simp only [Sh.closeds, Bool.and_eq_true] at h
    simp only [Sh.encs, AV.rens]
    rw [Sh.closed_ren ρ s _ _ h.1, Sh.closeds_ren ρ l _ _ h.2]
end

mutual
theorem Ren.mono {E : Env} {mem mem' : Mem} (hm : ∀ i ∈ E.l, mem'[i]? = mem[i]?) {u : Bool} : ∀ {v v' : AV}, Ren E mem u v v' → Ren E mem' u v v'
  | _, _, .val t x => .val t x
  | _, _, .lent h h' => .lent h (by rw [hm _ h]; exact h')
  | _, _, .lent0 => .lent0
  | _, _, .elem t x => .elem t x
  | _, _, .ptr hE => .ptr hE
  | _, _, .nilp => .nilp
  | _, _, .slice hE => .slice hE
  | _, _, .slice0 hE => .slice0 hE
  | _, _, .nils => .nils
  | _, _, .fn hs => .fn (hs.mono hm)
  | _, _, .nilf => .nilf
  | _, _, .comp hs => .comp (hs.mono hm)
  | _, _, .tup hs => .tup (hs.mono hm)
  | _, _, .undef => .undef
theorem Rens.mono {E : Env} {mem mem' : Mem} (hm : ∀ i ∈ E.l, mem'[i]? = mem[i]?) {u : Bool} : ∀ {v v' : List AV}, Rens E mem u v v' → Rens E mem' u v v'
  | _, _, .nil => .nil
  | _, _, .cons h h' => .cons (h.mono hm) (h'.mono hm)
end

structure SNat (S : Summ) : Prop where
  nat : ∀ {R : Type} (args : List AV) (mem : Mem) (k : AV → Mem → Option R), S.run args mem k = (S.run args mem fun v m => some (v, m)).bind fun p => k p.1 p.2
  pure : S.cls = .pure → ∀ (args : List AV) (mem : Mem) v m, (S.run args mem fun v m => some (v, m)) = some (v, m) → m = mem ∧ ∀ mem', (S.run args mem' fun v m => some (v, m)) = some (v, mem')
  make : S.cls = .make → ∀ (args : List AV) (mem : Mem) v m, (S.run args mem fun v m => some (v, m)) = some (v, m) → ∃ new, m = mem ++ new

structure Good (P : Program) (f : FuncId) (S : Summ) : Prop where
  ok : SummOk P f S
  nat : SNat S

def look : List (FuncId × Summ) → FuncId → Option Summ
  | [], _ => none
  | p :: l, f => cond (f == p.1) (some p.2) (look l f)

theorem look_mem : ∀ {l : List (FuncId × Summ)} {f : FuncId} {S : Summ}, look l f = some S → (f, S) ∈ l
  | [], _, _, h => by cases h
  | p :: l, f, S, h => by
    simp only [look] at h
    cases hq : f == p.1 with
    | true =>
      rw [hq] at h
      cases h
      have : f = p.1 := by simpa using hq
      subst this
      exact List.mem_cons_self ..
    | false => rw [hq] at h; exact List.mem_cons_of_mem _ (look_mem h)

def Goods (P : Program) (l : List (FuncId × Summ)) : Prop := ∀ p ∈ l, Good P p.1 p.2

theorem Goods.nil (P : Program) : Goods P [] := fun _ h => by cases h
theorem Goods.cons {P : Program} {f : FuncId} {S : Summ} {l : List (FuncId × Summ)} (h : Good P f S) (hl : Goods P l) : Goods P ((f, S) :: l) := by
  intro p hp
  rcases List.mem_cons.1 hp with rfl | hp
  · exact h
  · exact hl p hp

theorem Goods.ok {P : Program} {l : List (FuncId × Summ)} (h : Goods P l) : GOk P (look l) := fun _ _ hS => (h _ (look_mem hS)).ok
theorem Goods.nat {P : Program} {l : List (FuncId × Summ)} (h : Goods P l) : GNat (look l) :=
  ⟨fun _ _ hS => (h _ (look_mem hS)).nat.nat, fun _ _ hS => (h _ (look_mem hS)).nat.pure, fun _ _ hS => (h _ (look_mem hS)).nat.make⟩

/-- The same for loops. -/
def lookL : List (Nat × LoopSum) → Nat → Option LoopSum
  | [], _ => none
  | p :: l, f => cond (f == p.1) (some p.2) (lookL l f)

section
variable {P : Program} {T : TypeId → TRow} {Γ : FuncId → Option Summ} {Λ : Nat → Option LoopSum}

/-- A function of the program is told by 'F'. -/
structure Told (P : Program) (T : TypeId → TRow) (Γ : FuncId → Option Summ) (Λ : Nat → Option LoopSum) (f : FuncId) (p : Nat) (inn out : StSh) (F : inn.den → {S : Type} → (out.den → Option S) → Option S) : Prop where
  fn : ∃ fn c, P.funcs[f]? = some fn ∧ fn.name ≠ "runtime.NumGoroutine" ∧ fn.body = some c ∧ LoopsOk P p Λ (loopsOf 0 c) ∧ ∀ (S : Type) (x : inn.den) (k : out.den → Option S), bodyK T Γ Λ fn p inn out x k = F x k
  lnat : LNat Λ

variable {f : FuncId} {p : Nat} {inn out : StSh} {F : inn.den → {S : Type} → (out.den → Option S) → Option S}

theorem Told.nat (h : Told P T Γ Λ f p inn out F) (hΓ : GNat Γ) {S : Type} (x : inn.den) (k : out.den → Option S) : F x k = (F x some).bind k := by
  obtain ⟨fn, c, _, _, _, _, hF⟩ := h.fn
  rw [← hF, ← hF]
  exact bodyK_nat hΓ h.lnat fn p inn out x k

/-- Behind a call. -/
theorem Told.call (h : Told P T Γ Λ f p inn out F) (hT : TOk P T) (hG : GOk P Γ) (hD : DrawOk P T Γ) {args : List AV} {mem : Mem} {x : inn.den} {E : Env} (hR : Read inn 0 ⟨args, mem⟩ x E) {R : Type} {k : AV → Mem → Option R} {r : R}
    (hp : p ≤ inn.mem.length) (hfl : E.l = [] ∨ out.flat = true)
    (hk : (F x fun z => match (out.enc z).fr with
      | [v] => k (v.ren ((E.cut p).rho mem.length)) (wbs ((E.cut p).rho mem.length) (E.cut p).b (out.enc z).mem (kills (E.b.drop p) mem) ++ news ((E.cut p).rho mem.length) (E.cut p).b (out.enc z).mem)
      | _ => none) = some r) {μ : Mu} {sh : Nat → Prop} {w : World} {vs : List Value} (hM : MemR μ mem sh w) (hV : RVs μ mem sh w args vs) :
    Calls P f vs.toArray w fun e w' => ∃ v, e = .returned v ∧ Got k r μ mem sh w v w' := by
  obtain ⟨fn, c, hf, hname, hb, hL, hF⟩ := h.fn
  rw [← hF] at hk
  unfold bodyK at hk
  obtain ⟨hM0, hW0⟩ := hR.mem hM
  have hV0 := Rens.rvs hM hR.len hR.blk hR.fr hV
  have hp0 : p ≤ (inn.enc x).mem.length := by rw [hR.mlen]; exact hp
  refine Calls.mono (fn_ok hT hG hD hf hb hL hM0 hV0 hk) ?_
  rintro e w' ⟨v, av, mem', μ', sh', he, hkk, hv, hM', hW⟩
  refine ⟨v, he, ?_⟩
  simp only [] at hkk
  cases hd : out.dec p ⟨[av], mem'⟩ with
  | none => rw [hd] at hkk; cases hkk
  | some y =>
    rw [hd] at hkk
    obtain ⟨z, E2⟩ := y
    simp only [Option.bind_some] at hkk
    have hR2 := StSh.dec_ok hd
    obtain ⟨hM2, hW2⟩ := hR2.mem (st := ⟨[av], mem'⟩) hM'
    split at hkk
    · rename_i v2 hv2
      have hfr := hR2.fr
      rw [hv2] at hfr
      obtain ⟨a0, ha0, hren⟩ := hfr.get (i := 0) rfl
      simp at ha0
      subst ha0
      have hv2r := hren.rv (bs := (out.enc z).mem) hM' hR2.len hR2.blk hv
      have hWW := hW.trans hW2
      have hfl' : E.l = [] ∨ (v2.flat = true ∧ ∀ b ∈ (out.enc z).mem, b.flat = true) := by
        rcases hfl with h | h
        · exact .inl h
        · obtain ⟨h1, h2⟩ := StSh.flat_enc z h
          rw [hv2] at h1
          simp only [AV.flats, Bool.and_true] at h1
          exact .inr ⟨h1, h2⟩
      obtain ⟨μN, shN, q1, q2, q3⟩ := back_ok hM hR.len hR.fine hR.lent hR.blk hR.has hM2 hp0 hWW hR2.ple hv2r hfl'
      exact ⟨_, _, μN, shN, hkk, q2, q1, q3⟩
    · cases hkk

theorem Told.fnd (h : Told P T Γ Λ f p inn out F) : ∃ fn, P.funcs[f]? = some fn ∧ fn.name ≠ "runtime.NumGoroutine" ∧ fn.body.isNone = false := by
  obtain ⟨fn, c, hf, hname, hb, _, _⟩ := h.fn
  exact ⟨fn, hf, hname, by rw [hb]; rfl⟩

theorem Told.wild (h : Told P T Γ Λ f p inn out F) (hT : TOk P T) (hG : GOk P Γ) (hD : DrawOk P T Γ) (hΓ : GNat Γ) : Good P f ⟨.wild, Summ.callK p inn out F⟩ := by
  refine ⟨⟨h.fnd, ?_⟩, ⟨?_, fun hc => (by cases hc), fun hc => (by cases hc)⟩⟩
  · intro R args mem k r hk μ sh w vs hM hV
    simp only [Summ.callK] at hk
    cases hd : inn.dec 0 ⟨args, mem⟩ with
    | none => rw [hd] at hk; cases hk
    | some y =>
      rw [hd] at hk
      obtain ⟨x, E⟩ := y
      simp only [Option.bind_some] at hk
      cases hc : (Nat.ble p inn.mem.length && (E.l.isEmpty || out.flat)) with
      | false => rw [hc] at hk; cases hk
      | true =>
        rw [hc] at hk
        simp only [Bool.and_eq_true, Bool.or_eq_true, List.isEmpty_iff] at hc
        exact h.call hT hG hD (StSh.dec_ok hd) (Nat.le_of_ble_eq_true hc.1) hc.2 hk hM hV
  · intro R args mem k
    simp only [Summ.callK]
    rw [bind_assoc']
    congr 1
    funext y
    cases (Nat.ble p inn.mem.length && (y.2.l.isEmpty || out.flat)) with
    | false => rfl
    | true =>
      simp only [cond_true]
      rw [h.nat hΓ, h.nat hΓ (S := AV × Mem), bind_assoc']
      congr 1
      funext z
      split <;> rfl

theorem Told.make (h : Told P T Γ Λ f inn.mem.length inn out F) (hT : TOk P T) (hG : GOk P Γ) (hD : DrawOk P T Γ) (hΓ : GNat Γ) : Good P f ⟨.make, Summ.lookK inn out F⟩ := by
  refine ⟨⟨h.fnd, ?_⟩, ⟨?_, fun hc => (by cases hc), ?_⟩⟩
  · intro R args mem k r hk μ sh w vs hM hV
    simp only [Summ.lookK] at hk
    cases hd : inn.dec 0 ⟨args, mem⟩ with
    | none => rw [hd] at hk; cases hk
    | some y =>
      rw [hd] at hk
      obtain ⟨x, E⟩ := y
      simp only [Option.bind_some] at hk
      cases hc : ((E.l.isEmpty || out.flat) && keeps inn.mem out.mem) with
      | false => rw [hc] at hk; cases hk
      | true =>
        rw [hc] at hk
        simp only [Bool.or_eq_true, Bool.and_eq_true, List.isEmpty_iff] at hc
        have hR := StSh.dec_ok hd
        have hcut : E.cut inn.mem.length = E := by
          have hl : E.b.length = inn.mem.length := by rw [hR.len, hR.mlen]
          cases E
          simp only [Env.cut, Env.mk.injEq, and_true]
          exact List.take_of_length_le (Nat.le_of_eq hl)
        have hdrop : kills (E.b.drop inn.mem.length) mem = mem := by
          have hl : E.b.length = inn.mem.length := by rw [hR.len, hR.mlen]
          rw [List.drop_eq_nil_of_le (Nat.le_of_eq hl)]
          rfl
        refine h.call hT hG hD hR (Nat.le_refl _) hc.1 ?_ hM hV
        rw [hcut, hdrop]
        simp only [cond_true] at hk
        rw [← hk]
        congr 1
        funext z
        have hw : wbs (E.rho mem.length) E.b (out.enc z).mem mem = mem := by
          refine wbs_same _ _ _ _ ?_
          intro i j b hE hb
          have hi : i < (inn.enc x).mem.length := by rw [← hR.len]; exact (List.getElem?_eq_some_iff.1 hE).1
          have hb0 : (inn.enc x).mem[i]? = some (inn.enc x).mem[i] := List.getElem?_eq_getElem hi
          have hbr := hR.blk i _ hb0
          obtain ⟨c0, Y0, y0, g1, g2⟩ := BSh.encs_get _ _ _ _ _ hb0
          obtain ⟨s, t, rfl, g3, g4⟩ := keeps_get hc.2 g1
          obtain ⟨c1, Y1, y1, g5, g6⟩ := BSh.encs_get _ _ _ _ _ hb
          rw [g3] at g5; cases g5
          obtain ⟨e1, e2⟩ := Sh.eqv_enc s t g4 Y0 Y1 y0 y1
          rw [g2] at hbr
          obtain ⟨j', v, k1, k2, k3⟩ := hbr
          rw [hE] at k1; cases k1
          have hvr := k3.back (n := mem.length) e2
          rw [k2, g6]
          simp only [BSh.enc, Blk.ren]
          rw [← e1, hvr]
        rw [hw]
        cases (out.enc z).fr with
        | nil => rfl
        | cons v l => cases l <;> rfl
  · intro R args mem k
    simp only [Summ.lookK]
    rw [bind_assoc']
    congr 1
    funext y
    cases ((y.2.l.isEmpty || out.flat) && keeps inn.mem out.mem) with
    | false => rfl
    | true =>
      simp only [cond_true]
      rw [h.nat hΓ, h.nat hΓ (S := AV × Mem), bind_assoc']
      congr 1
      funext z
      split <;> rfl
  · intro _ args mem v m hk
    simp only [Summ.lookK] at hk
    cases hd : inn.dec 0 ⟨args, mem⟩ with
    | none => rw [hd] at hk; cases hk
    | some y =>
      rw [hd] at hk
      simp only [Option.bind_some] at hk
      cases hc : ((y.2.l.isEmpty || out.flat) && keeps inn.mem out.mem) with
      | false => rw [hc] at hk; cases hk
      | true =>
        rw [hc] at hk
        simp only [cond_true] at hk
        rw [h.nat hΓ] at hk
        cases hz : (F y.1 some) with
        | none => rw [hz] at hk; cases hk
        | some z =>
          rw [hz] at hk
          simp only [Option.bind_some] at hk
          split at hk
          · cases hk; exact ⟨_, rfl⟩
          · cases hk

theorem Told.pure (h : Told P T Γ Λ f 0 inn out F) (hT : TOk P T) (hG : GOk P Γ) (hD : DrawOk P T Γ) (hΓ : GNat Γ) : Good P f ⟨.pure, Summ.pureK inn out F⟩ := by
  refine ⟨⟨h.fnd, ?_⟩, ⟨?_, ?_, fun hc => (by cases hc)⟩⟩
  · intro R args mem k r hk μ sh w vs hM hV
    simp only [Summ.pureK] at hk
    cases hc : (inn.mem.isEmpty && out.mem.isEmpty && Sh.closeds out.fr) with
    | false => rw [hc] at hk; cases hk
    | true =>
      rw [hc] at hk
      simp only [Bool.and_eq_true, List.isEmpty_iff] at hc
      obtain ⟨⟨hc1, hc2⟩, hc3⟩ := hc
      simp only [cond_true] at hk
      cases hd : inn.dec 0 ⟨args, []⟩ with
      | none => rw [hd] at hk; cases hk
      | some y =>
        rw [hd] at hk
        obtain ⟨x, E⟩ := y
        simp only [Option.bind_some] at hk
        have hR := StSh.dec_ok hd
        have h0 : (inn.enc x).mem = [] := List.length_eq_zero_iff.1 (by rw [hR.mlen, hc1]; rfl)
        have hEb : E.b = [] := List.length_eq_zero_iff.1 (by rw [hR.len, h0]; rfl)
        have hEl : E.l = [] := by
          cases hl : E.l with
          | nil => rfl
          | cons j l =>
            obtain ⟨t, l', hm⟩ := hR.lent j (by rw [hl]; exact List.mem_cons_self ..)
            simp at hm
        have hR' : Read inn 0 ⟨args, mem⟩ x E := by
          refine ⟨hR.len, hR.mlen, hR.fine, fun j hj => ?_, fun i b hb => ?_, hR.fr.mono (fun i hi => ?_), hR.pin, hR.ple, fun i j hi => ?_⟩
          · rw [hEl] at hj; cases hj
          · rw [h0] at hb; simp at hb
          · rw [hEl] at hi; cases hi
          · rw [hEb] at hi; simp at hi
        have hcut : E.cut 0 = E := by
          cases E
          simp only at hEb
          simp [Env.cut, hEb]
        have hdrop : kills (E.b.drop 0) mem = mem := by rw [hEb]; rfl
        refine h.call hT hG hD hR' (Nat.zero_le _) (.inl hEl) ?_ hM hV
        rw [hcut, hdrop]
        rw [← hk]
        congr 1
        funext z
        have hm2 : (out.enc z).mem = [] := by
          simp only [StSh.enc]
          have : ∀ (l : List BSh) (X : Type) (x : BSh.dens l X), l = [] → (BSh.encs l X x).1 = [] := by
            intro l X x h; subst h; rfl
          exact this _ _ _ hc2
        have hcl := Sh.closeds_ren (E.rho mem.length) out.fr _ z hc3
        have hfe : (out.enc z).fr = (Sh.encs out.fr (BSh.dens out.mem Unit) z).1 := rfl
        rw [← hfe] at hcl
        cases hv : (out.enc z).fr with
        | nil => rfl
        | cons v l =>
          cases l with
          | nil =>
            rw [hv] at hcl
            simp only [AV.rens, List.cons.injEq, and_true] at hcl
            simp only [hcl, hm2, hEb, wbs, news, List.append_nil]
          | cons _ _ => rfl
  · intro R args mem k
    simp only [Summ.pureK]
    cases (inn.mem.isEmpty && out.mem.isEmpty && Sh.closeds out.fr) with
    | false => rfl
    | true =>
      simp only [cond_true]
      rw [bind_assoc']
      congr 1
      funext y
      rw [h.nat hΓ, h.nat hΓ (S := AV × Mem), bind_assoc']
      congr 1
      funext z
      split <;> rfl
  · intro _ args mem v m hk
    simp only [Summ.pureK] at hk ⊢
    cases hc : (inn.mem.isEmpty && out.mem.isEmpty && Sh.closeds out.fr) with
    | false => rw [hc] at hk; cases hk
    | true =>
      rw [hc] at hk
      simp only [cond_true] at hk ⊢
      cases hd : inn.dec 0 ⟨args, []⟩ with
      | none => rw [hd] at hk; cases hk
      | some y =>
        rw [hd] at hk
        simp only [Option.bind_some] at hk ⊢
        rw [h.nat hΓ] at hk
        cases hz : (F y.1 some) with
        | none => rw [hz] at hk; cases hk
        | some z =>
          rw [hz] at hk
          simp only [Option.bind_some] at hk
          split at hk
          · rename_i v' hv
            cases hk
            refine ⟨rfl, fun mem' => ?_⟩
            rw [h.nat hΓ, hz]
            simp only [Option.bind_some, hv]
          · cases hk

end
end Am

/- THE ABSTRACT MACHINE: a table of types, asked by the kernel. -/
namespace Am
open Go

/-- What a type begins with. -/
inductive Z where
  | dflt (s : Ty) | nils | nilp | nilf | comp (l : List Z)

mutual
def Z.av : Z → AV
  | .dflt s => .val s s.dflt
  | .nils => .nils
  | .nilp => .nilp
  | .nilf => .nilf
  | .comp l => .comp (Z.avs l)
def Z.avs : List Z → List AV
  | [] => []
  | z :: l => z.av :: Z.avs l
end

mutual
def Z.cells : Z → List Value
  | .dflt s => s.zc
  | .nils => [.slice none 0 0]
  | .nilp => [.pointer none]
  | .nilf => [.nilFunc]
  | .comp l => Z.cellss l
def Z.cellss : List Z → List Value
  | [] => []
  | z :: l => z.cells ++ Z.cellss l
end

mutual
theorem Z.rc (μ : Mu) (mem : Mem) (sh : Nat → Prop) (w : World) : ∀ z : Z, RC μ mem sh w z.av z.cells
  | .dflt s => Ty.enc_dflt sh w s
  | .nils => rfl
  | .nilp => rfl
  | .nilf => rfl
  | .comp l => Z.rcs μ mem sh w l
theorem Z.rcs (μ : Mu) (mem : Mem) (sh : Nat → Prop) (w : World) : ∀ l : List Z, RCs μ mem sh w (Z.avs l) (Z.cellss l)
  | [] => rfl
  | z :: l => ⟨_, _, rfl, Z.rc μ mem sh w z, Z.rcs μ mem sh w l⟩
end

/-- A row of the table. -/
structure RD where
  td : TD
  size : Nat
  agg : Bool
  zero : Option Z
  ty : Option Ty
  eq : Bool

def RD.row (r : RD) : TRow := ⟨r.td, r.size, r.agg, r.zero.map Z.av, r.ty, r.eq⟩

def cellB : Value → Value → Bool
  | .int k n, .int l m => decide (k = l) && decide (n = m)
  | .bool a, .bool b => a == b
  | .string s, .string t => decide (s.data.toList = t.data.toList)
  | .pointer none, .pointer none => true
  | .slice none 0 0, .slice none 0 0 => true
  | .nilFunc, .nilFunc => true
  | _, _ => false

theorem cellB_eq {a b : Value} (h : cellB a b = true) : a = b := by
  unfold cellB at h
  split at h
  · simp only [Bool.and_eq_true, decide_eq_true_eq] at h; rw [h.1, h.2]
  · simp only [beq_iff_eq] at h; rw [h]
  · rename_i s t
    simp only [decide_eq_true_eq] at h
    cases s; cases t
    simp only at h
    rw [Array.toList_inj.1 h]
  · rfl
  · rfl
  · rfl
  · cases h

def cellsB : List Value → List Value → Bool
  | [], [] => true
  | a :: l, b :: m => cellB a b && cellsB l m
  | _, _ => false

theorem cellsB_eq : ∀ {l m : List Value}, cellsB l m = true → l = m
  | [], [], _ => rfl
  | a :: l, b :: m, h => by
    simp only [cellsB, Bool.and_eq_true] at h
    rw [cellB_eq h.1, cellsB_eq h.2]
  | [], _ :: _, h | _ :: _, [], h => by cases h

def fieldsB : List Field → List (TypeId × Nat) → Bool
  | [], [] => true
  | f :: l, p :: m => decide (f.type = p.1) && decide (f.offset = p.2) && decide (f.name ≠ "_") && fieldsB l m
  | _, _ => false

theorem fieldsB_ok : ∀ {l : List Field} {m : List (TypeId × Nat)}, fieldsB l m = true → l.map (fun f => (f.type, f.offset)) = m ∧ ∀ f ∈ l, f.name ≠ "_"
  | [], [], _ => ⟨rfl, fun _ h => by cases h⟩
  | f :: l, p :: m, h => by
    simp only [fieldsB, Bool.and_eq_true, decide_eq_true_eq] at h
    obtain ⟨⟨⟨h1, h2⟩, h3⟩, h4⟩ := h
    obtain ⟨h5, h6⟩ := fieldsB_ok h4
    refine ⟨by simp [h5, h1, h2], fun g hg => ?_⟩
    rcases List.mem_cons.1 hg with rfl | hg
    · exact h3
    · exact h6 g hg
  | [], _ :: _, h | _ :: _, [], h => by cases h

def tdB : TypeDesc → TD → Bool
  | .int k, .int l => decide (k = l)
  | .bool, .bool => true
  | .string, .str => true
  | .pointer _, .ptr => true
  | .slice e, .slice e' => decide (e = e')
  | .array n e, .arr n' e' => decide (n = n') && decide (e = e')
  | .struct l, .struct fs => fieldsB l.toList fs
  | .func .., .func => true
  | _, _ => false

theorem tdB_ok {d : TypeDesc} {r : TD} (h : tdB d r = true) : TDOk d r := by
  unfold tdB at h
  split at h
  · simp only [decide_eq_true_eq] at h; rw [h]; rfl
  · rfl
  · rfl
  · exact ⟨_, rfl⟩
  · simp only [decide_eq_true_eq] at h; rw [h]; rfl
  · simp only [Bool.and_eq_true, decide_eq_true_eq] at h; rw [h.1, h.2]; rfl
  · exact ⟨_, rfl, (fieldsB_ok h).1, (fieldsB_ok h).2⟩
  · exact ⟨_, _, _, rfl⟩
  · cases h

/-- A part's size. -/
def partB (P : Program) (t : TypeId) (s : Ty) : Bool := match P.info? t, P.underlying t with
  | some i, some d => decide (i.size = s.size) && (aggDesc d == s.agg)
  | _, _ => false

theorem partB_ok {P : Program} {t : TypeId} {s : Ty} (h : partB P t s = true) : ∃ i d, P.info? t = some i ∧ i.size = s.size ∧ P.underlying t = some d ∧ aggDesc d = s.agg := by
  unfold partB at h
  split at h
  · rename_i i d hi hd
    simp only [Bool.and_eq_true, decide_eq_true_eq, beq_iff_eq] at h
    exact ⟨i, d, hi, h.1, hd, h.2⟩
  · cases h

/-- May a type's values be compared? The second answer: may fields, from a place on? -/
def eqB (P : Program) : Ty → (TypeId → Bool) × (List Field → Nat → Bool)
  | .int k => (fun t => match P.underlying t with | some (.int l) => decide (l = k) | _ => false, fun _ _ => false)
  | .bool => (fun t => match P.underlying t with | some .bool => true | _ => false, fun _ _ => false)
  | .str => (fun t => match P.underlying t with | some .string => true | _ => false, fun _ _ => false)
  | .arr n s => (fun t => match P.underlying t with | some (.array m e) => decide (m = n) && partB P e s && (eqB P s).1 e | _ => false, fun _ _ => false)
  | .unit => (fun t => match P.underlying t with | some (.struct fs) => !P.stoodInHeld t && fs.toList.isEmpty | _ => false, fun fs _ => fs.isEmpty)
  | .pair a b => (fun t => match P.underlying t with
      | some (.struct fs) => !P.stoodInHeld t && (match fs.toList with
        | f :: l => decide (f.name ≠ "_") && decide (f.offset = 0) && partB P f.type a && (eqB P a).1 f.type && (eqB P b).2 l (0 + a.size)
        | [] => false)
      | _ => false,
    fun fs off => match fs with
      | f :: l => decide (f.name ≠ "_") && decide (f.offset = off) && partB P f.type a && (eqB P a).1 f.type && (eqB P b).2 l (off + a.size)
      | [] => false)
  | .list _ => (fun _ => false, fun _ _ => false)

theorem eqB_ok (P : Program) : ∀ s : Ty, (∀ t, (eqB P s).1 t = true → EqOk P t s) ∧ ∀ fs off, (eqB P s).2 fs off = true → EqFs P fs off s
  | .int k => by
    refine ⟨fun t h => ?_, fun _ _ h => by cases h⟩
    simp only [eqB] at h
    split at h
    · rename_i hu; simp only [decide_eq_true_eq] at h; rw [h] at hu; simpa [EqOk] using hu
    · cases h
  | .bool => by
    refine ⟨fun t h => ?_, fun _ _ h => by cases h⟩
    simp only [eqB] at h
    split at h
    · rename_i hu; simpa [EqOk] using hu
    · cases h
  | .str => by
    refine ⟨fun t h => ?_, fun _ _ h => by cases h⟩
    simp only [eqB] at h
    split at h
    · rename_i hu; simpa [EqOk] using hu
    · cases h
  | .arr n s => by
    refine ⟨fun t h => ?_, fun _ _ h => by cases h⟩
    simp only [eqB] at h
    split at h
    · rename_i m e hu
      simp only [Bool.and_eq_true, decide_eq_true_eq] at h
      obtain ⟨⟨rfl, h2⟩, h3⟩ := h
      obtain ⟨i, d, k1, k2, k3, k4⟩ := partB_ok h2
      simp only [EqOk]
      exact ⟨e, i, d, hu, k1, k2, k3, k4, (eqB_ok P s).1 e h3⟩
    · cases h
  | .unit => by
    refine ⟨fun t h => ?_, fun fs off h => ?_⟩
    · simp only [eqB] at h
      split at h
      · rename_i fs hu
        simp only [Bool.and_eq_true, Bool.not_eq_true', List.isEmpty_iff] at h
        simp only [EqOk]
        exact ⟨fs, hu, h.1, by rw [h.2]; simp [EqFs]⟩
      · cases h
    · simp only [eqB, List.isEmpty_iff] at h
      subst h
      simp [EqFs]
  | .pair a b => by
    have fields : ∀ fs off, (eqB P (.pair a b)).2 fs off = true → EqFs P fs off (.pair a b) := by
      intro fs off h
      simp only [eqB] at h
      split at h
      · rename_i f l
        simp only [Bool.and_eq_true, decide_eq_true_eq] at h
        obtain ⟨⟨⟨⟨h1, h2⟩, h3⟩, h4⟩, h5⟩ := h
        simp only [EqFs]
        obtain ⟨i, d, k1, k2, k3, k4⟩ := partB_ok h3
        exact ⟨h1, h2, ⟨i, d, k1, k2, k3, k4⟩, (eqB_ok P a).1 _ h4, (eqB_ok P b).2 _ _ h5⟩
      · cases h
    refine ⟨fun t h => ?_, fields⟩
    simp only [eqB] at h
    split at h
    · rename_i fs hu
      simp only [Bool.and_eq_true, Bool.not_eq_true'] at h
      simp only [EqOk]
      exact ⟨fs, hu, h.1, fields fs.toList 0 (by simp only [eqB]; exact h.2)⟩
    · cases h
  | .list _ => ⟨fun _ h => (by cases h), fun _ _ h => (by cases h)⟩

/-- The whole row. -/
def rowB (P : Program) (t : TypeId) (r : RD) : Bool := match P.info? t, P.underlying t with
  | some i, some d => decide (i.size = r.size) && tdB d r.td && (aggDesc d == r.agg) && decide (i.bytes ≤ 512) &&
    (match r.zero with
     | some z => (match i.zero with
       | some v => (z.av.agg == r.agg) && z.av.known && (match v with
         | .agg cs => z.av.agg && cellsB cs.toList z.cells
         | v => !z.av.agg && cellsB [v] z.cells)
       | none => false)
     | none => true) &&
    (match r.ty with
     | some s => decide (s.size = r.size) && (s.agg == r.agg) && (match i.zero with
       | some v => cellsB v.cells.toList s.zc
       | none => false)
     | none => true) &&
    (match d with
     | .struct l => l.toList.all fun f => (P.info? f.type).isSome
     | _ => true) &&
    (!r.eq || (!P.eqGuardType P.depth t && (match r.ty with
      | some s => (eqB P s).1 t
      | none => false)))
  | _, _ => false

theorem rowB_ok {P : Program} {t : TypeId} {r : RD} (h : rowB P t r = true) : TRowOk P t r.row := by
  unfold rowB at h
  split at h
  · rename_i i d hi hd
    simp only [Bool.and_eq_true, decide_eq_true_eq, beq_iff_eq] at h
    obtain ⟨⟨⟨⟨⟨⟨⟨h1, h2⟩, h3⟩, h4⟩, h5⟩, h6⟩, h7⟩, h8⟩ := h
    refine ⟨i, d, hi, hd, h1, tdB_ok h2, h3, h4, ?_, ?_, ?_, ?_⟩
    · intro z hz
      simp only [RD.row, Option.map_eq_some_iff] at hz
      obtain ⟨z0, hz0, rfl⟩ := hz
      rw [hz0] at h5
      simp only at h5
      split at h5
      · rename_i v hv
        simp only [Bool.and_eq_true, beq_iff_eq] at h5
        obtain ⟨⟨k1, k2⟩, k3⟩ := h5
        refine ⟨v, hv, k1, k2, fun μ mem sh w => ⟨z0.cells, Z.rc μ mem sh w z0, ?_⟩⟩
        split at k3
        · rename_i cs
          simp only [Bool.and_eq_true] at k3
          rw [if_pos k3.1, ← cellsB_eq k3.2]
        · simp only [Bool.and_eq_true, Bool.not_eq_true'] at k3
          rw [if_neg (by rw [k3.1]; simp), ← cellsB_eq k3.2]
      · cases h5
    · intro s hs
      simp only [RD.row] at hs
      rw [hs] at h6
      simp only [Bool.and_eq_true, decide_eq_true_eq, beq_iff_eq] at h6
      obtain ⟨⟨k1, k2⟩, k3⟩ := h6
      split at k3
      · rename_i v hv
        exact ⟨k1, k2, v, hv, cellsB_eq k3⟩
      · cases k3
    · intro l hl f hf
      subst hl
      rw [List.all_eq_true] at h7
      exact h7 f hf
    · intro he
      simp only [RD.row] at he
      rw [he] at h8
      simp only [Bool.not_true, Bool.false_or, Bool.and_eq_true, Bool.not_eq_true'] at h8
      refine ⟨h8.1, ?_⟩
      have h9 := h8.2
      split at h9
      · rename_i s hs
        exact ⟨s, hs, (eqB_ok P s).1 t h9⟩
      · cases h9
  · cases h

def nth : List RD → Nat → TRow
  | [], _ => ⟨.other, 1, false, none, none, false⟩
  | r :: _, 0 => r.row
  | _ :: l, n + 1 => nth l n

def tabB (P : Program) : List RD → Nat → Bool
  | [], _ => true
  | r :: l, n => (!r.row.ok || rowB P n r) && tabB P l (n + 1)

theorem tabB_ok {P : Program} : ∀ {l : List RD} {n : Nat}, tabB P l n = true → ∀ t, (nth l t).ok = true → TRowOk P (n + t) (nth l t)
  | [], n, _, t, h => by simp [nth, TRow.ok] at h
  | r :: l, n, hb, 0, h => by
    simp only [tabB, Bool.and_eq_true, Bool.or_eq_true, Bool.not_eq_true'] at hb
    simp only [nth] at h ⊢
    rcases hb.1 with h1 | h1
    · rw [h] at h1; cases h1
    · exact rowB_ok h1
  | r :: l, n, hb, t + 1, h => by
    simp only [tabB, Bool.and_eq_true] at hb
    simp only [nth] at h ⊢
    have := tabB_ok hb.2 t h
    rwa [show n + 1 + t = n + (t + 1) by omega] at this

theorem tab_ok {P : Program} {l : List RD} (h : tabB P l 0 = true) : TOk P (nth l) := fun t ht => by
  have := tabB_ok h t ht
  rwa [Nat.zero_add] at this

end Am

/- THE ABSTRACT MACHINE: a function's body and its loops. -/
namespace Am
open Go

def bodyOf (fn : Func) : Code := fn.body.getD .skip

def loopsF (fn : Func) : List (Nat × Code) := loopsOf 0 (bodyOf fn)

def findL : List (Nat × Code) → Nat → Option Code
  | [], _ => none
  | p :: l, cur => cond (p.1 == cur) (some p.2) (findL l cur)

def uniqL : List (Nat × Code) → Bool
  | [] => true
  | p :: l => l.all (fun q => !(q.1 == p.1)) && uniqL l

def fitF (fn : Func) : Bool := decide (fn.name ≠ "runtime.NumGoroutine") && fn.body.isSome && uniqL (loopsF fn)

theorem findL_uniq : ∀ {l : List (Nat × Code)} {x : Nat × Code}, uniqL l = true → x ∈ l → findL l x.1 = some x.2
  | p :: l, x, h, hx => by
    simp only [uniqL, Bool.and_eq_true, List.all_eq_true] at h
    simp only [findL]
    rcases List.mem_cons.1 hx with rfl | hx
    · simp
    · have := h.1 x hx
      have hne : (p.1 == x.1) = false := by
        cases hq : p.1 == x.1 with
        | false => rfl
        | true =>
          have hq' : p.1 = x.1 := by simpa using hq
          rw [hq'] at this
          simp at this
      rw [hne]
      exact findL_uniq h.2 hx

theorem loops_sub : ∀ (c : Code) (cur : Nat) {p : Nat × Code}, p ∈ loopsOf cur c → ∀ x ∈ loopsOf p.1 p.2, x ∈ loopsOf cur c
  | .seq a b, cur, p, hp, x, hx => by
    simp only [loopsOf, List.mem_append] at hp ⊢
    rcases hp with hp | hp
    · exact .inl (loops_sub a cur hp x hx)
    · exact .inr (loops_sub b cur hp x hx)
  | .cond _ a b, cur, p, hp, x, hx => by
    simp only [loopsOf, List.mem_append] at hp ⊢
    rcases hp with hp | hp
    · exact .inl (loops_sub a cur hp x hx)
    · exact .inr (loops_sub b cur hp x hx)
  | .block id c, cur, p, hp, x, hx => by
    simp only [loopsOf] at hp ⊢
    exact loops_sub c id hp x hx
  | .loop c, cur, p, hp, x, hx => by
    simp only [loopsOf, List.mem_cons] at hp ⊢
    rcases hp with rfl | hp
    · exact .inr hx
    · exact .inr (loops_sub c cur hp x hx)
  | .skip, cur, p, hp, x, hx | .region _ _ _, cur, p, hp, x, hx | .exit _, cur, p, hp, x, hx | .ret, cur, p, hp, x, hx
  | .rangeFunc .., cur, p, hp, x, hx | .scope _, cur, p, hp, x, hx | .label _, cur, p, hp, x, hx | .goto _, cur, p, hp, x, hx | .refuse _, cur, p, hp, x, hx => by simp [loopsOf] at hp

end Am

/- THE ABSTRACT MACHINE: a function that is told by a shallow one. -/
namespace Am
open Go

/-- A position, a move, a step, as plain data. -/
abbrev PosD := List Int × Int × Int × Int × Unit
abbrev MoveD := Int × Int × Int × Unit
abbrev StepD := Int × Int × Unit

/-- The body of a function's loop. -/
def bodyL (fn : Func) (cur : Nat) : Code := (findL (loopsF fn) cur).getD .skip

def LoopsGood (P : Program) (p : Nat) (loops : List (Nat × Code)) (l : List (Nat × LoopSum)) : Prop :=
  ∀ q ∈ l, (∀ body, findL loops q.1 = some body → LoopOk P p body q.2) ∧ q.2.Nice

theorem lookL_mem : ∀ {l : List (Nat × LoopSum)} {f : Nat} {S : LoopSum}, lookL l f = some S → (f, S) ∈ l
  | [], _, _, h => by cases h
  | p :: l, f, S, h => by
    simp only [lookL] at h
    cases hq : f == p.1 with
    | true =>
      rw [hq] at h
      cases h
      have : f = p.1 := by simpa using hq
      subst this
      exact List.mem_cons_self ..
    | false => rw [hq] at h; exact List.mem_cons_of_mem _ (lookL_mem h)

theorem LoopsGood.nil (P : Program) (p : Nat) (loops : List (Nat × Code)) : LoopsGood P p loops [] := fun _ h => by cases h

theorem LoopsGood.ok {P : Program} {p : Nat} {c : Code} {l : List (Nat × LoopSum)} (h : LoopsGood P p (loopsOf 0 c) l) (hu : uniqL (loopsOf 0 c) = true) {m : List (Nat × Code)} (hm : ∀ x ∈ m, x ∈ loopsOf 0 c) : LoopsOk P p (lookL l) m := by
  intro x hx S hS
  exact (h _ (lookL_mem hS)).1 x.2 (findL_uniq hu (hm x hx))

theorem LoopsGood.nat {P : Program} {p : Nat} {loops : List (Nat × Code)} {l : List (Nat × LoopSum)} (h : LoopsGood P p loops l) : LNat (lookL l) := fun _ _ hS => (h _ (lookL_mem hS)).2

theorem findL_mem : ∀ {l : List (Nat × Code)} {cur : Nat} {c : Code}, findL l cur = some c → (cur, c) ∈ l
  | [], _, _, h => by cases h
  | p :: l, cur, c, h => by
    simp only [findL] at h
    cases hq : p.1 == cur with
    | true =>
      rw [hq] at h
      cases h
      have : p.1 = cur := by simpa using hq
      subst this
      exact List.mem_cons_self ..
    | false => rw [hq] at h; exact List.mem_cons_of_mem _ (findL_mem h)

section
variable {P : Program} {T : TypeId → TRow} {g : List (FuncId × Summ)}

theorem loop_cons (hm : P.follows .mixedOrders = true) (hT : TOk P T) (hg : Goods P g) {fn : Func} (hfit : fitF fn = true) {p : Nat} {l : List (Nat × LoopSum)} (hl : LoopsGood P p (loopsF fn) l) (cur : Nat)
    {sh0 : LSh} {B : sh0.sh.den → {S : Type} → (sh0.sh.den → Option S) → (sh0.out.den → Option S) → (sh0.ret.den → Option S) → Option S}
    (hB : ∀ (S : Type) (x : sh0.sh.den) (kn : sh0.sh.den → Option S) (kx : sh0.out.den → Option S) (kr : sh0.ret.den → Option S), roundK T (look g) (lookL l) sh0 p cur (bodyL fn cur) x kn kx kr = B x kn kx kr) (fuel : sh0.sh.den → Nat) :
    LoopsGood P p (loopsF fn) ((cur, LoopSum.by sh0 p B fuel) :: l) := by
  simp only [fitF, Bool.and_eq_true, decide_eq_true_eq] at hfit
  intro q hq
  rcases List.mem_cons.1 hq with rfl | hq
  · have hD : DrawOk P T (look g) := draw_ok hm hT hg.ok hg.nat
    refine ⟨fun body hb => ?_, by_nat hg.nat hl.nat hB fuel⟩
    have hbl : bodyL fn cur = body := by simp [bodyL, hb]
    rw [hbl] at hB
    have hL : LoopsOk P p (lookL l) (loopsOf cur body) := LoopsGood.ok hl hfit.2 (fun x hx => loops_sub (bodyOf fn) 0 (findL_mem hb) x hx)
    intro R
    exact by_ok hT hg.ok hD hL hB fuel
  · exact hl q hq

theorem told_by {f : FuncId} {fn : Func} (hf : P.funcs[f]? = some fn) (hfit : fitF fn = true) {p : Nat} {l : List (Nat × LoopSum)} (hl : LoopsGood P p (loopsF fn) l) {inn out : StSh}
    {F : inn.den → {S : Type} → (out.den → Option S) → Option S} (hF : ∀ (S : Type) (x : inn.den) (k : out.den → Option S), bodyK T (look g) (lookL l) fn p inn out x k = F x k) :
    Told P T (look g) (lookL l) f p inn out F := by
  simp only [fitF, Bool.and_eq_true, decide_eq_true_eq] at hfit
  obtain ⟨⟨h1, h2⟩, h3⟩ := hfit
  cases hb : fn.body with
  | none => rw [hb] at h2; cases h2
  | some c =>
    have hc : bodyOf fn = c := by simp [bodyOf, hb]
    refine ⟨⟨fn, c, hf, h1, hb, ?_, hF⟩, hl.nat⟩
    have hl' : LoopsGood P p (loopsOf 0 c) l := by rw [← hc]; exact hl
    exact hl'.ok (by rw [← hc]; exact h3) (fun x hx => hx)

theorem by_pure (hm : P.follows .mixedOrders = true) (hT : TOk P T) (hg : Goods P g) {f : FuncId} {fn : Func} (hf : P.funcs[f]? = some fn) (hfit : fitF fn = true) {l : List (Nat × LoopSum)} (hl : LoopsGood P 0 (loopsF fn) l) {inn out : StSh}
    {F : inn.den → {S : Type} → (out.den → Option S) → Option S} (hF : ∀ (S : Type) (x : inn.den) (k : out.den → Option S), bodyK T (look g) (lookL l) fn 0 inn out x k = F x k) :
    Goods P ((f, ⟨.pure, Summ.pureK inn out F⟩) :: g) :=
  Goods.cons ((told_by hf hfit hl hF).pure hT hg.ok (draw_ok hm hT hg.ok hg.nat) hg.nat) hg

theorem by_make (hm : P.follows .mixedOrders = true) (hT : TOk P T) (hg : Goods P g) {f : FuncId} {fn : Func} (hf : P.funcs[f]? = some fn) (hfit : fitF fn = true) {inn out : StSh} {l : List (Nat × LoopSum)} (hl : LoopsGood P inn.mem.length (loopsF fn) l)
    {F : inn.den → {S : Type} → (out.den → Option S) → Option S} (hF : ∀ (S : Type) (x : inn.den) (k : out.den → Option S), bodyK T (look g) (lookL l) fn inn.mem.length inn out x k = F x k) :
    Goods P ((f, ⟨.make, Summ.lookK inn out F⟩) :: g) :=
  Goods.cons ((told_by hf hfit hl hF).make hT hg.ok (draw_ok hm hT hg.ok hg.nat) hg.nat) hg

theorem by_wild (hm : P.follows .mixedOrders = true) (hT : TOk P T) (hg : Goods P g) {f : FuncId} {fn : Func} (hf : P.funcs[f]? = some fn) (hfit : fitF fn = true) {inn out : StSh} {p : Nat} {l : List (Nat × LoopSum)} (hl : LoopsGood P p (loopsF fn) l)
    {F : inn.den → {S : Type} → (out.den → Option S) → Option S} (hF : ∀ (S : Type) (x : inn.den) (k : out.den → Option S), bodyK T (look g) (lookL l) fn p inn out x k = F x k) :
    Goods P ((f, ⟨.wild, Summ.callK p inn out F⟩) :: g) :=
  Goods.cons ((told_by hf hfit hl hF).wild hT hg.ok (draw_ok hm hT hg.ok hg.nat) hg.nat) hg

/-- A loop that is told by 'L', which is its rounds, so many at most. -/
theorem loop_of (hm : P.follows .mixedOrders = true) (hT : TOk P T) (hg : Goods P g) {fn : Func} (hfit : fitF fn = true) {p : Nat} {l : List (Nat × LoopSum)} (hl : LoopsGood P p (loopsF fn) l) (cur : Nat)
    {sh0 : LSh} {B : sh0.sh.den → {S : Type} → (sh0.sh.den → Option S) → (sh0.out.den → Option S) → (sh0.ret.den → Option S) → Option S}
    (hB : ∀ (S : Type) (x : sh0.sh.den) (kn : sh0.sh.den → Option S) (kx : sh0.out.den → Option S) (kr : sh0.ret.den → Option S), roundK T (look g) (lookL l) sh0 p cur (bodyL fn cur) x kn kx kr = B x kn kx kr) (fuel : sh0.sh.den → Nat)
    {L : sh0.sh.den → {S : Type} → (sh0.out.den → Option S) → (sh0.ret.den → Option S) → Option S}
    (hL : ∀ (S : Type) (x : sh0.sh.den) (kx : sh0.out.den → Option S) (kr : sh0.ret.den → Option S), L x kx kr = iter B (fuel x) x kx kr) :
    LoopsGood P p (loopsF fn) ((cur, LoopSum.of sh0 p L) :: l) := by
  have he : LoopSum.of sh0 p L = LoopSum.by sh0 p B fuel := by
    have : @L = fun x S k kr => iter B (fuel x) x k kr := by
      funext x S kx kr
      exact hL S x kx kr
    unfold LoopSum.by
    rw [this]
  rw [he]
  exact loop_cons hm hT hg hfit hl cur hB fuel

theorem good_pure (hm : P.follows .mixedOrders = true) (hT : TOk P T) (hg : Goods P g) {f : FuncId} {fn : Func} (hf : P.funcs[f]? = some fn) (hfit : fitF fn = true) {l : List (Nat × LoopSum)} (hl : LoopsGood P 0 (loopsF fn) l) {inn out : StSh}
    {F : inn.den → {S : Type} → (out.den → Option S) → Option S} (hF : ∀ (S : Type) (x : inn.den) (k : out.den → Option S), bodyK T (look g) (lookL l) fn 0 inn out x k = F x k) :
    Good P f ⟨.pure, Summ.pureK inn out F⟩ := (told_by hf hfit hl hF).pure hT hg.ok (draw_ok hm hT hg.ok hg.nat) hg.nat

theorem good_make (hm : P.follows .mixedOrders = true) (hT : TOk P T) (hg : Goods P g) {f : FuncId} {fn : Func} (hf : P.funcs[f]? = some fn) (hfit : fitF fn = true) {inn out : StSh} {l : List (Nat × LoopSum)} (hl : LoopsGood P inn.mem.length (loopsF fn) l)
    {F : inn.den → {S : Type} → (out.den → Option S) → Option S} (hF : ∀ (S : Type) (x : inn.den) (k : out.den → Option S), bodyK T (look g) (lookL l) fn inn.mem.length inn out x k = F x k) :
    Good P f ⟨.make, Summ.lookK inn out F⟩ := (told_by hf hfit hl hF).make hT hg.ok (draw_ok hm hT hg.ok hg.nat) hg.nat

theorem good_wild (hm : P.follows .mixedOrders = true) (hT : TOk P T) (hg : Goods P g) {f : FuncId} {fn : Func} (hf : P.funcs[f]? = some fn) (hfit : fitF fn = true) {inn out : StSh} {p : Nat} {l : List (Nat × LoopSum)} (hl : LoopsGood P p (loopsF fn) l)
    {F : inn.den → {S : Type} → (out.den → Option S) → Option S} (hF : ∀ (S : Type) (x : inn.den) (k : out.den → Option S), bodyK T (look g) (lookL l) fn p inn out x k = F x k) :
    Good P f ⟨.wild, Summ.callK p inn out F⟩ := (told_by hf hfit hl hF).wild hT hg.ok (draw_ok hm hT hg.ok hg.nat) hg.nat

end
/-! ### a function that is told in two ways, by what it is called with -/
def headEq : Sh → AV → Bool
  | .fn f _, .fn g _ => f == g
  | .nilp, .nilp => true
  | .nilp, _ => false
  | .ptr _ _, .nilp => false
  | _, _ => true
def heads : List Sh → List AV → Bool
  | s :: l, v :: vs => headEq s v && heads l vs
  | _, _ => true
def Summ.alt (fr : List Sh) (A B : Summ) : Summ := ⟨A.cls, fun args mem k => cond (heads fr args) (A.run args mem k) (B.run args mem k)⟩

theorem good_alt {P : Program} {f : FuncId} {A B : Summ} (fr : List Sh) (hA : Good P f A) (hB : Good P f B) (hc : A.cls = B.cls) : Good P f (Summ.alt fr A B) := by
  refine ⟨⟨hA.ok.fn, ?_⟩, ⟨?_, ?_, ?_⟩⟩
  · intro R args mem k r h
    simp only [Summ.alt] at h
    cases hh : heads fr args with
    | true => rw [hh] at h; exact hA.ok.run args mem k r h
    | false => rw [hh] at h; exact hB.ok.run args mem k r h
  · intro R args mem k
    simp only [Summ.alt]
    cases heads fr args with
    | true => exact hA.nat.nat args mem k
    | false => exact hB.nat.nat args mem k
  · intro hp args mem v m h
    simp only [Summ.alt] at hp h ⊢
    cases hh : heads fr args with
    | true => rw [hh] at h; exact hA.nat.pure hp args mem v m h
    | false => rw [hh] at h; exact hB.nat.pure (hc ▸ hp) args mem v m h
  · intro hp args mem v m h
    simp only [Summ.alt] at hp h
    cases hh : heads fr args with
    | true => rw [hh] at h; exact hA.nat.make hp args mem v m h
    | false => rw [hh] at h; exact hB.nat.make (hc ▸ hp) args mem v m h

end Am

/- THE ABSTRACT MACHINE: arguments that are plain data, as a row reads them. -/
namespace Am
open Go

/-- Whole numbers fit their kinds, texts their bound, arrays their length. -/
def Ty.wf : (t : Ty) → t.den → Prop
  | .int k, x => (Lit.int k x).wf = true
  | .bool, _ => True
  | .str, x => ByteArray.size x ≤ maxLen
  | .unit, _ => True
  | .pair a b, x => a.wf x.1 ∧ b.wf x.2
  | .arr n t, l => List.length l = n ∧ ∀ x ∈ (l : List t.den), t.wf x
  | .list _, _ => False

theorem mapM_congr' {α β : Type} {f g : α → Option β} : ∀ (l : List α), (∀ x ∈ l, f x = g x) → l.mapM f = l.mapM g
  | [], _ => rfl
  | a :: l, h => by
    rw [List.mapM_cons, List.mapM_cons, h a (by simp), mapM_congr' l fun x hx => h x (by simp [hx])]

theorem cells_of {P : Program} {t : TypeId} {i : TypeInfo} (h : P.info? t = some i) : P.cellsOf t = i.size := by simp [Program.cellsOf, h]

section
variable {H : Type} {enc : TypeId × Value → H} {P : Program}

mutual
/-- What plain data reads as does not hang on the world. -/
theorem trod_indep (w w2 : World) (b b2 : Nat) (sp sp2 : Nat → Bool) (h h2 : Bool) : ∀ (s : Ty) (t : TypeId), EqOk P t s → ∀ (fuel : Nat) (cs : List Value), DataW.trod enc P w b sp h fuel t cs = DataW.trod enc P w2 b2 sp2 h2 fuel t cs
  | _, _, _, 0, _ => rfl
  | .int k, t, ht, n + 1, cs => by simp only [EqOk] at ht; unfold DataW.trod; rw [ht]; split <;> simp_all
  | .bool, t, ht, n + 1, cs => by simp only [EqOk] at ht; unfold DataW.trod; rw [ht]; split <;> simp_all
  | .str, t, ht, n + 1, cs => by simp only [EqOk] at ht; unfold DataW.trod; rw [ht]; split <;> simp_all
  | .arr m s, t, ht, n + 1, cs => by
    simp only [EqOk] at ht
    obtain ⟨e, i, d, hu, hi, hs, hd, ha, he⟩ := ht
    unfold DataW.trod
    simp only [hu]
    rw [mapM_congr' (List.range m) fun j _ => trod_indep w w2 b b2 sp sp2 h h2 s e he n _]
  | .pair x y, t, ht, n + 1, cs => by
    simp only [EqOk] at ht
    obtain ⟨fs, hu, _, hf⟩ := ht
    unfold DataW.trod
    simp only [hu]
    rw [mapM_congr' fs.toList fun f hm => trods_indep w w2 b b2 sp sp2 h h2 (.pair x y) fs.toList 0 hf f hm n _]
  | .unit, t, ht, n + 1, cs => by
    simp only [EqOk] at ht
    obtain ⟨fs, hu, _, hf⟩ := ht
    unfold DataW.trod
    simp only [hu]
    rw [mapM_congr' fs.toList fun f hm => trods_indep w w2 b b2 sp sp2 h h2 .unit fs.toList 0 hf f hm n _]
  | .list _, t, ht, n + 1, cs => by simp only [EqOk] at ht
theorem trods_indep (w w2 : World) (b b2 : Nat) (sp sp2 : Nat → Bool) (h h2 : Bool) : ∀ (s : Ty) (fs : List Field) (off : Nat), EqFs P fs off s → ∀ f ∈ fs, ∀ (fuel : Nat) (cs : List Value), DataW.trod enc P w b sp h fuel f.type cs = DataW.trod enc P w2 b2 sp2 h2 fuel f.type cs
  | _, [], _, _, f, hf, _, _ => by cases hf
  | .pair x y, g :: fs, off, hk, f, hf, fuel, cs => by
    simp only [EqFs] at hk
    obtain ⟨_, _, _, hg, hfs⟩ := hk
    rcases List.mem_cons.1 hf with rfl | hf
    · exact trod_indep w w2 b b2 sp sp2 h h2 x f.type hg fuel cs
    · exact trods_indep w w2 b b2 sp sp2 h h2 y fs (off + x.size) hfs f hf fuel cs
  | .int _, g :: fs, off, hk, f, hf, fuel, cs | .bool, g :: fs, off, hk, f, hf, fuel, cs | .str, g :: fs, off, hk, f, hf, fuel, cs | .unit, g :: fs, off, hk, f, hf, fuel, cs
  | .arr _ _, g :: fs, off, hk, f, hf, fuel, cs | .list _, g :: fs, off, hk, f, hf, fuel, cs => by simp [EqFs] at hk
end

/-- A row of cells as a list of plain data. -/
theorem encL_all (s : Ty) : ∀ (n : Nat) (cs : List Value), cs.length = n * s.size →
    (∀ i, i < n → ∃ x : s.den, s.wf x ∧ ∀ sh w, Enc sh w s x ((cs.drop (i * s.size)).take s.size)) → ∃ l : List s.den, l.length = n ∧ (∀ x ∈ l, s.wf x) ∧ ∀ sh w, EncL (Enc sh w s) l cs
  | 0, cs, hl, _ => ⟨[], rfl, by simp, fun sh w => by simp only [EncL]; exact List.length_eq_zero_iff.1 (by simpa using hl)⟩
  | n + 1, cs, hl, h => by
    obtain ⟨x, hx, he⟩ := h 0 (by omega)
    obtain ⟨l, h1, h2, h3⟩ := encL_all s n (cs.drop s.size) (by rw [List.length_drop, hl, Nat.add_mul]; omega) (fun i hi => by
      obtain ⟨y, hy, he⟩ := h (i + 1) (by omega)
      refine ⟨y, hy, fun sh w => ?_⟩
      rw [List.drop_drop, show s.size + i * s.size = (i + 1) * s.size by rw [Nat.add_mul]; omega]
      exact he sh w)
    refine ⟨x :: l, by simp [h1], ?_, fun sh w => ?_⟩
    · intro y hy
      rcases List.mem_cons.1 hy with rfl | hy
      · exact hx
      · exact h2 y hy
    · simp only [EncL]
      refine ⟨cs.take s.size, cs.drop s.size, (List.take_append_drop _ _).symm, ?_, h3 sh w⟩
      simpa using he sh w

theorem flatMap_nil {α β : Type} : ∀ {l : List α} {f : α → List β}, (∀ x ∈ l, f x = []) → l.flatMap f = []
  | [], _, _ => rfl
  | a :: l, f, h => by rw [List.flatMap_cons, h a (by simp), flatMap_nil fun x hx => h x (by simp [hx])]; rfl

mutual
/-- Plain data, opened. -/
theorem trod_open (w : World) (b : Nat) (sp : Nat → Bool) (h : Bool) : ∀ (s : Ty) (t : TypeId), EqOk P t s → P.cellsOf t = s.size → ∀ (fuel : Nat) (cs : List Value) (d : DataW H) (ps : List MemPlace),
    DataW.trod enc P w b sp h fuel t cs = some (d, ps) → ps = [] ∧ cs.length = s.size ∧ ∃ x : s.den, s.wf x ∧ ∀ sh w2, Enc sh w2 s x cs
  | _, _, _, _, 0, _, _, _, hd => by simp [DataW.trod] at hd
  | .int k, t, ht, hc, n + 1, cs, d, ps, hd => by
    simp only [EqOk] at ht
    obtain ⟨m, rfl, hx, hw⟩ := DataW.trod_int ht hd
    cases hx
    exact ⟨rfl, rfl, m, hw, fun _ _ => rfl⟩
  | .bool, t, ht, hc, n + 1, cs, d, ps, hd => by
    simp only [EqOk] at ht
    obtain ⟨m, rfl, hx⟩ := DataW.trod_bool ht hd
    cases hx
    exact ⟨rfl, rfl, m, trivial, fun _ _ => rfl⟩
  | .str, t, ht, hc, n + 1, cs, d, ps, hd => by
    simp only [EqOk] at ht
    obtain ⟨m, rfl, hx, hw⟩ := DataW.trod_string ht hd
    cases hx
    exact ⟨rfl, rfl, m, hw, fun _ _ => rfl⟩
  | .arr m s, t, ht, hc, n + 1, cs, d, ps, hd => by
    simp only [EqOk] at ht
    obtain ⟨e, i, de, hu, hi, hs, hde, ha, he⟩ := ht
    have hce : P.cellsOf e = s.size := (cells_of hi).trans hs
    obtain ⟨xs, k, hk, hx, hl, hxl, hel⟩ := DataW.trod_array hu hd
    simp only [Nat.add_right_cancel_iff] at hk
    subst hk
    simp only [Prod.mk.injEq] at hx
    have hlen : cs.length = m * s.size := by rw [hl, hc]; rfl
    have hel' : ∀ j, j < m → ∃ x : s.den, s.wf x ∧ ∀ sh w2, Enc sh w2 s x ((cs.drop (j * s.size)).take s.size) := by
      intro j hj
      have h1 := hel j hj
      rw [hce, List.getElem?_eq_getElem (by omega)] at h1
      exact (trod_open w b sp h s e he hce n _ _ _ h1).2.2
    have hps : ∀ x ∈ xs, x.2 = [] := by
      intro x hx
      obtain ⟨j, hj, rfl⟩ := List.mem_iff_getElem.1 hx
      have h1 := hel j (by omega)
      rw [hce, List.getElem?_eq_getElem hj] at h1
      exact (trod_open w b sp h s e he hce n _ _ _ h1).1
    refine ⟨by rw [hx.2]; exact flatMap_nil hps, hlen, ?_⟩
    -- one list serves every world: its places are told by the cells alone
    obtain ⟨l, h1, h2, h3⟩ := encL_all s m cs hlen hel'
    exact ⟨l, ⟨h1, h2⟩, fun sh w2 => ⟨h1, h3 sh w2⟩⟩
  | .pair x y, t, ht, hc, n + 1, cs, d, ps, hd => by
    simp only [EqOk] at ht
    obtain ⟨fs, hu, _, hf⟩ := ht
    obtain ⟨xs, k, hk, hx, hl, hxl, hel⟩ := DataW.trod_struct hu hd
    simp only [Nat.add_right_cancel_iff] at hk
    subst hk
    simp only [Prod.mk.injEq] at hx
    obtain ⟨h1, z, h2, h3⟩ := trods_open w b sp h (.pair x y) fs.toList 0 hf n cs xs (by simpa using hxl) (by rw [hl, hc]; simp) (fun i f hi => hel i f (by simpa using hi))
    exact ⟨by rw [hx.2]; exact flatMap_nil h1, by rw [hl, hc], z, h2, by simpa using h3⟩
  | .unit, t, ht, hc, n + 1, cs, d, ps, hd => by
    simp only [EqOk] at ht
    obtain ⟨fs, hu, _, hf⟩ := ht
    obtain ⟨xs, k, hk, hx, hl, hxl, hel⟩ := DataW.trod_struct hu hd
    simp only [Nat.add_right_cancel_iff] at hk
    subst hk
    simp only [Prod.mk.injEq] at hx
    obtain ⟨h1, z, h2, h3⟩ := trods_open w b sp h .unit fs.toList 0 hf n cs xs (by simpa using hxl) (by rw [hl, hc]; simp) (fun i f hi => hel i f (by simpa using hi))
    exact ⟨by rw [hx.2]; exact flatMap_nil h1, by rw [hl, hc], z, h2, by simpa using h3⟩
  | .list _, t, ht, hc, n + 1, cs, d, ps, hd => by simp only [EqOk] at ht
theorem trods_open (w : World) (b : Nat) (sp : Nat → Bool) (h : Bool) : ∀ (s : Ty) (fs : List Field) (off : Nat), EqFs P fs off s → ∀ (fuel : Nat) (cs : List Value) (xs : List (DataW H × List MemPlace)), xs.length = fs.length → cs.length = off + s.size →
    (∀ (i : Nat) (f : Field), fs[i]? = some f → DataW.trod enc P w b sp h fuel f.type ((cs.drop f.offset).take (P.cellsOf f.type)) = xs[i]?) →
    (∀ x ∈ xs, x.2 = []) ∧ ∃ x : s.den, s.wf x ∧ ∀ sh w2, Enc sh w2 s x (cs.drop off)
  | .pair x y, g :: fs, off, hk, fuel, cs, z :: zs, hxl, hcl, hel => by
    simp only [EqFs] at hk
    obtain ⟨_, hoff, ⟨i, dd, hi, hs, hdd, ha⟩, hg, hfs⟩ := hk
    have hcg : P.cellsOf g.type = x.size := (cells_of hi).trans hs
    have h0 := hel 0 g rfl
    simp only [List.getElem?_cons_zero] at h0
    rw [hoff, hcg] at h0
    obtain ⟨p1, p2, u, p3, p4⟩ := trod_open w b sp h x g.type hg hcg fuel _ z.1 z.2 h0
    obtain ⟨q1, v, q2, q3⟩ := trods_open w b sp h y fs (off + x.size) hfs fuel cs zs (by simpa using hxl) (by rw [hcl]; simp [Ty.size]; omega) (fun i f hi => by simpa using hel (i + 1) f (by simpa using hi))
    refine ⟨?_, (u, v), ⟨p3, q2⟩, fun sh w2 => ?_⟩
    · intro a ha
      rcases List.mem_cons.1 ha with rfl | ha
      · exact p1
      · exact q1 a ha
    · refine ⟨(cs.drop off).take x.size, cs.drop (off + x.size), ?_, p4 sh w2, q3 sh w2⟩
      rw [← List.drop_drop, List.take_append_drop]
  | .unit, [], off, hk, fuel, cs, zs, hxl, hcl, hel => by
    refine ⟨?_, (), trivial, fun sh w2 => ?_⟩
    · have : zs = [] := List.length_eq_zero_iff.1 (by simpa using hxl)
      subst this; simp
    · simp only [Enc]
      exact List.drop_eq_nil_of_le (by rw [hcl]; simp [Ty.size])
  | .pair x y, g :: fs, off, hk, fuel, cs, [], hxl, hcl, hel => by simp at hxl
  | .pair x y, [], off, hk, fuel, cs, zs, hxl, hcl, hel | .int _, [], off, hk, fuel, cs, zs, hxl, hcl, hel | .bool, [], off, hk, fuel, cs, zs, hxl, hcl, hel
  | .str, [], off, hk, fuel, cs, zs, hxl, hcl, hel | .arr _ _, [], off, hk, fuel, cs, zs, hxl, hcl, hel | .list _, [], off, hk, fuel, cs, zs, hxl, hcl, hel => by simp [EqFs] at hk
  | .int _, g :: fs, off, hk, fuel, cs, zs, hxl, hcl, hel | .bool, g :: fs, off, hk, fuel, cs, zs, hxl, hcl, hel | .str, g :: fs, off, hk, fuel, cs, zs, hxl, hcl, hel | .unit, g :: fs, off, hk, fuel, cs, zs, hxl, hcl, hel
  | .arr _ _, g :: fs, off, hk, fuel, cs, zs, hxl, hcl, hel | .list _, g :: fs, off, hk, fuel, cs, zs, hxl, hcl, hel => by simp [EqFs] at hk
end

theorem eqOk_of {T : TypeId → TRow} (hT : TOk P T) {t : TypeId} {s : Ty} (h1 : (T t).ok = true) (h2 : (T t).eq = true) (h3 : (T t).ty = some s) : EqOk P t s ∧ P.cellsOf t = s.size := by
  obtain ⟨i, d, hi, _, hs, _, _, _, _, hty, _, heq⟩ := (hT t h1).row
  obtain ⟨_, s', h4, h5⟩ := heq h2
  rw [h3] at h4; cases h4
  exact ⟨h5, (cells_of hi).trans (hs.trans (hty s h3).1.symm)⟩

/-- A struct or an array of plain data as an argument: what it is, and that it reads as it did in whatever world. -/
theorem arg_open {w : World} {b b0 : Nat} {sp : Nat → Bool} {h : Bool} {r : Reach} {s : Ty} {t : TypeId} (ht : EqOk P t s) (hc : P.cellsOf t = s.size) (ha : s.agg = true)
    {v : Value} {d : DataW H} {ps : List MemPlace} (hv : Value.okWide P w r b0 t v) (hd : DataW.Trod enc P w b sp h t v d ps) :
    ps = [] ∧ (∃ x : s.den, s.wf x ∧ ∀ μ mem sh w2, RV μ mem sh w2 (.val s x) v) ∧ ∀ w2 b2 sp2 h2, DataW.Trod enc P w2 b2 sp2 h2 t v d [] := by
  obtain ⟨fuel, hf⟩ := hd
  obtain ⟨rfl, hl, x, hx, he⟩ := trod_open w b sp h s t ht hc fuel _ d ps hf
  refine ⟨rfl, ⟨x, hx, fun μ mem sh w2 => ?_⟩, fun w2 b2 sp2 h2 => ⟨fuel, by rw [← hf]; exact trod_indep w2 w b2 b sp2 sp h2 h s t ht fuel _⟩⟩
  have hagg : ∃ cs, v = .agg cs := by
    unfold Value.okWide at hv
    cases s with
    | pair x y => simp only [EqOk] at ht; obtain ⟨fs, hu, _⟩ := ht; rw [hu] at hv; obtain ⟨cs, rfl, _⟩ := hv; exact ⟨cs, rfl⟩
    | unit => simp only [EqOk] at ht; obtain ⟨fs, hu, _⟩ := ht; rw [hu] at hv; obtain ⟨cs, rfl, _⟩ := hv; exact ⟨cs, rfl⟩
    | arr n y => simp only [EqOk] at ht; obtain ⟨e, i, dd, hu, _⟩ := ht; rw [hu] at hv; obtain ⟨cs, rfl, _⟩ := hv; exact ⟨cs, rfl⟩
    | _ => simp [Ty.agg] at ha
  obtain ⟨cs, rfl⟩ := hagg
  refine ⟨cs.toList, he sh w2, ?_⟩
  simp only [AV.agg, ha, if_true]

theorem wf_int (k : IntKind) (n : Int) (h : (Lit.int k n).wf = true) : (Ty.int k).wf n := h

/-- A call with plain arguments, of a function that is told and answers 'true': the world keeps what it had. -/
theorem call_true {f : FuncId} {S : Summ} (hg : Good P f S) {args : List AV} (hrun : S.run (R := AV) args [] (fun v _ => some v) = some (.val .bool true)) (W : World) {vs : List Value} (hv : RVs [] [] (fun _ => False) W args vs) :
    Calls P f vs.toArray W fun e W' => e = .returned (.bool true) ∧ W.keptBut W' (fun _ => False) := by
  have hM : MemR [] [] (fun _ => False) W := ⟨rfl, fun id b h => by simp at h, fun i j g n m b c h => by simp at h, fun g h => h.elim, fun i g n h => by simp at h⟩
  refine (hg.ok.run args [] _ _ hrun [] (fun _ => False) W vs hM hv).mono ?_
  rintro e W' ⟨v, rfl, a, mem', μ', sh', ha, hv', _, hmv⟩
  simp only [Option.some.injEq] at ha
  subst ha
  obtain ⟨cs, hc, hcv⟩ := hv'
  simp only [RC, Enc] at hc
  simp only [AV.agg, Ty.agg, Bool.false_eq_true, if_false] at hcv
  rw [hc] at hcv
  simp only [List.cons.injEq, and_true] at hcv
  subst hcv
  refine ⟨rfl, hmv.os.1, hmv.os.2, fun i hi => ?_⟩
  rw [hmv.old i hi (by simp)]
  split <;> simp_all

/-- The row's word behind such a call. -/
theorem post_true {fn : Func} {s : ChangeSpec} {W W' : World} {args : Array Value} {v : Value} {ds : List (DataW H)} (hvs : s.vars = [])
    (hW : DataW.Whole enc P fn.params.toList s.vars false W args.toList ds [] [])
    (hres : DataW.TrodAll enc P W' W.heap.size (fun _ => false) false fn.resultTypes.toList (v.resultList fn.resultTypes.size) (s.fn H (ds ++ [])).results [])
    (hargs : DataW.TrodAll enc P W' 0 (fun b => decide (b < W.heap.size)) true fn.params.toList args.toList (s.fn H (ds ++ [])).args [])
    (hk : W.keptBut W' (fun _ => False)) (hgv : (s.fn H (ds ++ [])).vars = []) : s.post enc P fn false true false false W args v W' := by
  refine ⟨ds, [], [], [], [], [], hW, hres, hargs, ?_, World.keptBut_mono (fun p hp => hp.elim) hk, fun h => by cases h⟩
  rw [hvs, hgv]
  rfl

end
end Am

/- THE ABSTRACT MACHINE: a function that is told by a contract of the library's: the sort. -/
set_option linter.all false
namespace Am
open Go

/-- A function of the program, told by what its calls do. -/
structure Ran (P : Program) (f : FuncId) (p : Nat) (inn out : StSh) (F : inn.den → {S : Type} → (out.den → Option S) → Option S) : Prop where
  fnd : ∃ fn, P.funcs[f]? = some fn ∧ fn.name ≠ "runtime.NumGoroutine" ∧ fn.body.isNone = false
  run : ∀ {R : Type} (x : inn.den) (k : out.den → Option R) (r : R) (μ : Mu) (sh : Nat → Prop) (w : World) (vs : List Value), F x k = some r → MemR μ (inn.enc x).mem sh w → RVs μ (inn.enc x).mem sh w (inn.enc x).fr vs →
    Calls P f vs.toArray w (FPost p μ (inn.enc x).mem sh w (fun v m => (out.dec p ⟨[v], m⟩).bind fun y => k y.1) r)
  nat : ∀ {S : Type} (x : inn.den) (k : out.den → Option S), F x k = (F x some).bind k

section
variable {P : Program} {f : FuncId} {p : Nat} {inn out : StSh} {F : inn.den → {S : Type} → (out.den → Option S) → Option S}
theorem Ran.call (h : Ran P f p inn out F) {args : List AV} {mem : Mem} {x : inn.den} {E : Env} (hR : Read inn 0 ⟨args, mem⟩ x E) {R : Type} {k : AV → Mem → Option R} {r : R}
    (hp : p ≤ inn.mem.length) (hfl : E.l = [] ∨ out.flat = true)
    (hk : (F x fun z => match (out.enc z).fr with
      | [v] => k (v.ren ((E.cut p).rho mem.length)) (wbs ((E.cut p).rho mem.length) (E.cut p).b (out.enc z).mem (kills (E.b.drop p) mem) ++ news ((E.cut p).rho mem.length) (E.cut p).b (out.enc z).mem)
      | _ => none) = some r) {μ : Mu} {sh : Nat → Prop} {w : World} {vs : List Value} (hM : MemR μ mem sh w) (hV : RVs μ mem sh w args vs) :
    Calls P f vs.toArray w fun e w' => ∃ v, e = .returned v ∧ Got k r μ mem sh w v w' := by
  obtain ⟨hM0, hW0⟩ := hR.mem hM
  have hV0 := Rens.rvs hM hR.len hR.blk hR.fr hV
  have hp0 : p ≤ (inn.enc x).mem.length := by rw [hR.mlen]; exact hp
  refine Calls.mono (h.run x _ r _ _ _ _ hk hM0 hV0) ?_
  rintro e w' ⟨v, av, mem', μ', sh', he, hkk, hv, hM', hW⟩
  refine ⟨v, he, ?_⟩
  simp only [] at hkk
  cases hd : out.dec p ⟨[av], mem'⟩ with
  | none => rw [hd] at hkk; cases hkk
  | some y =>
    rw [hd] at hkk
    obtain ⟨z, E2⟩ := y
    simp only [Option.bind_some] at hkk
    have hR2 := StSh.dec_ok hd
    obtain ⟨hM2, hW2⟩ := hR2.mem (st := ⟨[av], mem'⟩) hM'
    split at hkk
    · rename_i v2 hv2
      have hfr := hR2.fr
      rw [hv2] at hfr
      obtain ⟨a0, ha0, hren⟩ := hfr.get (i := 0) rfl
      simp at ha0
      subst ha0
      have hv2r := hren.rv (bs := (out.enc z).mem) hM' hR2.len hR2.blk hv
      have hWW := hW.trans hW2
      have hfl' : E.l = [] ∨ (v2.flat = true ∧ ∀ b ∈ (out.enc z).mem, b.flat = true) := by
        rcases hfl with h | h
        · exact .inl h
        · obtain ⟨h1, h2⟩ := StSh.flat_enc z h
          rw [hv2] at h1
          simp only [AV.flats, Bool.and_true] at h1
          exact .inr ⟨h1, h2⟩
      obtain ⟨μN, shN, q1, q2, q3⟩ := back_ok hM hR.len hR.fine hR.lent hR.blk hR.has hM2 hp0 hWW hR2.ple hv2r hfl'
      exact ⟨_, _, μN, shN, hkk, q2, q1, q3⟩
    · cases hkk

theorem Ran.wild (h : Ran P f p inn out F) : Good P f ⟨.wild, Summ.callK p inn out F⟩ := by
  refine ⟨⟨h.fnd, ?_⟩, ⟨?_, fun hc => (by cases hc), fun hc => (by cases hc)⟩⟩
  · intro R args mem k r hk μ sh w vs hM hV
    simp only [Summ.callK] at hk
    cases hd : inn.dec 0 ⟨args, mem⟩ with
    | none => rw [hd] at hk; cases hk
    | some y =>
      rw [hd] at hk
      obtain ⟨x, E⟩ := y
      simp only [Option.bind_some] at hk
      cases hc : (Nat.ble p inn.mem.length && (E.l.isEmpty || out.flat)) with
      | false => rw [hc] at hk; cases hk
      | true =>
        rw [hc] at hk
        simp only [Bool.and_eq_true, Bool.or_eq_true, List.isEmpty_iff] at hc
        exact h.call (StSh.dec_ok hd) (Nat.le_of_ble_eq_true hc.1) hc.2 hk hM hV
  · intro R args mem k
    simp only [Summ.callK]
    rw [bind_assoc']
    congr 1
    funext y
    cases (Nat.ble p inn.mem.length && (y.2.l.isEmpty || out.flat)) with
    | false => rfl
    | true =>
      simp only [cond_true]
      rw [h.nat, h.nat (S := AV × Mem), bind_assoc']
      congr 1
      funext z
      split <;> rfl


end

/-! ### slices.Sort -/
abbrev sortIn : StSh := ⟨[.slice 0], [.list (.int .i64)]⟩
abbrev sortOut : StSh := ⟨[.tup []], [.list (.int .i64)]⟩
def ins (x : Int) : List Int → List Int
  | [] => [x]
  | y :: l => bif decide (x ≤ y) then x :: y :: l else y :: ins x l
def sortL : List Int → List Int
  | [] => []
  | x :: l => ins x (sortL l)
theorem ins_perm (x : Int) : ∀ l : List Int, (ins x l).Perm (x :: l)
  | [] => .refl _
  | y :: l => by
    unfold ins
    cases decide (x ≤ y) with
    | true => exact .refl _
    | false => exact ((ins_perm x l).cons y).trans (.swap x y l)
theorem sort_perm : ∀ l : List Int, (sortL l).Perm l
  | [] => .refl _
  | x :: l => (ins_perm x _).trans ((sort_perm l).cons x)
theorem ins_sorted (x : Int) : ∀ l : List Int, l.Pairwise (· ≤ ·) → (ins x l).Pairwise (· ≤ ·)
  | [], _ => by simp [ins]
  | y :: l, h => by
    have h1 := List.pairwise_cons.1 h
    unfold ins
    cases hq : decide (x ≤ y) with
    | true =>
      have hxy : x ≤ y := of_decide_eq_true hq
      refine List.pairwise_cons.2 ⟨fun z hz => ?_, h⟩
      rcases List.mem_cons.1 hz with rfl | hz
      · exact hxy
      · have := h1.1 z hz; omega
    | false =>
      have hxy : ¬ x ≤ y := of_decide_eq_false hq
      refine List.pairwise_cons.2 ⟨fun z hz => ?_, ins_sorted x l h1.2⟩
      have hz' := (ins_perm x l).mem_iff.1 hz
      rcases List.mem_cons.1 hz' with rfl | hz'
      · omega
      · exact h1.1 z hz'
theorem sort_sorted : ∀ l : List Int, (sortL l).Pairwise (· ≤ ·)
  | [] => by simp [sortL]
  | x :: l => ins_sorted x _ (sort_sorted l)
theorem merge_eq (l : List Int) : (l.mergeSort fun x y => decide (x ≤ y)) = sortL l := by
  refine List.Perm.eq_of_pairwise (le := (· ≤ ·)) (fun a b _ _ h1 h2 => by omega) ?_ (sort_sorted l) ((List.mergeSort_perm l _).trans (sort_perm l).symm)
  have := List.pairwise_mergeSort (le := fun (x y : Int) => decide (x ≤ y)) (fun a b c h1 h2 => by simp at *; omega) (fun a b => by simp; omega) l
  exact this.imp (fun h => by simpa using h)
def sortK (l : List Int) {S : Type} (k : List Int → Option S) : Option S := cond (decide (l.length < 4611686018427387904)) (k (sortL l)) none

theorem sort_dec {R : Type} (l : List Int) (k : sortOut.den → Option R) : ((sortOut.dec 1 ⟨[.tup []], [.list (.int .i64) l]⟩).bind fun y => k y.1) = k (l, ()) := by kernel_rfl
theorem sort_dec1 {R : Type} (l : List Int) (k : sortOut.den → Option R) : ((sortOut.dec 1 ⟨[.tup []], [.list (.int .i64) l, .dead]⟩).bind fun y => k y.1) = k (l, ()) := by kernel_rfl

theorem encL_i64 {sh : Nat → Prop} {w : World} : ∀ (l : List Int) (cs : List Value), EncL (Enc sh w (.int .i64)) l cs → cs = l.map (Value.int .i64)
  | [], cs, h => h
  | x :: l, cs, ⟨c, d, e, hc, hd⟩ => by
    have h1 : c = [Value.int .i64 x] := hc
    rw [e, h1, encL_i64 l d hd]; rfl
theorem encL_mk {sh : Nat → Prop} {w : World} : ∀ (l : List Int), EncL (Enc sh w (.int .i64)) l (l.map (Value.int .i64))
  | [] => rfl
  | x :: l => ⟨[Value.int .i64 x], l.map (Value.int .i64), rfl, rfl, encL_mk l⟩

theorem putCells_take (d : List Int) (c : Array Value) (h : d.length ≤ c.size) : (Go.Sort.putCells (Value.int .i64) 0 d.toArray c).toList.take (d.map (Value.int .i64)).length = d.map (Value.int .i64) := by
  apply List.ext_getElem
  · simp [Go.Sort.putCells]; omega
  · intro i h1 h2
    simp at h2
    simp [Go.Sort.putCells, h2]

theorem ran_sort {P : Program} {f : FuncId} (hfn : ∃ fn, P.funcs[f]? = some fn ∧ fn.name ≠ "runtime.NumGoroutine" ∧ fn.body.isNone = false)
    (hS : ∀ (blk off cap : Nat) (zs : List Int) (w : World), Go.Sort.Holds (Value.int .i64) w blk off zs.toArray → blk < w.heap.size → zs.length < 4611686018427387904 →
      Calls P f #[.slice (some ⟨blk, off, none⟩) zs.length cap] w fun e w' => e = .returned (.tuple #[]) ∧ ∃ n os, w' = Go.Sort.grow (Go.Sort.putRow (Value.int .i64) (Go.Sort.ahead w n) blk off (zs.mergeSort fun x y => decide (x ≤ y)).toArray) os)
    (h0 : ∀ (p : Option Addr) (cap : Nat) (w : World), Calls P f #[.slice p 0 cap] w fun e w' => e = .returned (.tuple #[]) ∧ w' = w) :
    Ran P f 1 sortIn sortOut (fun (x : List Int × Unit) _ k => sortK x.1 (fun z => k (z, ()))) := by
  refine ⟨hfn, ?_, ?_⟩
  · rintro R ⟨l, ⟨⟩⟩ k r μ sh w vs h hM0 hV0
    have hM : MemR μ [Blk.list (.int .i64) l] sh w := hM0
    have hV : RVs μ [Blk.list (.int .i64) l] sh w [.slice 0] vs := hV0
    obtain ⟨v, rest, rfl, hv, hr⟩ := RVs_inv hV
    obtain rfl : rest = [] := hr
    obtain ⟨v', hv', hSl⟩ := hv.atom rfl
    simp only [List.cons.injEq, and_true] at hv'
    subst hv'
    have h' := cond_some h
    clear h
    obtain ⟨hlen, hk⟩ := h'
    simp only [decide_eq_true_eq] at hlen
    rcases hSl with ⟨k1, k2⟩ | ⟨g, n, cap, k1, k2, k3, k4⟩
    · subst k2
      have hl : l = [] := by
        rcases hM.blk 0 _ rfl with ⟨_, m2⟩ | ⟨g', n', c', e', cs, m1, _⟩
        · exact m2
        · rw [m1] at k1; cases k1
      subst hl
      refine (h0 none 0 w).mono ?_
      rintro e w' ⟨rfl, rfl⟩
      refine ⟨_, .tup [], [.list (.int .i64) []], μ, sh, rfl, ?_, RV.mk_atom ⟨[], rfl, rfl⟩ rfl, hM, Wv.refl _ _ _ _ _⟩
      have hk' : k (sortL [], ()) = some r := hk
      exact (sort_dec _ k).trans hk'
    · subst k2
      rcases hM.blk 0 _ rfl with ⟨m1, _⟩ | ⟨g', n', c, e, cs, m1, m2, m3, m4, m5, m6⟩
      · rw [m1] at k1; cases k1
      obtain ⟨rfl, rfl⟩ : g = g' ∧ n = n' := by rw [m1] at k1; simp at k1; exact ⟨k1.1.symm, k1.2.symm⟩
      have hcs := encL_i64 l cs m4
      have hcl : l.length ≤ c.size := by
        have := congrArg List.length m5
        rw [hcs] at this
        simp at this
        omega
      have hget : ∀ j (hj : j < l.length), c[j]? = some (Value.int .i64 l[j]) := by
        intro j hj
        have h1 : (c.toList.take cs.length)[j]? = cs[j]? := by rw [m5]
        rw [hcs, List.getElem?_take_of_lt (by simpa using hj)] at h1
        simpa [hj] using h1
      have hH : Go.Sort.Holds (Value.int .i64) w g 0 l.toArray := by
        intro j hj
        simp at hj
        have hjc : j < c.size := by omega
        have h1 := hget j hj
        rw [Array.getElem?_eq_getElem hjc] at h1
        have h2 : c[j] = Value.int .i64 l[j] := by simpa using h1
        refine ⟨?_, ?_⟩
        · simp [World.cell?, m2, hjc, h2, hj]
        · simp [World.frozen?, m2]
      refine (hS g 0 cap l w hH (hM.mul 0 g n m1) hlen).mono ?_
      rintro e2 w' ⟨rfl, N, os, rfl⟩
      rw [merge_eq]
      have hsl : (sortL l).length = l.length := (sort_perm l).length_eq
      have hheap : (Go.Sort.putRow (Value.int .i64) (Go.Sort.ahead w N) g 0 (sortL l).toArray).heap[g]? = some (.cells (Go.Sort.putCells (Value.int .i64) 0 (sortL l).toArray c) e (0, 0)) := by
        simp [Go.Sort.putRow, Go.Sort.mapBlock, Go.Sort.ahead, Array.getElem?_modify, m2, Go.Sort.onCells]
      have hother : ∀ g', g' ≠ g → (Go.Sort.putRow (Value.int .i64) (Go.Sort.ahead w N) g 0 (sortL l).toArray).heap[g']? = w.heap[g']? := by
        intro g' hg'
        simp [Go.Sort.putRow, Go.Sort.mapBlock, Go.Sort.ahead, Array.getElem?_modify, Ne.symm hg']
      have hW := hM.write (id := 0) (w' := Go.Sort.putRow (Value.int .i64) (Go.Sort.ahead w N) g 0 (sortL l).toArray) (b' := .list (.int .i64) (sortL l)) rfl (by simp) m1 m6 (by simp [BLay, hsl]) (by simp [Go.Sort.ahead]) hother
        (fun he hk => .inr ⟨g, n, _, e, (sortL l).map (Value.int .i64), m1, hheap, by simp [Go.Sort.putCells, m3], encL_mk _, putCells_take _ _ (by omega), m6⟩)
      have hP := hW.1.push (w' := Go.Sort.grow (Go.Sort.putRow (Value.int .i64) (Go.Sort.ahead w N) g 0 (sortL l).toArray) os) none .dead (by simp [Go.Sort.grow]) (fun g' hg' _ => by
          simp only [Go.Sort.grow]
          rw [Array.getElem?_append_left hg']) (fun g' n' hh => by cases hh) (fun _ _ => trivial)
      refine ⟨_, .tup [], [.list (.int .i64) (sortL l), .dead], _, sh, rfl, ?_, RV.mk_atom ⟨[], rfl, rfl⟩ rfl, hP.1, (hW.2.trans hP.2).wv⟩
      exact (sort_dec1 _ k).trans hk
  · rintro S ⟨l, ⟨⟩⟩ k
    show sortK l _ = (sortK l _).bind _
    unfold sortK
    cases decide (l.length < 4611686018427387904) <;> rfl

end Am

/- THE ABSTRACT MACHINE: a whole number as an argument. -/
namespace Am
open Go
section
variable {H : Type} {enc : TypeId × Value → H} {P : Program}
/-- A whole number as an argument: what it is, and that it reads as it did in whatever world. -/
theorem arg_int {w : World} {b b0 : Nat} {sp : Nat → Bool} {h : Bool} {r : Reach} {kd : IntKind} {t : TypeId} (ht : P.underlying t = some (.int kd)) (hc : P.cellsOf t = (Ty.int kd).size)
    {v : Value} {d : DataW H} {ps : List MemPlace} (hv : Value.okWide P w r b0 t v) (hd : DataW.Trod enc P w b sp h t v d ps) :
    ps = [] ∧ (∃ x : Int, (Ty.int kd).wf x ∧ ∀ μ mem sh w2, RV μ mem sh w2 (.val (.int kd) x) v) ∧ ∀ w2 b2 sp2 h2, DataW.Trod enc P w2 b2 sp2 h2 t v d [] := by
  have ht' : EqOk P t (.int kd) := by simp only [EqOk]; exact ht
  obtain ⟨fuel, hf⟩ := hd
  obtain ⟨rfl, hl, x, hx, he⟩ := trod_open w b sp h (.int kd) t ht' hc fuel _ d ps hf
  refine ⟨rfl, ⟨x, hx, fun μ mem sh w2 => ?_⟩, fun w2 b2 sp2 h2 => ⟨fuel, by rw [← hf]; exact trod_indep w2 w b2 b sp2 sp h2 h (.int kd) t ht' fuel _⟩⟩
  have he' := he sh w2
  refine ⟨v.cells.toList, he', ?_⟩
  have hv2 : ∃ n, v = .int kd n := by
    cases v with
    | int k n =>
      have hc2 : (Value.int k n).cells.toList = [.int kd x] := by simpa only [Enc] using he'
      simp [Value.cells] at hc2
      exact ⟨n, by rw [hc2.1]⟩
    | agg cs =>
      exfalso
      unfold Value.okWide at hv
      rw [ht] at hv
      simp only [Cell.okWide, ht] at hv
      simp [Cell.ok, ht] at hv
    | _ => simp [Enc, Value.cells] at he'
  obtain ⟨n, rfl⟩ := hv2
  simp [AV.agg, Ty.agg, Value.cells]
end
end Am

/- THE ABSTRACT MACHINE: a pure function that is told by a contract of the library's: letters made small. -/
set_option linter.all false
namespace Am
open Go
section
variable {P : Program} {f : FuncId} {inn out : StSh} {F : inn.den → {S : Type} → (out.den → Option S) → Option S}
theorem Ran.pure (h : Ran P f 0 inn out F) : Good P f ⟨.pure, Summ.pureK inn out F⟩ := by
  refine ⟨⟨h.fnd, ?_⟩, ⟨?_, ?_, fun hc => (by cases hc)⟩⟩
  · intro R args mem k r hk μ sh w vs hM hV
    simp only [Summ.pureK] at hk
    cases hc : (inn.mem.isEmpty && out.mem.isEmpty && Sh.closeds out.fr) with
    | false => rw [hc] at hk; cases hk
    | true =>
      rw [hc] at hk
      simp only [Bool.and_eq_true, List.isEmpty_iff] at hc
      obtain ⟨⟨hc1, hc2⟩, hc3⟩ := hc
      simp only [cond_true] at hk
      cases hd : inn.dec 0 ⟨args, []⟩ with
      | none => rw [hd] at hk; cases hk
      | some y =>
        rw [hd] at hk
        obtain ⟨x, E⟩ := y
        simp only [Option.bind_some] at hk
        have hR := StSh.dec_ok hd
        have h0 : (inn.enc x).mem = [] := List.length_eq_zero_iff.1 (by rw [hR.mlen, hc1]; rfl)
        have hEb : E.b = [] := List.length_eq_zero_iff.1 (by rw [hR.len, h0]; rfl)
        have hEl : E.l = [] := by
          cases hl : E.l with
          | nil => rfl
          | cons j l =>
            obtain ⟨t, l', hm⟩ := hR.lent j (by rw [hl]; exact List.mem_cons_self ..)
            simp at hm
        have hR' : Read inn 0 ⟨args, mem⟩ x E := by
          refine ⟨hR.len, hR.mlen, hR.fine, fun j hj => ?_, fun i b hb => ?_, hR.fr.mono (fun i hi => ?_), hR.pin, hR.ple, fun i j hi => ?_⟩
          · rw [hEl] at hj; cases hj
          · rw [h0] at hb; simp at hb
          · rw [hEl] at hi; cases hi
          · rw [hEb] at hi; simp at hi
        have hcut : E.cut 0 = E := by
          cases E
          simp only at hEb
          simp [Env.cut, hEb]
        have hdrop : kills (E.b.drop 0) mem = mem := by rw [hEb]; rfl
        refine h.call hR' (Nat.zero_le _) (.inl hEl) ?_ hM hV
        rw [hcut, hdrop]
        rw [← hk]
        congr 1
        funext z
        have hm2 : (out.enc z).mem = [] := by
          simp only [StSh.enc]
          have : ∀ (l : List BSh) (X : Type) (x : BSh.dens l X), l = [] → (BSh.encs l X x).1 = [] := by
            intro l X x h; subst h; rfl
          exact this _ _ _ hc2
        have hcl := Sh.closeds_ren (E.rho mem.length) out.fr _ z hc3
        have hfe : (out.enc z).fr = (Sh.encs out.fr (BSh.dens out.mem Unit) z).1 := rfl
        rw [← hfe] at hcl
        cases hv : (out.enc z).fr with
        | nil => rfl
        | cons v l =>
          cases l with
          | nil =>
            rw [hv] at hcl
            simp only [AV.rens, List.cons.injEq, and_true] at hcl
            simp only [hcl, hm2, hEb, wbs, news, List.append_nil]
          | cons _ _ => rfl
  · intro R args mem k
    simp only [Summ.pureK]
    cases (inn.mem.isEmpty && out.mem.isEmpty && Sh.closeds out.fr) with
    | false => rfl
    | true =>
      simp only [cond_true]
      rw [bind_assoc']
      congr 1
      funext y
      rw [h.nat, h.nat (S := AV × Mem), bind_assoc']
      congr 1
      funext z
      split <;> rfl
  · intro _ args mem v m hk
    simp only [Summ.pureK] at hk ⊢
    cases hc : (inn.mem.isEmpty && out.mem.isEmpty && Sh.closeds out.fr) with
    | false => rw [hc] at hk; cases hk
    | true =>
      rw [hc] at hk
      simp only [cond_true] at hk ⊢
      cases hd : inn.dec 0 ⟨args, []⟩ with
      | none => rw [hd] at hk; cases hk
      | some y =>
        rw [hd] at hk
        simp only [Option.bind_some] at hk ⊢
        rw [h.nat] at hk
        cases hz : (F y.1 some) with
        | none => rw [hz] at hk; cases hk
        | some z =>
          rw [hz] at hk
          simp only [Option.bind_some] at hk
          split at hk
          · rename_i v' hv
            cases hk
            refine ⟨rfl, fun mem' => ?_⟩
            rw [h.nat, hz]
            simp only [Option.bind_some, hv]
          · cases hk

end

/-! ### strings.ToLower -/
abbrev lowSh : StSh := ⟨[.hole .str], []⟩
def lowL (s : ByteArray) : ByteArray := ⟨(Lib.toLowerA s.data.toList).toArray⟩
def lowOk (s : ByteArray) : Bool := decide (s.size ≤ 140737488355328) && s.data.toList.all fun b => decide (b.toNat < 128)
def lowK (s : ByteArray) {S : Type} (k : ByteArray → Option S) : Option S := cond (lowOk s) (k (lowL s)) none

theorem low_dec {R : Type} (s : ByteArray) (k : lowSh.den → Option R) : ((lowSh.dec 0 ⟨[.val .str s], [.dead]⟩).bind fun y => k y.1) = k (s, ()) := by kernel_rfl

theorem ran_lower {P : Program} {f : FuncId} (hfn : ∃ fn, P.funcs[f]? = some fn ∧ fn.name ≠ "runtime.NumGoroutine" ∧ fn.body.isNone = false)
    (hS : ∀ (s : ByteArray) (w : World), s.size ≤ 140737488355328 → (∀ (j : Nat) (b : UInt8), s.data.toList[j]? = some b → b.toNat < 128) →
      Calls P f #[.string s] w fun e w' => e = .returned (.string ⟨(Lib.toLowerA s.data.toList).toArray⟩) ∧ Go.RowKit.Below w.heap.size w w') :
    Ran P f 0 lowSh lowSh (fun (x : ByteArray × Unit) _ k => lowK x.1 (fun z => k (z, ()))) := by
  refine ⟨hfn, ?_, ?_⟩
  · rintro R ⟨s, ⟨⟩⟩ k r μ sh w vs h hM0 hV0
    have hM : MemR μ [] sh w := hM0
    have hV : RVs μ [] sh w [.val .str s] vs := hV0
    obtain ⟨v, rest, rfl, hv, hr⟩ := RVs_inv hV
    obtain rfl : rest = [] := hr
    obtain ⟨cs, hc, hcv⟩ := hv
    simp only [RC, Enc] at hc
    simp only [AV.agg, Ty.agg, Bool.false_eq_true, if_false] at hcv
    rw [hc] at hcv
    simp only [List.cons.injEq, and_true] at hcv
    subst hcv
    have h' := cond_some h
    clear h
    obtain ⟨hok, hk⟩ := h'
    unfold lowOk at hok
    simp only [Bool.and_eq_true, decide_eq_true_eq, List.all_eq_true] at hok
    refine (hS s w hok.1 (fun j b hb => hok.2 b (List.mem_of_getElem? hb))).mono ?_
    rintro e w' ⟨rfl, hB⟩
    have hP := hM.push (w' := w') none .dead hB.size (fun g hg _ => hB.block g hg) (fun g n hh => by cases hh) (fun _ _ => trivial) ⟨hB.os, hB.output⟩
    refine ⟨_, .val .str (lowL s), [.dead], _, sh, rfl, ?_, ?_, hP.1, hP.2.wv⟩
    · exact (low_dec _ k).trans hk
    · refine ⟨[.string (lowL s)], rfl, ?_⟩
      simp [AV.agg, Ty.agg, lowL]
  · rintro S ⟨s, ⟨⟩⟩ k
    show lowK s _ = (lowK s _).bind _
    unfold lowK
    cases lowOk s <;> rfl

end Am

/- THE ABSTRACT MACHINE: a text as an argument. -/
namespace Am
open Go
section
variable {H : Type} {enc : TypeId × Value → H} {P : Program}
/-- A text as an argument: what it is, and that it reads as it did in whatever world. -/
theorem arg_str {w : World} {b b0 : Nat} {sp : Nat → Bool} {h : Bool} {r : Reach} {t : TypeId} (ht : P.underlying t = some .string) (hc : P.cellsOf t = Ty.str.size)
    {v : Value} {d : DataW H} {ps : List MemPlace} (hv : Value.okWide P w r b0 t v) (hd : DataW.Trod enc P w b sp h t v d ps) :
    ps = [] ∧ (∃ x : ByteArray, Ty.str.wf x ∧ ∀ μ mem sh w2, RV μ mem sh w2 (.val .str x) v) ∧ ∀ w2 b2 sp2 h2, DataW.Trod enc P w2 b2 sp2 h2 t v d [] := by
  have ht' : EqOk P t .str := by simp only [EqOk]; exact ht
  obtain ⟨fuel, hf⟩ := hd
  obtain ⟨rfl, hl, x, hx, he⟩ := trod_open w b sp h .str t ht' hc fuel _ d ps hf
  refine ⟨rfl, ⟨x, hx, fun μ mem sh w2 => ?_⟩, fun w2 b2 sp2 h2 => ⟨fuel, by rw [← hf]; exact trod_indep w2 w b2 b sp2 sp h2 h .str t ht' fuel _⟩⟩
  have he' := he sh w2
  refine ⟨v.cells.toList, he', ?_⟩
  have hv2 : ∃ n, v = .string n := by
    cases v with
    | string n => exact ⟨n, rfl⟩
    | agg cs =>
      exfalso
      unfold Value.okWide at hv
      rw [ht] at hv
      simp only [Cell.okWide, ht] at hv
      simp [Cell.ok, ht] at hv
    | _ => simp [Enc, Value.cells] at he'
  obtain ⟨n, rfl⟩ := hv2
  simp [AV.agg, Ty.agg, Value.cells]
end
end Am

