/- A library of this claim: the abstract machine: each of its operations is what the model does. -/
import Derived.Test.YteeiccpbiniljaaGreatDoorAm1
import Derived.Laws.NewFold
import Derived.DataReads
import Derived.Laws.StructEq
import Derived.ChangeKeysEq
import Derived.Laws.Pointers
import Derived.Laws.RangeString
import Derived.Laws.Append
import Derived.Laws.AppendOwn
set_option linter.all false
/- THE ABSTRACT MACHINE: addresses, parts, new blocks. -/
namespace Am
open Go

section
variable {P : Program} {μ μ' : Mu} {mem mem' : Mem} {sh sh' : Nat → Prop} {w w' : World} {R : Type} {T : TypeId → TRow}

theorem Ty.path_append : ∀ (t : Ty) (p q : List Step) (x : t.den) (u : AV), t.get p x = some u → t.okp p = true → u.okp q = true → t.okp (p ++ q) = true ∧ t.off (p ++ q) = t.off p + u.off q
  | t, [], q, x, u, h, _, hq => by
    rw [Ty.get_nil] at h
    cases h
    have h0 : t.off [] = 0 := by cases t <;> rfl
    rw [h0, List.nil_append, Nat.zero_add]
    refine ⟨?_, ?_⟩
    · cases q with
      | nil => cases t <;> rfl
      | cons => simpa [AV.okp] using hq
    · cases q <;> simp [AV.off]
  | .pair a b, .fld 0 :: p, q, x, u, h, ho, hq => by
    simp only [Ty.get] at h
    simp only [Ty.okp] at ho
    have ih := Ty.path_append a p q _ u h ho hq
    simpa [Ty.okp, Ty.off] using ih
  | .pair a b, .fld (i + 1) :: p, q, x, u, h, ho, hq => by
    simp only [Ty.get] at h
    simp only [Ty.okp] at ho
    have ih := Ty.path_append b (.fld i :: p) q _ u h ho hq
    refine ⟨by simpa [Ty.okp] using ih.1, ?_⟩
    have := ih.2
    simp only [List.cons_append] at this
    simp only [List.cons_append, Ty.off, this]
    omega
  | .arr n t, .idx i :: p, q, x, u, h, ho, hq => by
    simp only [Ty.get] at h
    simp only [Ty.okp, Bool.and_eq_true, decide_eq_true_eq] at ho
    have ih := Ty.path_append t p q _ u h ho.2 hq
    refine ⟨by simp [Ty.okp, ho.1, ih.1], ?_⟩
    simp only [List.cons_append, Ty.off, ih.2]
    omega
  | .int _, _ :: _, _, _, _, h, _, _ | .bool, _ :: _, _, _, _, h, _, _ | .str, _ :: _, _, _, _, h, _, _ | .unit, _ :: _, _, _, _, h, _, _ | .list _, _ :: _, _, _, _, h, _, _ => by simp [Ty.get] at h
  | .pair _ _, .idx _ :: _, _, _, _, h, _, _ => by simp [Ty.get] at h
  | .arr _ _, .fld _ :: _, _, _, _, h, _, _ => by simp [Ty.get] at h

mutual
theorem AV.path_append : ∀ (a : AV) (p q : List Step) (u : AV), a.get p = some u → a.okp p = true → u.okp q = true → a.okp (p ++ q) = true ∧ a.off (p ++ q) = a.off p + u.off q
  | a, [], q, u, h, _, hq => by
    rw [AV.get_nil] at h
    cases h
    rw [AV.off_nil, List.nil_append, Nat.zero_add]
    exact ⟨hq, rfl⟩
  | .val t x, s :: p, q, u, h, ho, hq => by
    have := Ty.path_append t (s :: p) q x u (by simpa [AV.get] using h) (by simpa [AV.okp] using ho) hq
    simpa [AV.okp, AV.off] using this
  | .comp fs, .fld i :: p, q, u, h, ho, hq => by
    have := AV.paths_append fs i p q u (by simpa [AV.get] using h) (by simpa [AV.okp] using ho) hq
    simpa [AV.okp, AV.off] using this
  | .comp fs, .idx i :: p, q, u, h, ho, hq => by
    have := AV.paths_append fs i p q u (by simpa [AV.get] using h) (by simpa [AV.okp] using ho) hq
    simpa [AV.okp, AV.off] using this
  | .ptr _ _, _ :: _, _, _, _, ho, _ | .nilp, _ :: _, _, _, _, ho, _ | .slice _, _ :: _, _, _, _, ho, _ | .nils, _ :: _, _, _, _, ho, _ | .fn _ _, _ :: _, _, _, _, ho, _
  | .nilf, _ :: _, _, _, _, ho, _ | .tup _, _ :: _, _, _, _, ho, _ | .elem _ _, _ :: _, _, _, _, ho, _ | .undef, _ :: _, _, _, _, ho, _ => by simp [AV.okp] at ho
theorem AV.paths_append : ∀ (l : List AV) (i : Nat) (p q : List Step) (u : AV), AV.gets l i p = some u → AV.okps l i p = true → u.okp q = true →
    AV.okps l i (p ++ q) = true ∧ AV.offs l i (p ++ q) = AV.offs l i p + u.off q
  | [], _, _, _, _, h, _, _ => by simp [AV.gets] at h
  | a :: l, 0, p, q, u, h, ho, hq => by
    have := AV.path_append a p q u (by simpa [AV.gets] using h) (by simpa [AV.okps] using ho) hq
    simpa [AV.okps, AV.offs] using this
  | a :: l, i + 1, p, q, u, h, ho, hq => by
    have := AV.paths_append l i p q u (by simpa [AV.gets] using h) (by simpa [AV.okps] using ho) hq
    refine ⟨by simpa [AV.okps] using this.1, ?_⟩
    simp only [AV.offs, this.2]; omega
end

theorem Blk.path_append (b : Blk) (p q : List Step) (u : AV) (h : b.get p = some u) (ho : b.okp p = true) (hq : u.okp q = true) : b.okp (p ++ q) = true ∧ b.off (p ++ q) = b.off p + u.off q := by
  cases b with
  | var v => exact AV.path_append v p q u h ho hq
  | list t l =>
    rcases p with _ | ⟨_ | i, p⟩ <;> simp only [Blk.get] at h <;> try cases h
    simp only [Blk.okp, Bool.and_eq_true, decide_eq_true_eq] at ho
    have := Ty.path_append t p q _ u h ho.2 hq
    refine ⟨by simp [Blk.okp, ho.1, this.1], ?_⟩
    simp only [List.cons_append, Blk.off, this.2]; omega
  | iter => simp [Blk.get] at h
  | dead => simp [Blk.get] at h

theorem Ty.fld_okp : ∀ (t : Ty) (i : Nat) (x : t.den) (c : AV), t.get [.fld i] x = some c → t.okp [.fld i] = true
  | .pair a b, 0, x, c, h => by cases a <;> rfl
  | .pair a b, i + 1, x, c, h => by
    simp only [Ty.get] at h
    simpa [Ty.okp] using Ty.fld_okp b i _ c h
  | .int _, _, _, _, h | .bool, _, _, _, h | .str, _, _, _, h | .unit, _, _, _, h | .list _, _, _, _, h | .arr _ _, _, _, _, h => by simp [Ty.get] at h

theorem AV.gets_okps : ∀ (l : List AV) (i : Nat) (c : AV), AV.gets l i [] = some c → AV.okps l i [] = true
  | [], _, _, h => by simp [AV.gets] at h
  | a :: l, 0, c, _ => by cases a <;> rfl
  | a :: l, i + 1, c, h => by simpa [AV.okps] using AV.gets_okps l i c (by simpa [AV.gets] using h)

theorem AV.fld_okp (u : AV) (i : Nat) (c : AV) (h : u.get [.fld i] = some c) : u.okp [.fld i] = true := by
  cases u <;> simp [AV.get] at h
  · simpa [AV.okp] using Ty.fld_okp _ i _ c h
  · simpa [AV.okp] using AV.gets_okps _ i c h

/-- A new address inside the same block. -/
theorem PtrR.sub {id : Nat} {b : Blk} {p q : List Step} {u : AV} {x : Value} (hb : mem[id]? = some b) (hg : b.get p = some u) (hq : u.okp q = true) (hp : PtrR μ mem id p x) :
    ∃ g o, x = .pointer (some ⟨g, o, none⟩) ∧ PtrR μ mem id (p ++ q) (.pointer (some ⟨g, o + u.off q, none⟩)) := by
  unfold PtrR at hp ⊢
  rw [hb] at hp ⊢
  cases b with
  | dead => simp [Blk.get] at hg
  | iter => simp [Blk.get] at hg
  | var v =>
    obtain ⟨g, n, h1, h2, h3⟩ := hp
    obtain ⟨k1, k2⟩ := Blk.path_append _ p q u hg h2 hq
    exact ⟨g, _, h3, g, n, h1, k1, by rw [k2]⟩
  | list t l =>
    obtain ⟨g, n, h1, h2, h3⟩ := hp
    obtain ⟨k1, k2⟩ := Blk.path_append _ p q u hg h2 hq
    exact ⟨g, _, h3, g, n, h1, k1, by rw [k2]⟩

theorem RV.ptr {id : Nat} {p : List Step} {x : Value} : RV μ mem sh w (.ptr id p) x ↔ PtrR μ mem id p x := by
  constructor
  · rintro ⟨cs, ⟨v, rfl, hp⟩, hcv⟩
    simp only [AV.agg, Bool.false_eq_true, if_false, List.cons.injEq, and_true] at hcv
    exact hcv ▸ hp
  · intro h
    exact ⟨[x], ⟨x, rfl, h⟩, rfl⟩

theorem RV.atom {a : AV} {x : Value} (h : RV μ mem sh w a x) (ha : a.agg = false) : RC μ mem sh w a [x] := by
  obtain ⟨cs, hc, hcv⟩ := h
  rw [ha] at hcv
  simp only [Bool.false_eq_true, if_false] at hcv
  exact hcv ▸ hc

theorem RV.mk_atom {a : AV} {x : Value} (h : RC μ mem sh w a [x]) (ha : a.agg = false) : RV μ mem sh w a x := ⟨[x], h, by simp [ha]⟩

theorem RV.int {k : IntKind} {n : Int} {x : Value} : RV μ mem sh w (.val (.int k) n) x ↔ x = .int k n := by
  constructor
  · intro h; have := h.atom rfl; simpa [RC, Enc] using this
  · rintro rfl; exact RV.mk_atom (by simp [RC, Enc]) rfl

theorem RV.bool {b : Bool} {x : Value} : RV μ mem sh w (.val .bool b) x ↔ x = .bool b := by
  constructor
  · intro h; have := h.atom rfl; simpa [RC, Enc] using this
  · rintro rfl; exact RV.mk_atom (by simp [RC, Enc]) rfl

theorem RV.str {s : ByteArray} {x : Value} : RV μ mem sh w (.val .str s) x ↔ x = .string s := by
  constructor
  · intro h; have := h.atom rfl; simpa [RC, Enc] using this
  · rintro rfl; exact RV.mk_atom (by simp [RC, Enc]) rfl

theorem struct_field {d : TypeDesc} {fs : List (TypeId × Nat)} (h : TDOk d (.struct fs)) {i ft off : Nat} (hi : fs[i]? = some (ft, off)) :
    ∃ l f, d = .struct l ∧ l[i]? = some f ∧ f.type = ft ∧ f.offset = off := by
  obtain ⟨l, rfl, rfl, _⟩ := h
  rw [List.getElem?_map, Option.map_eq_some_iff] at hi
  obtain ⟨f, hf, he⟩ := hi
  cases he
  exact ⟨l, f, rfl, by simpa using hf, rfl, rfl⟩

theorem ite_some {α : Type} {c : Bool} {x : Option α} {r : α} (h : (if c = true then x else none) = some r) : c = true ∧ x = some r := by
  cases c
  · simp at h
  · exact ⟨rfl, by simpa using h⟩

theorem TRow.ok_of_struct {r : TRow} {fs : List (TypeId × Nat)} (h : r.td = .struct fs) : r.ok = true := by simp [TRow.ok, h]
theorem TRow.ok_of_arr {r : TRow} {n : Nat} {e : TypeId} (h : r.td = .arr n e) : r.ok = true := by simp [TRow.ok, h]
theorem TRow.ok_of_slice {r : TRow} {e : TypeId} (h : r.td = .slice e) : r.ok = true := by simp [TRow.ok, h]
theorem TRow.ok_of_str {r : TRow} (h : r.td = .str) : r.ok = true := by simp [TRow.ok, h]
theorem TRow.ok_of_int {r : TRow} {k : IntKind} (h : r.td = .int k) : r.ok = true := by simp [TRow.ok, h]

/-- The result of an operation that leaves memory alone. -/
def Pure1 (P : Program) (s : Sem Value) (k : AV → Option R) (r : R) (μ : Mu) (mem : Mem) (sh : Nat → Prop) (w : World) : Prop :=
  ∃ v, s.run P w = .ok v w ∧ ∃ a, k a = some r ∧ RV μ mem sh w a v

theorem fieldAddr_ok (hT : TOk P T) {s : TypeId} {a : AV} {i : Nat} {x : Value} {k : AV → Option R} {r : R} (ha : RV μ mem sh w a x)
    (h : fieldAddrK T s a i mem k = some r) : Pure1 P (Instr.fieldAt s x i) k r μ mem sh w := by
  unfold fieldAddrK at h
  split at h <;> try cases h
  rename_i fs htd
  split at h <;> try cases h
  rename_i ft off hf
  obtain ⟨ti, d, hi, hd, hs, htdo, _⟩ := (hT s (TRow.ok_of_struct htd)).row
  rw [htd] at htdo
  obtain ⟨l, f, rfl, hlf, rfl, rfl⟩ := struct_field htdo hf
  have run : ∀ g o n, (T f.type).ok = true → n = (T f.type).size → n ≠ 0 → x = .pointer (some ⟨g, o, none⟩) →
      (Instr.fieldAt s x i).run P w = .ok (.pointer (some ⟨g, o + f.offset, none⟩)) w := by
    intro g o n hok hn h0 hx
    obtain ⟨fi, _, hfi, _, hfs, _⟩ := (hT f.type hok).row
    have : fi.size ≠ 0 := by rw [hfs, ← hn]; exact h0
    simp [Instr.fieldAt, run_underlying hd, hlf, hx, Instr.sureAddr, fieldPlace, sizeOf_run hfi, this, addr_add]
  split at h
  · rename_i id p
    split at h <;> try cases h
    rename_i b hb
    split at h <;> try cases h
    rename_i u hu
    split at h <;> try cases h
    rename_i c hc
    obtain ⟨hcond, h⟩ := ite_some h
    simp only [Bool.and_eq_true, beq_iff_eq, Bool.not_eq_true', beq_eq_false_iff_ne] at hcond
    have hok := AV.fld_okp u i c hc
    obtain ⟨g, o, hx, hP⟩ := PtrR.sub hb hu hok (RV.ptr.1 ha)
    rw [hcond.1.1.1] at hP
    exact ⟨_, run g o _ hcond.1.1.2 hcond.1.2 hcond.2 hx, _, h, RV.ptr.2 hP⟩
  · rename_i ty y
    split at h <;> try cases h
    rename_i s' z hz
    obtain ⟨hcond, h⟩ := ite_some h
    simp only [Bool.and_eq_true, beq_iff_eq, Bool.not_eq_true', beq_eq_false_iff_ne] at hcond
    have hR := ha.atom rfl
    obtain ⟨b, o, c, e, cs', hx, h2, h3, h4, h5⟩ := hR
    simp only [List.cons.injEq, and_true] at hx
    have hok := Ty.fld_okp ty i y _ hz
    obtain ⟨s2, z2, he, hE⟩ := Ty.get_enc ty y cs' [.fld i] _ h4 hz hok
    cases he
    refine ⟨_, run b o _ hcond.1.1.2 hcond.1.2 hcond.2 hx, _, h, RV.mk_atom ?_ rfl⟩
    refine ⟨b, _, c, e, _, rfl, h2, h3, hE, ?_⟩
    have hl := Enc.length _ _ _ hE
    rw [hl, ← hcond.1.1.1, ← List.drop_drop]
    rw [List.length_take, List.length_drop] at hl
    conv => rhs; rw [← h5]
    rw [List.drop_take, List.take_take, Nat.min_eq_left (by omega)]
  · cases h

theorem oneOf_spec {j : Int} {n : Nat} {K : Nat → Option R} {r : R} : ∀ m, m ≤ n → oneOf j n K m = some r → ∃ i, i < n ∧ j = (i : Int) ∧ K i = some r
  | 0, _, h => by simp [oneOf] at h
  | m + 1, hm, h => by
    simp only [oneOf] at h
    cases hc : (j == ((n - (m + 1) : Nat) : Int)) with
    | true =>
      rw [hc] at h
      exact ⟨n - (m + 1), by omega, by simpa using hc, h⟩
    | false =>
      rw [hc] at h
      exact oneOf_spec m (by omega) h

theorem AV.offs_ones : ∀ (fs : List AV) (i : Nat), (fs.all fun v => v.size == 1) = true → i < fs.length → AV.offs fs i [] = i ∧ AV.okps fs i [] = true
  | [], i, _, h => by simp at h
  | v :: fs, 0, _, _ => ⟨AV.off_nil v, by cases v <;> rfl⟩
  | v :: fs, i + 1, ha, h => by
    simp only [List.all_cons, Bool.and_eq_true, beq_iff_eq] at ha
    obtain ⟨h1, h2⟩ := AV.offs_ones fs i ha.2 (by simpa using h)
    exact ⟨by simp [AV.offs, h1, ha.1]; omega, by simpa [AV.okps] using h2⟩

theorem inB_spec {j : Int} {n : Nat} (h : inB j n = true) : 0 ≤ j ∧ j < n ∧ j.toNat < n := by
  simp only [inB, Bool.and_eq_true, decide_eq_true_eq] at h
  omega

theorem cond_some {α : Type} {c : Bool} {x : Option α} {r : α} (h : cond c x none = some r) : c = true ∧ x = some r := by
  cases c
  · simp at h
  · exact ⟨rfl, h⟩

theorem indexAddr_ok (hT : TOk P T) {t : TypeId} {a ix : AV} {x y : Value} {k : AV → Option R} {r : R} (hM : MemR μ mem sh w) (ha : RV μ mem sh w a x) (hy : RV μ mem sh w ix y)
    (h : indexAddrK T t a ix mem k = some r) : Pure1 P (Instr.indexAt t x y) k r μ mem sh w := by
  unfold indexAddrK at h
  split at h <;> try cases h
  rename_i kd j
  have hy' := RV.int.1 hy
  subst hy'
  split at h <;> try cases h
  · -- an array behind an address
    rename_i n e htd
    obtain ⟨ti, d, hi, hd, hs, htdo, _⟩ := (hT t (TRow.ok_of_arr htd)).row
    rw [htd] at htdo
    have hd' : d = .array n e := htdo
    subst hd'
    split at h <;> try cases h
    rename_i id p
    split at h <;> try cases h
    rename_i b hb
    have run : ∀ (g o i : Nat), (T e).ok = true → x = .pointer (some ⟨g, o, none⟩) → j = (i : Int) → i < n →
        (Instr.indexAt t x (.int kd j)).run P w = .ok (.pointer (some ⟨g, o + i * (T e).size, none⟩)) w := by
      intro g o i hok hx hj hin
      obtain ⟨ei, _, hei, _, hes, _⟩ := (hT e hok).row
      subst hj
      simp [Instr.indexAt, asIntOf, run_underlying hd, hx, Instr.sureAddr, sizeOf_run hei, addr_add, hes]
      intro hle; omega
    split at h <;> try cases h
    · rename_i m s l hu
      obtain ⟨hcond, h⟩ := ite_some h
      obtain ⟨hin, h⟩ := cond_some h
      simp only [Bool.and_eq_true, beq_iff_eq] at hcond
      obtain ⟨h1, h2, h3⟩ := inB_spec hin
      have hok : (AV.val (.arr m s) l).okp [.idx j.toNat] = true := by
        simp only [AV.okp, Ty.okp, Bool.and_eq_true, decide_eq_true_eq]
        exact ⟨by omega, by first | trivial | (cases s <;> rfl)⟩
      obtain ⟨g, o, hx, hP⟩ := PtrR.sub hb hu hok (RV.ptr.1 ha)
      have hoff : (AV.val (.arr m s) l).off [.idx j.toNat] = j.toNat * (T e).size := by
        simp only [AV.off, Ty.off, hcond.2]
        have h0 : s.off [] = 0 := by cases s <;> rfl
        omega
      rw [hoff] at hP
      exact ⟨_, run g o j.toNat hcond.1.2 hx (Int.toNat_of_nonneg h1).symm h3, _, h, RV.ptr.2 hP⟩
    · rename_i fs hu
      obtain ⟨hcond, h⟩ := ite_some h
      simp only [Bool.and_eq_true, beq_iff_eq] at hcond
      obtain ⟨i, hin, hj, h⟩ := oneOf_spec n (Nat.le_refl _) h
      obtain ⟨h1, h2⟩ := AV.offs_ones fs i hcond.1.1.2 (by rw [hcond.1.1.1]; exact hin)
      have hok : (AV.comp fs).okp [.idx i] = true := by simpa [AV.okp] using h2
      obtain ⟨g, o, hx, hP⟩ := PtrR.sub hb hu hok (RV.ptr.1 ha)
      have hoff : (AV.comp fs).off [.idx i] = i * (T e).size := by
        simp only [AV.off, h1, hcond.2, Nat.mul_one]
      rw [hoff] at hP
      exact ⟨_, run g o i hcond.1.2 hx hj hin, _, h, RV.ptr.2 hP⟩
  · -- a slice
    rename_i e htd
    obtain ⟨ti, d, hi, hd, hs, htdo, _⟩ := (hT t (TRow.ok_of_slice htd)).row
    rw [htd] at htdo
    have hd' : d = .slice e := htdo
    subst hd'
    have run : ∀ (g o i len cap : Nat), (T e).ok = true → x = .slice (some ⟨g, o, none⟩) len cap → j = (i : Int) → i < len →
        (Instr.indexAt t x (.int kd j)).run P w = .ok (.pointer (some ⟨g, o + i * (T e).size, none⟩)) w := by
      intro g o i len cap hok hx hj hin
      obtain ⟨ei, _, hei, _, hes, _⟩ := (hT e hok).row
      subst hj
      simp [Instr.indexAt, asIntOf, run_underlying hd, hx, sizeOf_run hei, addr_add, hes]
      intro hle; omega
    split at h <;> try cases h
    · rename_i id
      split at h <;> try cases h
      rename_i s l hb
      obtain ⟨hcond, h⟩ := ite_some h
      obtain ⟨hin, h⟩ := cond_some h
      simp only [Bool.and_eq_true, beq_iff_eq] at hcond
      obtain ⟨h1, h2, h3⟩ := inB_spec hin
      obtain ⟨v, hv, hS⟩ := ha.atom rfl
      simp only [List.cons.injEq, and_true] at hv
      subst hv
      unfold SlR at hS
      rw [hb] at hS
      have hB := hM.blk id _ hb
      rcases hS with ⟨k1, _⟩ | ⟨g, n, cap, k1, k2, k3, k4⟩
      · rcases hB with ⟨_, rfl⟩ | ⟨g, n, c, e, cs, m1, _⟩
        · simp at h3
        · rw [k1] at m1; cases m1
      · refine ⟨_, run g 0 j.toNat _ cap hcond.1 k2 (Int.toNat_of_nonneg h1).symm h3, _, h, RV.ptr.2 ?_⟩
        unfold PtrR
        rw [hb]
        refine ⟨g, n, k1, ?_, ?_⟩
        · simp only [Blk.okp, Bool.and_eq_true, decide_eq_true_eq]
          exact ⟨h3, by first | trivial | (cases s <;> rfl)⟩
        · have h0 : s.off [] = 0 := by cases s <;> rfl
          simp only [Blk.off, h0, hcond.2, Nat.zero_add, Nat.add_zero]
    · rename_i s l
      obtain ⟨hcond, h⟩ := ite_some h
      obtain ⟨hin, h⟩ := cond_some h
      simp only [Bool.and_eq_true, beq_iff_eq] at hcond
      obtain ⟨h1, h2, h3⟩ := inB_spec hin
      have hR := ha.atom rfl
      rcases hR with ⟨_, rfl⟩ | ⟨b, off, cap, c, ee, cs', k1, k2, k3, k4, k5⟩
      · simp at h3
      · simp only [List.cons.injEq, and_true] at k1
        refine ⟨_, run b off j.toNat _ cap hcond.1 k1 (Int.toNat_of_nonneg h1).symm h3, _, h, RV.mk_atom ?_ rfl⟩
        have hE := EncL.get (Enc.length s) s.dflt l cs' j.toNat k4 h3
        refine ⟨b, _, c, ee, _, rfl, k2, k3, hE, ?_⟩
        have hL := EncL.length (Enc.length s) l cs' k4
        have hl := Enc.length _ _ _ hE
        rw [hl, ← hcond.2, ← List.drop_drop]
        rw [List.length_take, List.length_drop] at hl
        conv => rhs; rw [← k5]
        rw [List.drop_take, List.take_take]
        congr 1
        omega

end
end Am

/- THE ABSTRACT MACHINE: parts of values, new blocks, composites. -/
namespace Am
open Go

section
variable {P : Program} {μ μ' : Mu} {mem mem' : Mem} {sh sh' : Nat → Prop} {w w' : World} {R : Type} {T : TypeId → TRow}

theorem run_part {ty : TypeId} {i : TypeInfo} {d : TypeDesc} (hi : P.info? ty = some i) (hu : P.underlying ty = some d) {c : Array Value} {o : Nat} {cs : List Value}
    (hc : (c.toList.drop o).take i.size = cs) (hn : cs.length = i.size) (h1 : aggDesc d = false → i.size = 1) :
    (part ty c o).run P w = .ok (if aggDesc d then .agg cs.toArray else cs.headD undef) w := by
  have hagg : (isAgg ty).run P w = .ok (aggDesc d) w := by
    unfold isAgg
    rw [Sem.run_bind, run_underlying hu w]
    cases d <;> simp [aggDesc]
  cases ha : aggDesc d with
  | true =>
    have : c.extract o (o + i.size) = cs.toArray := by
      apply Array.ext'
      rw [Array.toList_extract, ← hc, List.extract_eq_take_drop]
      simp
    simp [part, Sem.run_bind, hagg, ha, Go.sizeOf, typeInfo, hi, this]
  | false =>
    have h2 := h1 ha
    have hcell : c[o]? = some (cs.headD undef) := by
      match cs, hn, h2, hc with
      | [v], _, _, hc =>
        rw [h2] at hc
        have : (List.take 1 (List.drop o c.toList))[0]? = some v := by rw [hc]; rfl
        rw [List.getElem?_take, if_pos (by omega), List.getElem?_drop] at this
        simpa using this
      | [], hn, h2, _ => simp at hn; omega
      | _ :: _ :: _, hn, h2, _ => simp at hn; omega
    simp [part, Sem.run_bind, hagg, ha, hcell]

theorem part_ok (hT : TOk P T) {ty : TypeId} {c : AV} {cs : Array Value} {o : Nat} (hc : chk (T ty) c = true) (hR : RC μ mem sh w c ((cs.toList.drop o).take c.size)) :
    ∃ v, (part ty cs o).run P w = .ok v w ∧ RV μ mem sh w c v := by
  obtain ⟨c0, c1, c2, c3⟩ := chk_spec hc
  obtain ⟨i, d, hi, hd, hs, _, hagg, _, _⟩ := (hT ty c0).row
  have hl := RC.length _ _ hR
  rw [c1, ← hs] at hR hl
  have := run_part (w := w) hi hd rfl hl (fun h0 => by rw [hs, ← c1]; exact AV.size_one (by rw [c2, ← hagg, h0]))
  refine ⟨_, this, ?_⟩
  rw [hagg, ← c2]
  exact RV.of_cells hR

theorem field_ok (hT : TOk P T) {s : TypeId} {a : AV} {i : Nat} {x : Value} {k : AV → Option R} {r : R} (ha : RV μ mem sh w a x)
    (h : fieldK T s a i k = some r) : Pure1 P (Instr.field s x i) k r μ mem sh w := by
  unfold fieldK at h
  split at h <;> try cases h
  rename_i fs htd
  split at h <;> try cases h
  rename_i ft off hf
  obtain ⟨hag, h⟩ := ite_some h
  split at h <;> try cases h
  rename_i c hc
  obtain ⟨hcond, hkc⟩ := ite_some h
  clear h
  simp only [Bool.and_eq_true, beq_iff_eq] at hcond
  obtain ⟨ti, d, hi, hd, hs, htdo, _⟩ := (hT s (TRow.ok_of_struct htd)).row
  rw [htd] at htdo
  obtain ⟨l, f, rfl, hlf, rfl, rfl⟩ := struct_field htdo hf
  obtain ⟨cs, hR, hx⟩ := ha
  rw [hag] at hx
  simp only [if_true] at hx
  subst hx
  have hg := RC.get a cs [.fld i] c hR hc (AV.fld_okp a i c hc)
  rw [hcond.1] at hg
  obtain ⟨v, hv, hvr⟩ := part_ok (P := P) (ty := f.type) (cs := cs.toArray) (o := f.offset) hT hcond.2 (by simpa using hg)
  exact ⟨v, by simp [Instr.field, run_underlying hd, hlf, asAgg, hv], c, hkc, hvr⟩

theorem index_ok (hT : TOk P T) {t : TypeId} {a ix : AV} {x y : Value} {k : AV → Option R} {r : R} (ha : RV μ mem sh w a x) (hy : RV μ mem sh w ix y)
    (h : indexK T t a ix k = some r) : Pure1 P (Instr.index t x y) k r μ mem sh w := by
  unfold indexK at h
  split at h <;> try cases h
  rename_i kd j
  have hy' := RV.int.1 hy
  subst hy'
  split at h <;> try cases h
  · rename_i n e m s l htd
    obtain ⟨hcond, h⟩ := ite_some h
    obtain ⟨hin, h⟩ := cond_some h
    simp only [Bool.and_eq_true, beq_iff_eq] at hcond
    obtain ⟨h1, h2, h3⟩ := inB_spec hin
    obtain ⟨ti, d, hi, hd, hs, htdo, _⟩ := (hT t (TRow.ok_of_arr htd)).row
    rw [htd] at htdo
    have hd' : d = .array n e := htdo
    subst hd'
    obtain ⟨ei, ed, hei, hed, hes, _⟩ := (hT e hcond.1.1.2).row
    obtain ⟨cs, ⟨hl, hE⟩, hx⟩ := ha
    simp only [AV.agg, Ty.agg, if_true] at hx
    subst hx
    have hj : j.toNat < List.length l := by omega
    have hE' := EncL.get (Enc.length s) s.dflt l cs j.toNat hE hj
    have hce : chk (T e) (.val s (List.getD l j.toNat s.dflt)) = true := by
      simp only [chk, Bool.and_eq_true, beq_iff_eq]
      exact ⟨hcond.1.1.2, ⟨hcond.1.2, hcond.2⟩, rfl⟩
    obtain ⟨v, hv, hvr⟩ := part_ok (P := P) (ty := e) (cs := cs.toArray) (o := j.toNat * s.size) hT hce (by simpa [RC, AV.size] using hE')
    refine ⟨v, ?_, _, h, hvr⟩
    have hjn : j < (n : Int) := h2
    have hj0 : (0 : Int) ≤ j := h1
    simp [Instr.index, asIntOf, run_underlying hd, hj0, hjn, sizeOf_run hei, hes, ← hcond.1.2, hv]
  · rename_i s htd
    obtain ⟨hin, h⟩ := cond_some h
    obtain ⟨h1, h2, h3⟩ := inB_spec hin
    obtain ⟨ti, d, hi, hd, hs, htdo, _⟩ := (hT t (TRow.ok_of_str htd)).row
    rw [htd] at htdo
    have hd' : d = .string := htdo
    subst hd'
    have hx := RV.str.1 ha
    subst hx
    refine ⟨_, ?_, _, h, RV.int.2 rfl⟩
    have hj0 : (0 : Int) ≤ j := h1
    have hg : (s : ByteArray)[j.toNat]? = some ((ByteArray.data s).getD j.toNat 0) := by
      rw [getElem?_pos s j.toNat h3]
      simp only [Array.getD, Option.some.injEq]
      rw [dif_pos (by exact h3)]
      rfl
    simp only [Instr.index, asIntOf, Sem.run_bind, Sem.run_pure, Result.andThen_ok, run_underlying hd, hj0, if_true, hg]

theorem heap_alloc (w : World) (o : Obj) : (w.alloc o).heap.size = w.heap.size + 1 := by show (w.heap.push o).size = _; simp

/-- A new variable. -/
theorem new_var (hM : MemR μ mem sh w) {a : AV} {c : Array Value} (e : TypeId) (hR : RC μ mem sh w a c.toList) {k : AV → Mem → Option R} {r : R}
    (h : k (.ptr mem.length []) (mem ++ [.var a]) = some r) :
    Got k r μ mem sh w (.pointer (some ⟨w.heap.size, 0, none⟩)) (w.alloc (.cells c e)) := by
  have hnsh : ¬ sh w.heap.size := fun hs => Nat.lt_irrefl _ (hM.shl _ hs)
  obtain ⟨h1, h2⟩ := hM.push (w' := w.alloc (.cells c e)) (some (w.heap.size, c.size)) (.var a) (by rw [heap_alloc]; omega)
    (fun g hg _ => heap_alloc_old w _ g hg)
    (fun g n hm => by
      cases hm
      refine ⟨by rw [heap_alloc]; omega, hnsh, ?_, .inr (Nat.le_refl _)⟩
      intro i k c _ _ hi
      exact Nat.lt_irrefl _ (hM.mul i _ k hi))
    (fun he hk => by
      refine ⟨w.heap.size, c.size, c, e, ?_, heap_alloc_new w _, rfl, RC.ext he hk a _ hR, hnsh⟩
      rw [← hM.len]; simp)
  refine ⟨_, _, _, _, h, RV.ptr.2 ?_, h1, h2⟩
  unfold PtrR
  simp only [List.getElem?_concat_length]
  exact ⟨w.heap.size, c.size, by rw [← hM.len]; simp, by cases a <;> rfl, by simp [Blk.off, AV.off_nil]⟩

theorem box_ok {a : AV} {x : Value} {e : TypeId} {k : AV → Mem → Option R} {r : R} (hM : MemR μ mem sh w) (ha : RV μ mem sh w a x)
    (h : (if a.known then k (.ptr mem.length []) (mem ++ [.var a]) else none) = some r) :
    ∃ v w', (Instr.box e x).run P w = .ok v w' ∧ Got k r μ mem sh w v w' := by
  obtain ⟨hk, h⟩ := ite_some h
  refine ⟨_, _, ?_, new_var hM e (ha.cells hk) h⟩
  simp [Instr.box, newVar, newRow]

theorem alloc_ok (hT : TOk P T) {t : TypeId} {k : AV → Mem → Option R} {r : R} (hM : MemR μ mem sh w) {z : AV} (hz : (T t).zero = some z) (hok : (T t).ok = true)
    (h : k (.ptr mem.length []) (mem ++ [.var z]) = some r) :
    ∃ v w', (Instr.alloc t true (.tuple #[])).run P w = .ok v w' ∧ Got k r μ mem sh w v w' := by
  obtain ⟨i, d, hi, hd, hs, _, hagg, _, hzr, _, _, _⟩ := (hT t hok).row
  obtain ⟨v, hv, hzagg, hzk, hR⟩ := hzr z hz
  have hRV : RV μ mem sh w z v := hR μ mem sh w
  refine ⟨_, _, ?_, new_var hM t (hRV.cells hzk) h⟩
  simp [Instr.alloc, zeroValue, typeInfo, hi, hv, newVar, newRow]

/-! ### composites -/

theorem foldl_splice (vs : List Value) (o : Nat) : ∀ (k : Nat) (cells : Array Value), o + k + vs.length ≤ cells.size →
    ((vs.zipIdx k).foldl (fun cs (c, j) => cs.setIfInBounds (o + j) c) cells).toList = cells.toList.take (o + k) ++ vs ++ cells.toList.drop (o + k + vs.length) := by
  induction vs with
  | nil => intro k cells _; simp
  | cons v vs ih =>
    intro k cells h
    simp only [List.length_cons] at h
    rw [List.zipIdx_cons, List.foldl_cons, ih (k + 1) _ (by simp; omega)]
    simp only [Array.toList_setIfInBounds]
    rw [show o + (k + 1) = o + k + 1 from by omega]
    rw [List.take_set, List.drop_set_of_lt (by omega)]
    have h1 : (cells.toList.take (o + k + 1)).set (o + k) v = cells.toList.take (o + k) ++ [v] := by
      rw [List.take_succ_eq_append_getElem (by simp; omega)]
      have hl : (cells.toList.take (o + k)).length = o + k := by simp; omega
      rw [List.set_append, if_neg (by omega), hl]
      simp
    rw [h1]
    simp [Nat.add_assoc, Nat.add_comm 1]

theorem fill_step {place : Nat → Option (Nat × Nat)} {cells : Array Value} {i : Nat} {v : Value} {rest : List (Nat × Value)} {o n : Nat} (hp : place i = some (o, n)) (hv : v.cells.size = n) (ho : o + n ≤ cells.size) :
    ∃ cells' : Array Value, Instr.fill place cells ((i, v) :: rest) = Instr.fill place cells' rest ∧
      cells'.toList = cells.toList.take o ++ v.cells.toList ++ cells.toList.drop (o + v.cells.toList.length) ∧ cells'.size = cells.size := by
  refine ⟨v.cells.zipIdx.foldl (fun cs (c, j) => cs.setIfInBounds (o + j) c) cells, ?_, ?_, ?_⟩
  · simp only [Instr.fill, hp]
    rw [if_neg (by simp [hv]; omega)]
  · have := foldl_splice v.cells.toList o 0 cells (by simp; omega)
    simp only [Nat.add_zero] at this
    rw [← this]
    congr 1
    rw [← Array.foldl_toList]
    simp
  · have := foldl_splice v.cells.toList o 0 cells (by simp; omega)
    have h2 := congrArg List.length this
    rw [← Array.foldl_toList]
    simp only [Array.length_toList, List.length_append, List.length_take, List.length_drop, Nat.add_zero] at h2
    simp only [Array.toList_zipIdx]
    omega

end
end Am

/- THE ABSTRACT MACHINE: composites and slices that are built. -/
namespace Am
open Go

section
variable {P : Program} {μ μ' : Mu} {mem mem' : Mem} {sh sh' : Nat → Prop} {w w' : World} {R : Type} {T : TypeId → TRow}

/-- Parts, and what they are. -/
def PR (μ : Mu) (mem : Mem) (sh : Nat → Prop) (w : World) : List (Nat × AV) → List (Nat × Value) → Prop
  | [], vs => vs = []
  | (i, a) :: ps, vs => ∃ v rest, vs = (i, v) :: rest ∧ RV μ mem sh w a v ∧ PR μ mem sh w ps rest

theorem PR.ext (he : Ext μ mem μ' mem') (hk : ShKeep sh w sh' w') : ∀ (ps : List (Nat × AV)) (vs : List (Nat × Value)), PR μ mem sh w ps vs → PR μ' mem' sh' w' ps vs
  | [], _, h => h
  | _ :: ps, _, ⟨v, rest, e, h1, h2⟩ => ⟨v, rest, e, h1.ext he hk, PR.ext he hk ps rest h2⟩

theorem Ty.set_fld_okp : ∀ (t : Ty) (i : Nat) (v : AV) (x y : t.den), t.set [.fld i] v x = some y → t.okp [.fld i] = true
  | .pair a b, 0, v, x, y, h => by cases a <;> rfl
  | .pair a b, i + 1, v, x, y, h => by
    simp only [Ty.set, Option.map_eq_some_iff] at h
    obtain ⟨z, hz, _⟩ := h
    simpa [Ty.okp] using Ty.set_fld_okp b i v _ z hz
  | .int _, _, _, _, _, h | .bool, _, _, _, _, h | .str, _, _, _, _, h | .unit, _, _, _, _, h | .list _, _, _, _, _, h | .arr _ _, _, _, _, _, h => by simp [Ty.set] at h

theorem AV.sets_okps : ∀ (l : List AV) (i : Nat) (v : AV) (l' : List AV), AV.sets l i [] v = some l' → AV.okps l i [] = true
  | [], _, _, _, h => by simp [AV.sets] at h
  | a :: l, 0, v, l', _ => by cases a <;> rfl
  | a :: l, i + 1, v, l', h => by
    simp only [AV.sets, Option.map_eq_some_iff] at h
    obtain ⟨z, hz, _⟩ := h
    simpa [AV.okps] using AV.sets_okps l i v z hz

theorem fillS_ok {s : Ty} {place : Nat → Option (Nat × Nat)} : ∀ (ps : List (Nat × AV)) (vs : List (Nat × Value)) (x y : s.den) (cells : Array Value), PR μ mem sh w ps vs →
    (∀ p ∈ ps, place p.1 = some (s.off [.fld p.1], p.2.size) ∧ p.2.known = true) → fillS s ps x = some y → Enc sh w s x cells.toList →
    ∃ cells', Instr.fill place cells vs = some cells' ∧ Enc sh w s y cells'.toList
  | [], vs, x, y, cells, hP, _, h, hE => by
    simp [PR] at hP
    simp [fillS] at h
    subst hP h
    exact ⟨cells, rfl, hE⟩
  | (i, a) :: ps, vs, x, y, cells, hP, hp, h, hE => by
    obtain ⟨v, rest, rfl, hv, hP'⟩ := hP
    simp only [fillS] at h
    split at h <;> try cases h
    rename_i x' hx'
    obtain ⟨hp1, hp2⟩ := hp (i, a) (by simp)
    obtain ⟨s', z, rfl⟩ := Ty.set_val s _ a x x' hx'
    have hok := Ty.set_fld_okp s i _ x x' hx'
    have hvc := hv.cells hp2
    have hvl : v.cells.toList.length = s'.size := Enc.length _ _ _ hvc
    have hS := Ty.set_enc s x cells.toList [.fld i] s' z _ x' hE hvc hx' hok
    have hl := Enc.length _ _ _ hS
    have hl2 := Enc.length _ _ _ hE
    have hle := Ty.off_le s [.fld i] hok
    simp only [List.length_append, List.length_take, List.length_drop, Array.length_toList] at hl hl2
    have hp1' : place i = some (s.off [.fld i], s'.size) := hp1
    simp only [Array.length_toList] at hvl
    obtain ⟨c', h1, h2, h3⟩ := fill_step (rest := rest) (cells := cells) (v := v) hp1' hvl (by omega)
    obtain ⟨c'', h4, h5⟩ := fillS_ok (place := place) ps rest x' y c' hP' (fun p hm => hp p (by simp [hm])) h (by rw [h2]; exact hS)
    exact ⟨c'', h1.trans h4, h5⟩

theorem fillR_ok {place : Nat → Option (Nat × Nat)} : ∀ (ps : List (Nat × AV)) (vs : List (Nat × Value)) (us us' : List AV) (cells : Array Value), PR μ mem sh w ps vs →
    (∀ p ∈ ps, place p.1 = some (AV.offs us p.1 [], p.2.size) ∧ p.2.known = true) → fillR ps us = some us' → RCs μ mem sh w us cells.toList →
    ∃ cells', Instr.fill place cells vs = some cells' ∧ RCs μ mem sh w us' cells'.toList
  | [], vs, us, us', cells, hP, _, h, hE => by
    simp [PR] at hP
    simp [fillR] at h
    subst hP h
    exact ⟨cells, rfl, hE⟩
  | (i, a) :: ps, vs, us, us', cells, hP, hp, h, hE => by
    obtain ⟨v, rest, rfl, hv, hP'⟩ := hP
    simp only [fillR] at h
    split at h <;> try cases h
    rename_i x' hx'
    obtain ⟨hp1, hp2⟩ := hp (i, a) (by simp)
    have hok := AV.sets_okps us i _ x' hx'
    have hvc := hv.cells hp2
    have hvl := RC.length _ _ hvc
    have hS := RCs.set us cells.toList i [] a _ x' hE hvc hx' hok
    have hl := RCs.length _ _ hS.1
    have hl2 := RCs.length _ _ hE
    have hle := AV.offs_le us i [] hok
    have hsz := hS.2.1
    simp only [List.length_append, List.length_take, List.length_drop, Array.length_toList] at hl hl2 hvl
    have hp1' : place i = some (AV.offs us i [], a.size) := hp1
    obtain ⟨c', h1, h2, h3⟩ := fill_step (rest := rest) (cells := cells) (v := v) hp1' hvl (by omega)
    obtain ⟨c'', h4, h5⟩ := fillR_ok (place := place) ps rest x' us' c' hP' (fun p hm => by
      obtain ⟨q1, q2⟩ := hp p (by simp [hm])
      exact ⟨by rw [q1, (hS.2.2 p.1 []).2], q2⟩) h (by rw [h2]; exact hS.1)
    exact ⟨c'', h1.trans h4, h5⟩

theorem zero_cells (hT : TOk P T) {t : TypeId} {z : AV} (hok : (T t).ok = true) (hz : (T t).zero = some z) :
    ∃ i v, P.info? t = some i ∧ i.zero = some v ∧ RC μ mem sh w z v.cells.toList := by
  obtain ⟨i, d, hi, hd, hs, _, hagg, _, hzr, _, _, _⟩ := (hT t hok).row
  obtain ⟨v, hv, _, hzk, hR⟩ := hzr z hz
  exact ⟨i, v, hi, hv, RV.cells (hR μ mem sh w) hzk⟩

theorem built_struct {t : TypeId} {i : TypeInfo} {l : Array Field} {v : Value} {vs : List (Nat × Value)} (hi : P.info? t = some i) (hd : P.underlying t = some (.struct l)) (hv : i.zero = some v)
    (hf : ∀ f ∈ l.toList, (P.info? f.type).isSome = true) :
    ∃ place : Nat → Option (Nat × Nat), (∀ (j : Nat) f fi, l[j]? = some f → P.info? f.type = some fi → place j = some (f.offset, fi.size)) ∧ P.built t vs = Instr.fill place v.cells vs := by
  obtain ⟨places, hp⟩ : ∃ places, l.toList.mapM (fun f => (P.info? f.type).map fun i => (f.offset, i.size)) = some places := by
    revert hf
    generalize l.toList = fs
    intro hf
    induction fs with
    | nil => exact ⟨[], rfl⟩
    | cons f fs ih =>
      obtain ⟨r, hr⟩ := ih (fun g hg => hf g (by simp [hg]))
      obtain ⟨fi, hfi⟩ := Option.isSome_iff_exists.1 (hf f (by simp))
      exact ⟨(f.offset, fi.size) :: r, by simp [List.mapM_cons, hfi, hr]⟩
  refine ⟨(places.toArray[·]?), ?_, ?_⟩
  · intro j f fi hj hfi
    have := mapM_some_get hp j f (by simpa using hj)
    simp [hfi] at this
    simp [← this]
  · unfold Program.built
    simp [hi, hd, hv, hp]

theorem fillL_ok {s : Ty} : ∀ (ps : List (Nat × AV)) (vs : List (Nat × Value)) (l l' : List s.den) (m' : Mem) (cells : Array Value), PR μ mem sh w ps vs →
    fillL s ps l [] = some (l', m') → EncL (Enc sh w s) l cells.toList →
    ∃ cells', Instr.fill (fun i => some (i * s.size, s.size)) cells vs = some cells' ∧ EncL (Enc sh w s) l' cells'.toList ∧ l'.length = l.length ∧ cells'.size = cells.size
  | [], vs, l, l', m', cells, hP, h, hE => by
    simp [PR] at hP
    simp [fillL] at h
    obtain ⟨rfl, rfl⟩ := h
    subst hP
    exact ⟨cells, rfl, hE, rfl, rfl⟩
  | (i, a) :: ps, vs, l, l', m', cells, hP, h, hE => by
    obtain ⟨v, rest, rfl, hv, hP'⟩ := hP
    simp only [fillL] at h
    split at h <;> try cases h
    rename_i hi
    split at h <;> try cases h
    rename_i x m hx
    -- the element as plain data
    have hx' : m = [] ∧ Enc sh w s x v.cells.toList := by
      unfold asTy at hx
      split at hx
      · rename_i s' x'
        simp only [Option.map_eq_some_iff] at hx
        obtain ⟨z, hz, he⟩ := hx
        cases he
        obtain ⟨rfl, rfl⟩ := Ty.cast_spec hz
        exact ⟨rfl, hv.cells rfl⟩
      · cases s <;> simp at hx
        obtain ⟨rfl, rfl⟩ := hx
        exact ⟨rfl, .inl ⟨hv.cells rfl, rfl⟩⟩
      · cases s <;> simp at hx
      · cases hx
    obtain ⟨rfl, hxE⟩ := hx'
    have hL := EncL.length (Enc.length s) l _ hE
    have hxl := Enc.length _ _ _ hxE
    have hS := EncL.set (Enc.length s) hxE l _ i hE hi
    have hm : i * s.size + s.size ≤ l.length * s.size := by
      rw [← Nat.succ_mul]; exact Nat.mul_le_mul_right _ hi
    simp only [Array.length_toList] at hL hxl
    obtain ⟨c', h1, h2, h3⟩ := fill_step (rest := rest) (place := fun i => some (i * s.size, s.size)) (cells := cells) (v := v) (i := i) rfl hxl (by omega)
    obtain ⟨c'', h4, h5, h6, h7⟩ := fillL_ok ps rest (l.set i x) l' m' c' hP' h (by rw [h2]; simp only [Array.length_toList, hxl]; exact hS)
    exact ⟨c'', h1.trans h4, h5, by simpa using h6, h7.trans h3⟩

theorem build_ok (hT : TOk P T) {t : TypeId} {ps : List (Nat × AV)} {parts : Array (Nat × Value)} {k : AV → Option R} {r : R} (hP : PR μ mem sh w ps parts.toList)
    (h : buildK T t ps k = some r) : Pure1 P (Instr.build t parts) k r μ mem sh w := by
  unfold buildK at h
  split at h
  · -- a struct of plain data
    rename_i fs s x htd hz
    obtain ⟨hcond, h⟩ := ite_some h
    split at h <;> try cases h
    rename_i y hy
    obtain ⟨ti, d, hi, hd, hs, htdo, hagg, _, hzr, _, hinf, _⟩ := (hT t (TRow.ok_of_struct htd)).row
    rw [htd] at htdo
    obtain ⟨l, rfl, hl, _⟩ := htdo
    obtain ⟨i', v, hi', hv, hR⟩ := zero_cells (μ := μ) (mem := mem) (sh := sh) (w := w) hT (TRow.ok_of_struct htd) hz
    rw [hi] at hi'
    cases hi'
    obtain ⟨place, hpl, hb⟩ := built_struct (vs := parts.toList) hi hd hv (hinf l rfl)
    obtain ⟨cells, hf, hE⟩ := fillS_ok (place := place) ps parts.toList x y v.cells hP (fun p hp => by
      simp only [partsOk, List.all_eq_true] at hcond
      have hc := hcond p hp
      split at hc <;> try cases hc
      rename_i ft o hfo
      simp only [Bool.and_eq_true, beq_iff_eq] at hc
      rw [← hl, List.getElem?_map, Option.map_eq_some_iff] at hfo
      obtain ⟨f, hf, he⟩ := hfo
      cases he
      obtain ⟨fi, _, hfi, _, hfs, _⟩ := (hT f.type hc.1.1.2).row
      exact ⟨by rw [hpl p.1 f fi (by simpa using hf) hfi, hfs, hc.1.1.1, hc.1.2], hc.2⟩) hy hR
    have hag : s.agg = true := by
      obtain ⟨_, _, hza, _⟩ := hzr _ hz
      rw [← hagg] at hza
      exact hza
    refine ⟨.agg cells, run_build w t parts cells (by rw [hb]; exact hf), _, h, cells.toList, hE, ?_⟩
    show if s.agg = true then _ else _
    rw [hag]; simp
  · rename_i fs us htd hz
    obtain ⟨hcond, h⟩ := ite_some h
    split at h <;> try cases h
    rename_i us' hy
    obtain ⟨ti, d, hi, hd, hs, htdo, hagg, _, hzr, _, hinf, _⟩ := (hT t (TRow.ok_of_struct htd)).row
    rw [htd] at htdo
    obtain ⟨l, rfl, hl, _⟩ := htdo
    obtain ⟨i', v, hi', hv, hR⟩ := zero_cells (μ := μ) (mem := mem) (sh := sh) (w := w) hT (TRow.ok_of_struct htd) hz
    rw [hi] at hi'
    cases hi'
    obtain ⟨place, hpl, hb⟩ := built_struct (vs := parts.toList) hi hd hv (hinf l rfl)
    obtain ⟨cells, hf, hE⟩ := fillR_ok (place := place) ps parts.toList us us' v.cells hP (fun p hp => by
      simp only [partsOk, List.all_eq_true] at hcond
      have hc := hcond p hp
      split at hc <;> try cases hc
      rename_i ft o hfo
      simp only [Bool.and_eq_true, beq_iff_eq] at hc
      rw [← hl, List.getElem?_map, Option.map_eq_some_iff] at hfo
      obtain ⟨f, hf, he⟩ := hfo
      cases he
      obtain ⟨fi, _, hfi, _, hfs, _⟩ := (hT f.type hc.1.1.2).row
      exact ⟨by rw [hpl p.1 f fi (by simpa using hf) hfi, hfs, hc.1.1.1, hc.1.2], hc.2⟩) hy hR
    exact ⟨.agg cells, run_build w t parts cells (by rw [hb]; exact hf), _, h, cells.toList, hE, by simp [AV.agg]⟩
  · rename_i n e n' s l htd hz
    obtain ⟨hcond, h⟩ := ite_some h
    simp only [Bool.and_eq_true, beq_iff_eq] at hcond
    split at h <;> try cases h
    rename_i l' m' hy
    obtain ⟨ti, d, hi, hd, hs, htdo, hagg, _, hzr, _, hinf, _⟩ := (hT t (TRow.ok_of_arr htd)).row
    rw [htd] at htdo
    have hd' : d = .array n e := htdo
    subst hd'
    obtain ⟨i', v, hi', hv, hR⟩ := zero_cells (μ := μ) (mem := mem) (sh := sh) (w := w) hT (TRow.ok_of_arr htd) hz
    rw [hi] at hi'
    cases hi'
    obtain ⟨ei, _, hei, _, hes, _⟩ := (hT e hcond.1).row
    obtain ⟨hR1, hR2⟩ := hR
    obtain ⟨cells, hf, hE, hl', _⟩ := fillL_ok ps parts.toList l l' m' v.cells hP hy hR2
    have hb : P.built t parts.toList = some cells := by
      unfold Program.built
      simp only [hi, hd, hv, hei, hes, ← hcond.2]
      exact hf
    exact ⟨.agg cells, run_build w t parts cells hb, _, h, cells.toList, ⟨hl'.trans hR1, hE⟩, by simp [AV.agg, Ty.agg]⟩
  · rename_i n e us htd hz
    obtain ⟨hcond, h⟩ := ite_some h
    simp only [Bool.and_eq_true, beq_iff_eq, List.all_eq_true] at hcond
    split at h <;> try cases h
    rename_i us' hy
    obtain ⟨ti, d, hi, hd, hs, htdo, hagg, _, hzr, _, hinf, _⟩ := (hT t (TRow.ok_of_arr htd)).row
    rw [htd] at htdo
    have hd' : d = .array n e := htdo
    subst hd'
    obtain ⟨i', v, hi', hv, hR⟩ := zero_cells (μ := μ) (mem := mem) (sh := sh) (w := w) hT (TRow.ok_of_arr htd) hz
    rw [hi] at hi'
    cases hi'
    obtain ⟨ei, _, hei, _, hes, _⟩ := (hT e hcond.1.1.1).row
    have key : ∀ (ps : List (Nat × AV)) (us us' : List AV), (∀ x ∈ us, x.size = 1) → fillR ps us = some us' → ∀ p ∈ ps, AV.offs us p.1 [] = p.1 ∧ p.2.size = 1 := by
      intro ps
      induction ps with
      | nil => intro _ _ _ _ p hp; simp at hp
      | cons q ps ih =>
        intro us us' h1 h2 p hp
        obtain ⟨i, a⟩ := q
        simp only [fillR] at h2
        split at h2 <;> try cases h2
        rename_i x' hx'
        have hok := AV.sets_okps us i _ x' hx'
        have hi : i < us.length := by
          clear ih h1 h2 hp
          induction us generalizing i x' with
          | nil => simp [AV.sets] at hx'
          | cons u us ih2 =>
            cases i with
            | zero => simp
            | succ i =>
              simp only [AV.sets, Option.map_eq_some_iff] at hx'
              obtain ⟨z, hz, _⟩ := hx'
              simpa using ih2 i z hz (by simpa [AV.okps] using hok)
        have hone := AV.offs_ones us i (by simpa using h1) hi
        have hlay : ∀ (us : List AV) (i : Nat) (x' : List AV), (∀ x ∈ us, x.size = 1) → AV.sets us i [] a = some x' → a.size = 1 ∧ ∀ x ∈ x', x.size = 1 := by
          intro us
          induction us with
          | nil => intro i x' _ hs; simp [AV.sets] at hs
          | cons u us ih2 =>
            intro i x' h1 hs
            cases i with
            | zero =>
              simp only [AV.sets, Option.map_eq_some_iff] at hs
              obtain ⟨z, hz, rfl⟩ := hs
              have hz' : (if u.lay a then some a else none) = some z := by cases u <;> exact hz
              split at hz' <;> cases hz'
              rename_i hla
              have := (AV.lay_same _ _ hla).1
              have hu := h1 u (by simp)
              refine ⟨by omega, fun x hx => ?_⟩
              rcases List.mem_cons.1 hx with rfl | hx
              · omega
              · exact h1 x (by simp [hx])
            | succ i =>
              simp only [AV.sets, Option.map_eq_some_iff] at hs
              obtain ⟨z, hz, rfl⟩ := hs
              obtain ⟨k1, k2⟩ := ih2 i z (fun x hx => h1 x (by simp [hx])) hz
              refine ⟨k1, fun x hx => ?_⟩
              rcases List.mem_cons.1 hx with rfl | hx
              · exact h1 _ (by simp)
              · exact k2 x hx
        obtain ⟨ha, hx1⟩ := hlay us i x' h1 hx'
        rcases List.mem_cons.1 hp with rfl | hp
        · exact ⟨hone.1, ha⟩
        · obtain ⟨k1, k2⟩ := ih x' us' hx1 h2 p hp
          refine ⟨?_, k2⟩
          have := (RCs_offs us i a x' hx' p.1)
          rw [this]; exact k1
    obtain ⟨cells, hf, hE⟩ := fillR_ok (place := fun i => some (i * 1, 1)) ps parts.toList us us' v.cells hP (fun p hp => by
      obtain ⟨k1, k2⟩ := key ps us us' hcond.1.2 hy p hp
      exact ⟨by rw [k1, k2, Nat.mul_one], hcond.2 p hp⟩) hy hR
    have hb : P.built t parts.toList = some cells := by
      unfold Program.built
      simp only [hi, hd, hv, hei, hes, hcond.1.1.2]
      exact hf
    exact ⟨.agg cells, run_build w t parts cells hb, _, h, cells.toList, hE, by simp [AV.agg]⟩
  · cases h
where
  RCs_offs : ∀ (us : List AV) (i : Nat) (a : AV) (x' : List AV), AV.sets us i [] a = some x' → ∀ j, AV.offs us j [] = AV.offs x' j []
    | [], _, _, _, hs, _ => by simp [AV.sets] at hs
    | u :: us, 0, a, x', hs, j => by
      simp only [AV.sets, Option.map_eq_some_iff] at hs
      obtain ⟨z, hz, rfl⟩ := hs
      have hz' : (if u.lay a then some a else none) = some z := by cases u <;> exact hz
      split at hz' <;> cases hz'
      rename_i hla
      have := AV.lay_same _ _ hla
      cases j <;> simp [AV.offs, AV.off_nil, this.1]
    | u :: us, i + 1, a, x', hs, j => by
      simp only [AV.sets, Option.map_eq_some_iff] at hs
      obtain ⟨z, hz, rfl⟩ := hs
      cases j with
      | zero => simp [AV.offs]
      | succ j => simp [AV.offs, RCs_offs us i a z hz j]

end
end Am

/- THE ABSTRACT MACHINE: slices. -/
namespace Am
open Go

section
variable {P : Program} {μ μ' : Mu} {mem mem' : Mem} {sh sh' : Nat → Prop} {w w' : World} {R : Type} {T : TypeId → TRow}

theorem asTy_ok {t : Ty} {v : AV} {xv : Value} {x : t.den} (hM : MemR μ mem sh w) (hv : RV μ mem sh w v xv) (h : asTy t v mem = some (x, mem')) :
    ∃ sh', MemR μ mem' sh' w ∧ Mv μ mem sh w μ mem' sh' w ∧ Enc sh' w t x xv.cells.toList := by
  unfold asTy at h
  split at h
  · rename_i s y
    simp only [Option.map_eq_some_iff] at h
    obtain ⟨z, hz, he⟩ := h
    cases he
    obtain ⟨rfl, rfl⟩ := Ty.cast_spec hz
    exact ⟨sh, hM, Mv.refl _ _ _ _, hv.cells rfl⟩
  · cases t <;> simp at h
    obtain ⟨rfl, rfl⟩ := h
    exact ⟨sh, hM, Mv.refl _ _ _ _, .inl ⟨hv.cells rfl, rfl⟩⟩
  · rename_i id
    cases t with
    | list s =>
      cases hb : mem[id]? with
      | none => simp [hb] at h
      | some b =>
        cases b with
        | list s' l =>
          simp only [hb, Option.map_eq_some_iff] at h
          obtain ⟨z, hz, he⟩ := h
          cases he
          obtain ⟨e, hz'⟩ := Ty.cast_spec hz
          cases e
          subst hz'
          obtain ⟨v', hv', hS⟩ := hv.cells rfl
          obtain ⟨sh', h1, h2, h3⟩ := hM.freeze hb hS
          exact ⟨sh', h1, h2, by rw [hv']; exact h3⟩
        | _ => simp [hb] at h
    | _ => simp at h
  · cases h

theorem fillLm_ok {s : Ty} : ∀ (ps : List (Nat × AV)) (vs : List (Nat × Value)) (l l' : List s.den) (mem mem' : Mem) (sh : Nat → Prop) (cells : Array Value), MemR μ mem sh w → PR μ mem sh w ps vs →
    fillL s ps l mem = some (l', mem') → EncL (Enc sh w s) l cells.toList →
    ∃ cells' sh', Instr.fill (fun i => some (i * s.size, s.size)) cells vs = some cells' ∧ EncL (Enc sh' w s) l' cells'.toList ∧ l'.length = l.length ∧
      MemR μ mem' sh' w ∧ Mv μ mem sh w μ mem' sh' w
  | [], vs, l, l', mem, mem', sh, cells, hM, hP, h, hE => by
    simp [PR] at hP
    simp [fillL] at h
    obtain ⟨rfl, rfl⟩ := h
    subst hP
    exact ⟨cells, sh, rfl, hE, rfl, hM, Mv.refl _ _ _ _⟩
  | (i, a) :: ps, vs, l, l', mem, mem', sh, cells, hM, hP, h, hE => by
    obtain ⟨v, rest, rfl, hv, hP'⟩ := hP
    simp only [fillL] at h
    split at h <;> try cases h
    rename_i hi
    split at h <;> try cases h
    rename_i x m hx
    obtain ⟨sh1, hM1, hV1, hxE⟩ := asTy_ok hM hv hx
    have hE1 := EncL.mono (Enc.keep hV1.keep s) _ _ hE
    have hL := EncL.length (Enc.length s) l _ hE1
    have hxl := Enc.length _ _ _ hxE
    have hS := EncL.set (Enc.length s) hxE l _ i hE1 hi
    have hm : i * s.size + s.size ≤ l.length * s.size := by
      rw [← Nat.succ_mul]; exact Nat.mul_le_mul_right _ hi
    simp only [Array.length_toList] at hL hxl
    obtain ⟨c', h1, h2, h3⟩ := fill_step (rest := rest) (place := fun i => some (i * s.size, s.size)) (cells := cells) (v := v) (i := i) rfl hxl (by omega)
    obtain ⟨c'', sh2, h4, h5, h6, h7, h8⟩ := fillLm_ok ps rest (l.set i x) l' m mem' sh1 c' hM1 (PR.ext hV1.ext hV1.keep ps rest hP') h (by rw [h2]; simp only [Array.length_toList, hxl]; exact hS)
    exact ⟨c'', sh2, h1.trans h4, h5, by simpa using h6, h7, hV1.trans h8⟩

theorem range_mod (z : Array Value) : ∀ n, ((Array.range (n * z.size)).map (z[· % z.size]!)).toList = (List.replicate n z.toList).flatten
  | 0 => by simp
  | n + 1 => by
    have ih := range_mod z n
    simp only [Array.toList_map, Array.toList_range] at ih ⊢
    rw [show (n + 1) * z.size = z.size + n * z.size from by rw [Nat.succ_mul, Nat.add_comm], List.range_add, List.map_append, List.replicate_succ, List.flatten_cons, ← ih]
    congr 1
    · apply List.ext_getElem
      · simp
      · intro i h1 h2
        simp at h1
        simp [Nat.mod_eq_of_lt h1, h1]
    · rw [List.map_map]
      apply List.map_congr_left
      intro i _
      simp

/-- A new list's block. -/
theorem new_list (hM : MemR μ mem sh w) {s : Ty} {l : List s.den} {cs : List Value} {c : Array Value} (e : TypeId) (cap : Nat) (hE : EncL (Enc sh w s) l cs) (hc : c.toList.take cs.length = cs)
    (hcap : cap * s.size ≤ c.size) (hl : l.length ≤ cap) {k : AV → Mem → Option R} {r : R} (h : k (.slice mem.length) (mem ++ [.list s l]) = some r) :
    Got k r μ mem sh w (.slice (some ⟨w.heap.size, 0, none⟩) l.length cap) (w.alloc (.cells c e)) := by
  have hnsh : ¬ sh w.heap.size := fun hs => Nat.lt_irrefl _ (hM.shl _ hs)
  obtain ⟨h1, h2⟩ := hM.push (w' := w.alloc (.cells c e)) (some (w.heap.size, c.size)) (.list s l) (by rw [heap_alloc]; omega)
    (fun g hg _ => heap_alloc_old w _ g hg)
    (fun g n hm => by
      cases hm
      refine ⟨by rw [heap_alloc]; omega, hnsh, ?_, .inr (Nat.le_refl _)⟩
      intro i k c _ _ hi
      exact Nat.lt_irrefl _ (hM.mul i _ k hi))
    (fun he hk => by
      refine .inr ⟨w.heap.size, c.size, c, e, cs, ?_, heap_alloc_new w _, rfl, EncL.mono (Enc.keep hk s) l cs hE, hc, hnsh⟩
      rw [← hM.len]; simp)
  refine ⟨_, _, _, _, h, RV.mk_atom ⟨_, rfl, ?_⟩ rfl, h1, h2⟩
  unfold SlR
  simp only [List.getElem?_concat_length]
  exact .inr ⟨w.heap.size, c.size, cap, by rw [← hM.len]; simp, rfl, hl, hcap⟩

theorem ite_none_some {α : Type} {c : Bool} {x : Option α} {r : α} (h : (if c = true then none else x) = some r) : c = false ∧ x = some r := by
  cases c
  · exact ⟨rfl, by simpa using h⟩
  · simp at h

theorem Got.after {k : AV → Mem → Option R} {r : R} {v : Value} (hv : Mv μ mem sh w μ' mem' sh' w') {w'' : World} (h : Got k r μ' mem' sh' w' v w'') : Got k r μ mem sh w v w'' := by
  obtain ⟨a, m, μ2, s2, h1, h2, h3, h4⟩ := h
  exact ⟨a, m, μ2, s2, h1, h2, h3, hv.trans h4⟩

theorem buildSlice_ok (hT : TOk P T) {t : TypeId} {n : Nat} {ps : List (Nat × AV)} {parts : Array (Nat × Value)} {k : AV → Mem → Option R} {r : R} (hM : MemR μ mem sh w) (hP : PR μ mem sh w ps parts.toList)
    (h : buildSliceK T t n ps mem k = some r) : ∃ v w', (Instr.buildSlice t n parts).run P w = .ok v w' ∧ Got k r μ mem sh w v w' := by
  unfold buildSliceK at h
  split at h <;> try cases h
  rename_i e htd
  split at h <;> try cases h
  rename_i s hty
  obtain ⟨hcond, h⟩ := ite_none_some h
  simp only [Bool.or_eq_false_iff, Bool.not_eq_false', decide_eq_true_eq] at hcond
  split at h <;> try cases h
  rename_i l' m' hf
  obtain ⟨ti, d, hi, hd, hs, htdo, _⟩ := (hT t (TRow.ok_of_slice htd)).row
  rw [htd] at htdo
  have hd' : d = .slice e := htdo
  subst hd'
  obtain ⟨ei, ed, hei, hed, hes, _, _, _, _, hzt, _⟩ := (hT e hcond.1).row
  obtain ⟨hss, _, zv, hzv, hzc⟩ := hzt s hty
  have hlen : s.zc.length = s.size := by
    have := Ty.enc_dflt sh w s
    exact Enc.length _ _ _ this
  have hzs : zv.cells.size = s.size := by rw [← hlen, ← hzc]; simp
  have hbase : EncL (Enc sh w s) (List.replicate n s.dflt) ((Array.range (n * s.size)).map (zv.cells[· % zv.cells.size]!)).toList := by
    have := range_mod zv.cells n
    rw [hzs] at this ⊢
    rw [this, hzc]
    exact EncL.replicate (Ty.enc_dflt sh w s) n
  obtain ⟨cells, sh1, hfill, hE, hl, hM1, hV1⟩ := fillLm_ok (w := w) ps parts.toList _ l' mem m' sh _ hM hP hf hbase
  have hn : l'.length = n := by rw [hl]; simp
  have hcl := EncL.length (Enc.length s) l' _ hE
  simp only [Array.length_toList, hn] at hcl
  have hG := new_list hM1 (c := cells) e n hE List.take_length (by omega) (by omega) h
  rw [hn] at hG
  refine ⟨_, _, ?_, Got.after hV1 hG⟩
  have h24 : ¬ (n * ei.size > 2 ^ 24) := by rw [hes, ← hss]; have := hcond.2; omega
  have hsz : ei.size = s.size := by rw [hes, ← hss]
  by_cases h0 : n * ei.size = 0
  · have hr : ∀ f : Nat → Value, (Array.range 0).map f = #[] := fun f => by apply Array.ext'; simp
    have hfill' : Instr.fill (fun i => some (i * ei.size, ei.size)) #[] parts.toList = some cells := by
      rw [hsz] at h0 ⊢
      rw [h0, hr] at hfill
      exact hfill
    simp only [Instr.buildSlice, Sem.run_bind, run_underlying hd, Result.andThen_ok, sizeOf_run hei, if_neg h24, h0, if_true, Sem.run_pure, hr, hfill']
    simp [newRow]
  · simp only [Instr.buildSlice, Sem.run_bind, run_underlying hd, Result.andThen_ok, sizeOf_run hei, if_neg h24, if_neg h0, Sem.run_pure, zeroValue, typeInfo, run_program, hei, hzv]
    rw [hsz]
    simp [hfill, newRow]

theorem slice_str_ok (hT : TOk P T) {t : TypeId} (htd : (T t).td = .str) {s : ByteArray} {lo hi : Int} {k1 k2 : IntKind} {lo' hi' : Option Value} {k : AV → Option R} {r : R}
    (hlo : lo' = some (.int k1 lo) ∨ (lo' = none ∧ lo = 0)) (hhi : hi' = some (.int k2 hi) ∨ (hi' = none ∧ hi = s.size))
    (h : sliceStrK s lo hi k = some r) : Pure1 P (Instr.sliceAt t (.string s) lo' hi' none) k r μ mem sh w := by
  obtain ⟨ti, d, hti, hd, hs, htdo, _⟩ := (hT t (TRow.ok_of_str htd)).row
  rw [htd] at htdo
  have hd' : d = .string := htdo
  subst hd'
  unfold sliceStrK at h
  obtain ⟨h1, h⟩ := cond_some h
  obtain ⟨h2, h⟩ := cond_some h
  simp only [Bool.and_eq_true, decide_eq_true_eq] at h1 h2
  refine ⟨_, ?_, _, h, RV.str.2 rfl⟩
  have hhn : ((hi.toNat : Nat) : Int) = hi := Int.toNat_of_nonneg h1.1
  rcases hlo with rfl | ⟨rfl, rfl⟩ <;> rcases hhi with rfl | ⟨rfl, rfl⟩ <;>
    simp [Instr.sliceAt, Instr.slice, Instr.sliceBounds, Instr.sliceBound, asIntOf, run_underlying hd, h1, h2, hhn] <;> omega

end
end Am

/- THE ABSTRACT MACHINE: equality, numbers, texts. -/
namespace Am
open Go

section
variable {P : Program} {μ μ' : Mu} {mem mem' : Mem} {sh sh' : Nat → Prop} {w w' : World} {R : Type} {T : TypeId → TRow}

/-- A value of plain data out of its cells. -/
def ofCells (s : Ty) (cs : List Value) : Value := if s.agg then .agg cs.toArray else cs.headD undef

theorem part_val {ty : TypeId} {i : TypeInfo} {d : TypeDesc} {s : Ty} (hi : P.info? ty = some i) (hu : P.underlying ty = some d) (hs : i.size = s.size) (ha : aggDesc d = s.agg)
    {c : Array Value} {o : Nat} {x : s.den} (hE : Enc sh w s x ((c.toList.drop o).take s.size)) (w' : World) :
    (part ty c o).run P w' = .ok (ofCells s ((c.toList.drop o).take s.size)) w' := by
  have hl := Enc.length _ _ _ hE
  have := run_part (P := P) (w := w') hi hu (c := c) (o := o) (cs := (c.toList.drop o).take s.size) (by rw [hs]) (by rw [hl, hs]) (fun h0 => by rw [hs]; exact (Ty.atom_okp (by rw [← ha]; exact h0) []).2.2)
  rw [this, ofCells, ha]

mutual
theorem equalIn_ok : ∀ (s : Ty) (t : TypeId) (d : Nat) (x y : s.den) (cs ds : List Value) (w' : World), EqOk P t s → s.rank ≤ d → Enc sh w s x cs → Enc sh w s y ds →
    (Op.equalIn d t (ofCells s cs) (ofCells s ds)).run P w' = .ok (s.beq x y) w'
  | .int k, t, d, x, y, cs, ds, w', he, hd, hx, hy => by
    obtain ⟨d, rfl⟩ : ∃ m, d = m + 1 := ⟨d - 1, by simp [Ty.rank] at hd; omega⟩
    simp only [Enc] at hx hy
    subst hx hy
    simp only [EqOk] at he
    simp [ofCells, Ty.agg, run_equalIn_int w' d t k k x y he, Ty.beq]
  | .bool, t, d, x, y, cs, ds, w', he, hd, hx, hy => by
    obtain ⟨d, rfl⟩ : ∃ m, d = m + 1 := ⟨d - 1, by simp [Ty.rank] at hd; omega⟩
    simp only [Enc] at hx hy
    subst hx hy
    simp only [EqOk] at he
    simp [ofCells, Ty.agg, run_equalIn_bool' w' d t x y he, Ty.beq]
  | .str, t, d, x, y, cs, ds, w', he, hd, hx, hy => by
    obtain ⟨d, rfl⟩ : ∃ m, d = m + 1 := ⟨d - 1, by simp [Ty.rank] at hd; omega⟩
    simp only [Enc] at hx hy
    subst hx hy
    simp only [EqOk] at he
    simp [ofCells, Ty.agg, run_equalIn_string w' d t x y he, Ty.beq, beq_toListBytes]
  | .list s, t, d, x, y, cs, ds, w', he, hd, hx, hy => by simp [EqOk] at he
  | .unit, t, d, x, y, cs, ds, w', he, hd, hx, hy => by
    obtain ⟨d, rfl⟩ : ∃ m, d = m + 1 := ⟨d - 1, by simp [Ty.rank] at hd; omega⟩
    simp only [EqOk] at he
    obtain ⟨fs, h1, h2, h3⟩ := he
    have hf : P.fieldsOf t = fs := by simp [Program.fieldsOf, h1]
    simp only [ofCells, Ty.agg, if_true]
    rw [run_equalIn_struct w' d t _ _ (by rw [hf]; exact h1) h2, hf]
    cases hfs : fs.toList with
    | nil => simp [Op.eqFields, Ty.beq]
    | cons f l => rw [hfs] at h3; simp [EqFs] at h3
  | .pair a b, t, d, x, y, cs, ds, w', he, hd, hx, hy => by
    obtain ⟨d, rfl⟩ : ∃ m, d = m + 1 := ⟨d - 1, by simp [Ty.rank] at hd; omega⟩
    simp only [EqOk] at he
    obtain ⟨fs, h1, h2, h3⟩ := he
    have hf : P.fieldsOf t = fs := by simp [Program.fieldsOf, h1]
    simp only [ofCells, Ty.agg, if_true]
    rw [run_equalIn_struct w' d t _ _ (by rw [hf]; exact h1) h2, hf]
    cases hfs : fs.toList with
    | nil => rw [hfs] at h3; simp [EqFs] at h3
    | cons f l =>
      rw [hfs] at h3
      simp only [EqFs] at h3
      obtain ⟨k1, k2, ⟨i, dd, k3, k4, k5, k6⟩, k7, k8⟩ := h3
      obtain ⟨c1, c2, rfl, hc1, hc2⟩ := hx
      obtain ⟨d1, d2, rfl, hd1, hd2⟩ := hy
      have lc := Enc.length _ _ _ hc1
      have ld := Enc.length _ _ _ hd1
      simp only [Ty.rank] at hd
      have p1 := part_val (P := P) (sh := sh) (w := w) k3 k5 k4 k6 (c := (c1 ++ c2).toArray) (o := 0) (x := x.1) (by simpa [← lc] using hc1) w'
      have p2 := part_val (P := P) (sh := sh) (w := w) k3 k5 k4 k6 (c := (d1 ++ d2).toArray) (o := 0) (x := y.1) (by simpa [← ld] using hd1) w'
      have ih := equalIn_ok a f.type d x.1 y.1 c1 d1 w' k7 (by omega) hc1 hd1
      have ih2 := eqFields_ok b l d a.size x.2 y.2 (c1 ++ c2).toArray (d1 ++ d2).toArray w' (by simpa using k8) (by omega)
        (by rw [List.drop_left' lc]; have := Enc.length _ _ _ hc2; rw [List.take_of_length_le (by omega)]; exact hc2)
        (by rw [List.drop_left' ld]; have := Enc.length _ _ _ hd2; rw [List.take_of_length_le (by omega)]; exact hd2)
      have e1 : ((c1 ++ c2).toArray.toList.drop 0).take a.size = c1 := by simp [← lc]
      have e2 : ((d1 ++ d2).toArray.toList.drop 0).take a.size = d1 := by simp [← ld]
      rw [e1] at p1
      rw [e2] at p2
      simp only [Op.eqFields, if_pos k1, k2, Sem.run_bind, p1, p2, Result.andThen_ok, ih, Ty.beq]
      cases a.beq x.1 y.1 with
      | false => simp
      | true => simpa using ih2
  | .arr n s, t, d, x, y, cs, ds, w', he, hd, hx, hy => by
    obtain ⟨d, rfl⟩ : ∃ m, d = m + 1 := ⟨d - 1, by simp [Ty.rank] at hd; omega⟩
    simp only [EqOk] at he
    obtain ⟨e, i, dd, h1, h2, h3, h4, h5, h6⟩ := he
    simp only [ofCells, Ty.agg, if_true]
    have hce : P.cellsOf e = s.size := by simp [Program.cellsOf, h2, h3]
    rw [run_equalIn_array w' d _ _ h1 h2, hce]
    obtain ⟨hx1, hx2⟩ := hx
    obtain ⟨hy1, hy2⟩ := hy
    simp only [Ty.rank] at hd
    have key : ∀ (l m : List s.den) (o : Nat) (pre pre' : List Value) (cl dl : List Value), l.length = m.length → EncL (Enc sh w s) l cl → EncL (Enc sh w s) m dl → pre.length = o * s.size → pre'.length = o * s.size →
        (Op.eqItems d e s.size (pre ++ cl).toArray (pre' ++ dl).toArray (List.range' o l.length)).run P w' = .ok (beqL s.beq l m) w' := by
      intro l
      induction l with
      | nil =>
        intro m o pre pre' cl dl hlm _ _ _ _
        have : m = [] := by
          cases m with
          | nil => rfl
          | cons => simp at hlm
        subst this
        simp [Op.eqItems, beqL]
      | cons a l ih =>
        intro m o pre pre' cl dl hlm hl hm hp hp'
        cases m with
        | nil => simp at hlm
        | cons b m =>
          obtain ⟨c1, c2, rfl, hc1, hc2⟩ := hl
          obtain ⟨d1, d2, rfl, hd1, hd2⟩ := hm
          have lc := Enc.length _ _ _ hc1
          have ld := Enc.length _ _ _ hd1
          have e1 : (((pre ++ (c1 ++ c2)).toArray.toList.drop (o * s.size)).take s.size) = c1 := by
            show ((pre ++ (c1 ++ c2)).drop (o * s.size)).take s.size = c1
            rw [List.drop_left' hp, List.take_left' lc]
          have e2 : (((pre' ++ (d1 ++ d2)).toArray.toList.drop (o * s.size)).take s.size) = d1 := by
            show ((pre' ++ (d1 ++ d2)).drop (o * s.size)).take s.size = d1
            rw [List.drop_left' hp', List.take_left' ld]
          have p1 := part_val (P := P) (sh := sh) (w := w) h2 h4 h3 h5 (c := (pre ++ (c1 ++ c2)).toArray) (o := o * s.size) (x := a) (by rw [e1]; exact hc1) w'
          have p2 := part_val (P := P) (sh := sh) (w := w) h2 h4 h3 h5 (c := (pre' ++ (d1 ++ d2)).toArray) (o := o * s.size) (x := b) (by rw [e2]; exact hd1) w'
          rw [e1] at p1
          rw [e2] at p2
          have ihe := equalIn_ok s e d a b c1 d1 w' h6 (by omega) hc1 hd1
          have ih' := ih m (o + 1) (pre ++ c1) (pre' ++ d1) c2 d2 (by simpa using hlm) hc2 hd2 (by rw [List.length_append, hp, lc, Nat.succ_mul]) (by rw [List.length_append, hp', ld, Nat.succ_mul])
          simp only [List.append_assoc] at ih'
          rw [List.length_cons, List.range'_succ]
          simp only [Op.eqItems, Sem.run_bind, p1, p2, Result.andThen_ok, ihe, beqL]
          cases s.beq a b with
          | false => simp
          | true => simpa using ih'
    have := key x y 0 [] [] cs ds (by rw [hx1, hy1]) hx2 hy2 (by simp) (by simp)
    rw [hx1] at this
    simpa [List.range_eq_range', Ty.beq] using this
theorem eqFields_ok : ∀ (s : Ty) (fs : List Field) (d off : Nat) (x y : s.den) (xs ys : Array Value) (w' : World), EqFs P fs off s → s.rank ≤ d + 1 →
    Enc sh w s x ((xs.toList.drop off).take s.size) → Enc sh w s y ((ys.toList.drop off).take s.size) → (Op.eqFields d xs ys fs).run P w' = .ok (s.beq x y) w'
  | .unit, fs, d, off, x, y, xs, ys, w', he, hd, hx, hy => by
    cases fs with
    | nil => simp [Op.eqFields, Ty.beq]
    | cons f l => simp [EqFs] at he
  | .pair a b, fs, d, off, x, y, xs, ys, w', he, hd, hx, hy => by
    cases fs with
    | nil => simp [EqFs] at he
    | cons f l =>
      simp only [EqFs] at he
      obtain ⟨k1, k2, ⟨i, dd, k3, k4, k5, k6⟩, k7, k8⟩ := he
      obtain ⟨c1, c2, e1, hc1, hc2⟩ := hx
      obtain ⟨d1, d2, e2, hd1, hd2⟩ := hy
      have lc := Enc.length _ _ _ hc1
      have ld := Enc.length _ _ _ hd1
      have lc2 := Enc.length _ _ _ hc2
      have ld2 := Enc.length _ _ _ hd2
      simp only [Ty.rank] at hd
      simp only [Ty.size] at e1 e2
      have f1 : (xs.toList.drop off).take a.size = c1 := by
        have := congrArg (List.take a.size) e1
        rw [List.take_take, Nat.min_eq_left (by omega), List.take_left' lc] at this
        exact this
      have f2 : (ys.toList.drop off).take a.size = d1 := by
        have := congrArg (List.take a.size) e2
        rw [List.take_take, Nat.min_eq_left (by omega), List.take_left' ld] at this
        exact this
      have g1 : (xs.toList.drop (off + a.size)).take b.size = c2 := by
        have := congrArg (List.drop a.size) e1
        rw [List.drop_take, List.drop_drop, List.drop_left' lc, show a.size + b.size - a.size = b.size from by omega] at this
        exact this
      have g2 : (ys.toList.drop (off + a.size)).take b.size = d2 := by
        have := congrArg (List.drop a.size) e2
        rw [List.drop_take, List.drop_drop, List.drop_left' ld, show a.size + b.size - a.size = b.size from by omega] at this
        exact this
      have p1 := part_val (P := P) (sh := sh) (w := w) k3 k5 k4 k6 (c := xs) (o := off) (x := x.1) (by rw [f1]; exact hc1) w'
      have p2 := part_val (P := P) (sh := sh) (w := w) k3 k5 k4 k6 (c := ys) (o := off) (x := y.1) (by rw [f2]; exact hd1) w'
      rw [f1] at p1
      rw [f2] at p2
      have ih := equalIn_ok a f.type d x.1 y.1 c1 d1 w' k7 (by omega) hc1 hd1
      have ih2 := eqFields_ok b l d (off + a.size) x.2 y.2 xs ys w' k8 (by omega) (by rw [g1]; exact hc2) (by rw [g2]; exact hd2)
      simp only [Op.eqFields, if_pos k1, k2, Sem.run_bind, p1, p2, Result.andThen_ok, ih, Ty.beq]
      cases a.beq x.1 y.1 with
      | false => simp
      | true => simpa using ih2
  | .int _, fs, d, off, x, y, xs, ys, w', he, _, _, _ | .bool, fs, d, off, x, y, xs, ys, w', he, _, _, _ | .str, fs, d, off, x, y, xs, ys, w', he, _, _, _
  | .list _, fs, d, off, x, y, xs, ys, w', he, _, _, _ | .arr _ _, fs, d, off, x, y, xs, ys, w', he, _, _, _ => by cases fs <;> simp [EqFs] at he
end

end
end Am

/- THE ABSTRACT MACHINE: operations on numbers and texts; lengths. -/
namespace Am
open Go

section
variable {P : Program} {μ μ' : Mu} {mem mem' : Mem} {sh sh' : Nat → Prop} {w w' : World} {R : Type} {T : TypeId → TRow}

theorem cond_none {α : Type} {c : Bool} {x : Option α} {r : α} (h : cond c none x = some r) : c = false ∧ x = some r := by
  cases c
  · exact ⟨rfl, h⟩
  · simp at h

theorem guard_scalar (op : BinOp) (t : TypeId) (x y : Operand) (a b : Value) (h : ∀ cs, a ≠ .agg cs) (h' : a ≠ .nilIface) : (eqGuard op t x y a b).run P w = .ok () w := by
  unfold eqGuard
  cases op <;> simp <;> cases a <;> simp_all

theorem intK_ok {op : BinOp} {k : IntKind} {a b : Int} {K : AV → Option R} {r : R} (t : TypeId) (hop : op ≠ .shl ∧ op ≠ .shr)
    (h : intK op k a b K = some r) : Pure1 P (binOp op t (.int k a) (.int k b)) K r μ mem sh w := by
  unfold intK at h
  cases op <;> simp at hop <;> simp only at h
  case add => exact ⟨_, by simp [binOp, Op.intArith], _, h, RV.int.2 rfl⟩
  case sub => exact ⟨_, by simp [binOp, Op.intArith], _, h, RV.int.2 rfl⟩
  case mul => exact ⟨_, by simp [binOp, Op.intArith], _, h, RV.int.2 rfl⟩
  case quo =>
    obtain ⟨hb, h⟩ := cond_none h
    simp only [beq_eq_false_iff_ne] at hb
    exact ⟨_, by simp [binOp, Op.intDiv, hb], _, h, RV.int.2 rfl⟩
  case rem =>
    obtain ⟨hb, h⟩ := cond_none h
    simp only [beq_eq_false_iff_ne] at hb
    exact ⟨_, by simp [binOp, Op.intDiv, hb], _, h, RV.int.2 rfl⟩
  case and => exact ⟨_, by simp only [binOp, Op.intBits, ne_eq, not_true_eq_false, if_false]; rfl, _, h, RV.int.2 rfl⟩
  case or => exact ⟨_, by simp only [binOp, Op.intBits, ne_eq, not_true_eq_false, if_false]; rfl, _, h, RV.int.2 rfl⟩
  case xor => exact ⟨_, by simp only [binOp, Op.intBits, ne_eq, not_true_eq_false, if_false]; rfl, _, h, RV.int.2 rfl⟩
  case andNot => exact ⟨_, by simp only [binOp, Op.intBits, ne_eq, not_true_eq_false, if_false]; rfl, _, h, RV.int.2 rfl⟩
  case eql => exact ⟨_, by simp only [binOp, Op.intCmp, ne_eq, not_true_eq_false, if_false]; rfl, _, h, RV.bool.2 rfl⟩
  case neq => exact ⟨_, by simp only [binOp, Op.intCmp, ne_eq, not_true_eq_false, if_false]; rfl, _, h, RV.bool.2 rfl⟩
  case lss => exact ⟨_, by simp only [binOp, Op.intCmp, ne_eq, not_true_eq_false, if_false]; rfl, _, h, RV.bool.2 rfl⟩
  case leq => exact ⟨_, by simp only [binOp, Op.intCmp, ne_eq, not_true_eq_false, if_false]; rfl, _, h, RV.bool.2 rfl⟩
  case gtr => exact ⟨_, by simp only [binOp, Op.intCmp, ne_eq, not_true_eq_false, if_false]; rfl, _, h, RV.bool.2 rfl⟩
  case geq => exact ⟨_, by simp only [binOp, Op.intCmp, ne_eq, not_true_eq_false, if_false]; rfl, _, h, RV.bool.2 rfl⟩

theorem strK_ok {op : BinOp} {a b : ByteArray} {K : AV → Option R} {r : R} (t : TypeId)
    (h : strK op a b K = some r) : Pure1 P (binOp op t (.string a) (.string b)) K r μ mem sh w := by
  unfold strK at h
  cases op <;> simp only at h <;> try cases h
  case add =>
    obtain ⟨hb, h⟩ := cond_some h
    simp only [decide_eq_true_eq] at hb
    have : ¬ (((a.size + b.size : Nat) : Int) > IntKind.i64.max) := by
      have : IntKind.i64.max = 9223372036854775807 := by decide
      omega
    exact ⟨_, by simp only [binOp, Op.stringOp, if_neg this]; rfl, _, h, RV.str.2 rfl⟩
  case eql => exact ⟨_, by simp only [binOp, Op.stringOp]; rfl, _, h, RV.bool.2 rfl⟩
  case neq => exact ⟨_, by simp only [binOp, Op.stringOp]; rfl, _, h, RV.bool.2 rfl⟩

theorem eqK_ok (hT : TOk P T) {t : TypeId} {neg : Bool} {a b : AV} {x y : Value} {K : AV → Option R} {r : R} (o1 o2 : Operand) (ha : RV μ mem sh w a x) (hb : RV μ mem sh w b y)
    (h : eqK (T t) neg a b K = some r) : Pure1 P (do eqGuard (if neg then .neq else .eql) t o1 o2 x y; binOp (if neg then .neq else .eql) t x y) K r μ mem sh w := by
  unfold eqK at h
  split at h
  · rename_i s u s' v
    obtain ⟨hc, h2⟩ := ite_some h
    clear h
    simp only [Bool.and_eq_true, decide_eq_true_eq] at hc
    split at h2 <;> try cases h2
    rename_i z hz
    obtain ⟨e, hz2⟩ := Ty.cast_spec hz
    subst e
    simp only at hz2
    subst hz2
    obtain ⟨i, d, hi, hd, hs, _, _, _, _, _, _, heq⟩ := (hT t hc.1.1.1).row
    obtain ⟨hg, s2, hs2, hE⟩ := heq hc.1.1.2
    rw [hc.1.2] at hs2
    cases hs2
    obtain ⟨cs, hcs0, hx⟩ := ha
    obtain ⟨ds, hds0, hy⟩ := hb
    have hcs : Enc sh w s' u cs := hcs0
    have hds : Enc sh w s' z ds := hds0
    clear hcs0 hds0
    have hxo : x = ofCells s' cs := by
      unfold ofCells
      simp only [AV.agg] at hx
      cases hsa : s'.agg <;> simp [hsa] at hx ⊢
      · subst hx; rfl
      · exact hx
    have hyo : y = ofCells s' ds := by
      unfold ofCells
      simp only [AV.agg] at hy
      cases hsa : s'.agg <;> simp [hsa] at hy ⊢
      · subst hy; rfl
      · exact hy
    have hq := equalIn_ok (P := P) s' t 10000 u z cs ds w hE (by have := hc.2; omega) hcs hds
    rw [← hxo, ← hyo] at hq
    have hag : s'.agg = true → ∃ c d, x = .agg c ∧ y = .agg d := by
      intro h0
      simp only [AV.agg, h0, if_true] at hx hy
      exact ⟨_, _, hx, hy⟩
    refine ⟨_, ?_, _, h2, RV.bool.2 rfl⟩
    cases hsa : s'.agg with
    | true =>
      obtain ⟨c, d, rfl, rfl⟩ := hag hsa
      cases neg
      · simp only [Bool.false_eq_true, if_false, Sem.run_bind, run_eqGuard_agg w _ t o1 o2 c d hg, Result.andThen_ok, run_eql_struct, hq]
      · simp only [if_true, Sem.run_bind, run_eqGuard_agg w _ t o1 o2 c d hg, Result.andThen_ok, run_neq_struct, hq]
    | false =>
      have hgs : ∀ op, (eqGuard op t o1 o2 x y).run P w = .ok () w := by
        intro op
        apply guard_scalar
        · intro cs' he
          rw [hxo] at he
          cases s' <;> simp [Ty.agg] at hsa <;> simp only [EqOk] at hE <;> simp [Enc] at hcs <;> simp [ofCells, Ty.agg, hcs] at he
        · intro he
          rw [hxo] at he
          cases s' <;> simp [Ty.agg] at hsa <;> simp only [EqOk] at hE <;> simp [Enc] at hcs <;> simp [ofCells, Ty.agg, hcs] at he
      cases s' with
      | int k =>
        simp only [Enc] at hcs hds
        subst hcs hds
        simp only [ofCells, Ty.agg, Bool.false_eq_true, if_false, List.headD_cons] at hxo hyo
        subst hxo hyo
        cases neg
        · simp only [Bool.false_eq_true, if_false, Sem.run_bind, hgs, Result.andThen_ok, binOp, Op.intCmp, ne_eq, not_true_eq_false]
          rfl
        · simp only [if_true, Sem.run_bind, hgs, Result.andThen_ok, binOp, Op.intCmp, ne_eq, not_true_eq_false, if_false]
          rfl
      | bool =>
        simp only [Enc] at hcs hds
        subst hcs hds
        simp only [ofCells, Ty.agg, Bool.false_eq_true, if_false, List.headD_cons] at hxo hyo
        subst hxo hyo
        have hq' : (Op.equal t (.bool u) (.bool z)).run P w = .ok (Ty.beq .bool u z) w := hq
        cases neg
        · simp only [Bool.false_eq_true, if_false, Sem.run_bind, hgs, Result.andThen_ok, binOp, hq', Sem.run_pure]
        · simp only [if_true, Sem.run_bind, hgs, Result.andThen_ok, binOp, hq', Sem.run_pure]
      | str =>
        simp only [Enc] at hcs hds
        subst hcs hds
        simp only [ofCells, Ty.agg, Bool.false_eq_true, if_false, List.headD_cons] at hxo hyo
        subst hxo hyo
        have hb : (Ty.beq .str u z) = ((u : ByteArray).toList == (z : ByteArray).toList) := beq_toListBytes u z
        cases neg
        · simp only [Bool.false_eq_true, if_false, Sem.run_bind, hgs, Result.andThen_ok, binOp, Op.stringOp, hb]
          rfl
        · simp only [if_true, Sem.run_bind, hgs, Result.andThen_ok, binOp, Op.stringOp, hb]
          rfl
      | list s => simp [EqOk] at hE
      | _ => simp [Ty.agg] at hsa
  · split at h <;> try cases h
    rename_i htd
    have hok : (T t).ok = true := by simp [TRow.ok, htd]
    obtain ⟨i, d, hi, hd, hs, htdo, _⟩ := (hT t hok).row
    rw [htd] at htdo
    obtain ⟨e, rfl⟩ := htdo
    have hx : x = .pointer none := by have := ha.atom rfl; simpa [RC] using this
    have hy : y = .pointer none := by have := hb.atom rfl; simpa [RC] using this
    subst hx hy
    have hpt : P.underlying t = some (.pointer (P.pointee t)) := by simp [Program.pointee, hd]
    refine ⟨_, ?_, _, h, RV.bool.2 rfl⟩
    have hgs : ∀ op, (eqGuard op t o1 o2 (.pointer none) (.pointer none)).run P w = .ok () w := fun op => guard_scalar op t o1 o2 _ _ (by simp) (by simp)
    cases neg
    · simp only [Bool.false_eq_true, if_false, Sem.run_bind, hgs, Result.andThen_ok, run_eql_pointer_nil w t none hpt]; rfl
    · simp only [if_true, Sem.run_bind, hgs, Result.andThen_ok, run_neq_pointer_nil w t none hpt]; rfl
  · split at h <;> try cases h
    rename_i id p htd
    have hok : (T t).ok = true := by simp [TRow.ok, htd]
    obtain ⟨i, d, hi, hd, hs, htdo, _⟩ := (hT t hok).row
    rw [htd] at htdo
    obtain ⟨e, rfl⟩ := htdo
    have hy : y = .pointer none := by have := hb.atom rfl; simpa [RC] using this
    have hpt : P.underlying t = some (.pointer (P.pointee t)) := by simp [Program.pointee, hd]
    obtain ⟨a, rfl⟩ := (RV.ptr.1 ha).pointer
    subst hy
    refine ⟨_, ?_, _, h, RV.bool.2 rfl⟩
    have hgs : ∀ op, (eqGuard op t o1 o2 (.pointer (some a)) (.pointer none)).run P w = .ok () w := fun op => guard_scalar op t o1 o2 _ _ (by simp) (by simp)
    cases neg
    · simp only [Bool.false_eq_true, if_false, Sem.run_bind, hgs, Result.andThen_ok, run_eql_pointer_nil w t _ hpt]; rfl
    · simp only [if_true, Sem.run_bind, hgs, Result.andThen_ok, run_neq_pointer_nil w t _ hpt]; rfl
  · cases h

end
end Am

/- THE ABSTRACT MACHINE: the other operations: shifts, lengths, conversions, ranges of texts, append. -/
namespace Am
open Go

section
variable {P : Program} {μ μ' : Mu} {mem mem' : Mem} {sh sh' : Nat → Prop} {w w' : World} {R : Type} {T : TypeId → TRow}

theorem bin_ok (hT : TOk P T) {op : BinOp} {t : TypeId} {a b : AV} {x y : Value} {K : AV → Option R} {r : R} (o1 o2 : Operand) (ha : RV μ mem sh w a x) (hb : RV μ mem sh w b y)
    (h : binK (T t) op a b K = some r) : Pure1 P (do eqGuard op t o1 o2 x y; binOp op t x y) K r μ mem sh w := by
  have lift : ∀ {s : Sem Value}, (eqGuard op t o1 o2 x y).run P w = .ok () w → Pure1 P s K r μ mem sh w → Pure1 P (do eqGuard op t o1 o2 x y; s) K r μ mem sh w := by
    rintro s hg ⟨v, hv, hr⟩
    exact ⟨v, by simp only [Sem.run_bind, hg, Result.andThen_ok, hv], hr⟩
  unfold binK at h
  split at h
  · rename_i k m k' n
    have hx := RV.int.1 ha
    have hy := RV.int.1 hb
    subst hx hy
    have hg := guard_scalar (P := P) (w := w) op t o1 o2 (.int k m) (.int k' n) (by simp) (by simp)
    apply lift hg
    split at h
    · obtain ⟨hb, h⟩ := cond_none h
      simp only [decide_eq_false_iff_not] at hb
      exact ⟨_, by simp only [binOp, Op.shift, if_neg hb]; rfl, _, h, RV.int.2 rfl⟩
    · obtain ⟨hb, h⟩ := cond_none h
      simp only [decide_eq_false_iff_not] at hb
      exact ⟨_, by simp only [binOp, Op.shift, if_neg hb]; rfl, _, h, RV.int.2 rfl⟩
    · split at h <;> try cases h
      rename_i hk
      subst hk
      rename_i h1 h2
      exact intK_ok t ⟨h1, h2⟩ h
  · rename_i m n
    have hx := RV.str.1 ha
    have hy := RV.str.1 hb
    subst hx hy
    exact lift (guard_scalar op t o1 o2 _ _ (by simp) (by simp)) (strK_ok t h)
  · split at h <;> try cases h
    · exact eqK_ok (neg := false) hT o1 o2 ha hb h
    · exact eqK_ok (neg := true) hT o1 o2 ha hb h

theorem un_ok {op : UnOp} {a : AV} {x : Value} {K : AV → Option R} {r : R} (ha : RV μ mem sh w a x)
    (h : unK op a K = some r) : Pure1 P (Op.unary op x) K r μ mem sh w := by
  unfold unK at h
  split at h <;> try cases h
  · have hx := RV.int.1 ha
    subst hx
    exact ⟨_, by simp only [Op.unary, Op.intArith]; rfl, _, h, RV.int.2 rfl⟩
  · have hx := RV.int.1 ha
    subst hx
    exact ⟨_, by simp only [Op.unary, Op.intBits]; rfl, _, h, RV.int.2 rfl⟩
  · have hx := RV.bool.1 ha
    subst hx
    exact ⟨_, by simp only [Op.unary]; rfl, _, h, RV.bool.2 rfl⟩

theorem max_ok {a b : AV} {x y : Value} {K : AV → Option R} {r : R} (ts : Array TypeId) (t : TypeId) (ha : RV μ mem sh w a x) (hb : RV μ mem sh w b y)
    (h : maxK a b K = some r) : Pure1 P (Builtin.max_ ts t #[x, y]) K r μ mem sh w := by
  unfold maxK at h
  split at h <;> try cases h
  have hx := RV.int.1 ha
  have hy := RV.int.1 hb
  subst hx hy
  exact ⟨_, by simp [Builtin.max_, Builtin.max2], _, h, RV.int.2 rfl⟩

theorem TRow.ok_slice {r : TRow} {e : TypeId} (h : r.td = .slice e) : r.ok = true := by simp [TRow.ok, h]

theorem len_ok (hT : TOk P T) {t : TypeId} {a : AV} {x : Value} {K : AV → Option R} {r : R} (ts : Array TypeId) (t' : TypeId) (hM : MemR μ mem sh w) (hts : ts[0]? = some t) (ha : RV μ mem sh w a x)
    (h : lenK (T t) a mem K = some r) : Pure1 P (Builtin.len_ ts t' #[x]) K r μ mem sh w := by
  unfold lenK at h
  have run : ∀ e (p : Option Addr) n c, P.underlying t = some (.slice e) → x = .slice p n c → (Builtin.len_ ts t' #[x]).run P w = .ok (.int .i64 n) w := by
    intro e p n c hu hx
    subst hx
    simp [Builtin.len_, hts, run_underlying hu, goInt]
  split at h <;> try cases h
  · rename_i e id htd
    obtain ⟨i, d, hi, hd, hs, htdo, _⟩ := (hT t (TRow.ok_slice htd)).row
    rw [htd] at htdo
    have hd' : d = .slice e := htdo
    subst hd'
    split at h <;> try cases h
    rename_i s l hb
    obtain ⟨v, hv, hS⟩ := ha.atom rfl
    simp only [List.cons.injEq, and_true] at hv
    subst hv
    unfold SlR at hS
    rw [hb] at hS
    have hB := hM.blk id _ hb
    rcases hS with ⟨k1, k2⟩ | ⟨g, n, cap, k1, k2, k3, k4⟩
    · rcases hB with ⟨_, rfl⟩ | ⟨g, n, c, e', cs, m1, _⟩
      · exact ⟨_, run e none 0 0 hd k2, _, h, RV.int.2 rfl⟩
      · rw [k1] at m1; cases m1
    · exact ⟨_, run e _ _ _ hd k2, _, h, RV.int.2 rfl⟩
  · rename_i e s l htd
    obtain ⟨i, d, hi, hd, hs, htdo, _⟩ := (hT t (TRow.ok_slice htd)).row
    rw [htd] at htdo
    have hd' : d = .slice e := htdo
    subst hd'
    rcases ha.atom rfl with ⟨k1, rfl⟩ | ⟨b, off, cap, c, e', cs, k1, _⟩
    · simp only [List.cons.injEq, and_true] at k1
      exact ⟨_, run e none 0 0 hd k1, _, h, RV.int.2 rfl⟩
    · simp only [List.cons.injEq, and_true] at k1
      exact ⟨_, run e _ _ _ hd k1, _, h, RV.int.2 rfl⟩
  · rename_i e htd
    obtain ⟨i, d, hi, hd, hs, htdo, _⟩ := (hT t (TRow.ok_slice htd)).row
    rw [htd] at htdo
    have hd' : d = .slice e := htdo
    subst hd'
    have k1 := ha.atom rfl
    simp only [RC, List.cons.injEq, and_true] at k1
    exact ⟨_, run e none 0 0 hd k1, _, h, RV.int.2 rfl⟩
  · rename_i s htd
    obtain ⟨i, d, hi, hd, hs, htdo, _⟩ := (hT t (TRow.ok_of_str htd)).row
    rw [htd] at htdo
    have hd' : d = .string := htdo
    subst hd'
    have hx := RV.str.1 ha
    subst hx
    exact ⟨_, by simp [Builtin.len_, hts, run_underlying hd, goInt], _, h, RV.int.2 rfl⟩

theorem EncL_ints : ∀ (l : List Int) (cs : List Value), EncL (Enc sh w (.int .i32)) l cs → cs = l.map (Value.int .i32)
  | [], cs, h => h
  | x :: l, cs, ⟨c, d, e, hc, hd⟩ => by
    simp only [Enc] at hc
    rw [e, hc, EncL_ints l d hd]; rfl

theorem conv_ok (hT : TOk P T) {src dst : TypeId} {a : AV} {x : Value} {K : AV → Option R} {r : R} (hM : MemR μ mem sh w) (ha : RV μ mem sh w a x)
    (h : convK T src dst a mem K = some r) : Pure1 P (convert src dst x) K r μ mem sh w := by
  unfold convK at h
  have h' := ite_some h
  clear h
  obtain ⟨hsrc, h⟩ := h'
  obtain ⟨si, sd, hsi, hsd, _, hstd, _⟩ := (hT src hsrc).row
  split at h <;> try cases h
  · rename_i j k n htd
    obtain ⟨i, d, hi, hd, hs, htdo, _⟩ := (hT dst (TRow.ok_of_int htd)).row
    rw [htd] at htdo
    have hd' : d = .int j := htdo
    subst hd'
    have hx := RV.int.1 ha
    subst hx
    exact ⟨_, by simp [convert, run_underlying hsd, run_underlying hd, Conv.intToInt], _, h, RV.int.2 rfl⟩
  · rename_i k n htd
    obtain ⟨i, d, hi, hd, hs, htdo, _⟩ := (hT dst (TRow.ok_of_str htd)).row
    rw [htd] at htdo
    have hd' : d = .string := htdo
    subst hd'
    have hx := RV.int.1 ha
    subst hx
    exact ⟨_, by simp [convert, run_underlying hsd, run_underlying hd, Conv.intToString], _, h, RV.str.2 rfl⟩
  · rename_i id htd
    obtain ⟨i, d, hi, hd, hs, htdo, _⟩ := (hT dst (TRow.ok_of_str htd)).row
    rw [htd] at htdo
    have hd' : d = .string := htdo
    subst hd'
    split at h <;> try cases h
    rename_i l hb
    have h' := ite_some h
    clear h
    obtain ⟨hr, h⟩ := h'
    unfold isRunes at hr
    split at hr <;> try cases hr
    rename_i e hse
    split at hr <;> try cases hr
    rename_i hte
    rw [hse] at hstd
    have hsd' : sd = .slice e := hstd
    subst hsd'
    obtain ⟨ei, ed, hei, hed, hes, hetd, _⟩ := (hT e (TRow.ok_of_int hte)).row
    rw [hte] at hetd
    have hed' : ed = .int .i32 := hetd
    subst hed'
    obtain ⟨v, hv, hS⟩ := ha.atom rfl
    simp only [List.cons.injEq, and_true] at hv
    subst hv
    unfold SlR at hS
    rw [hb] at hS
    have hB := hM.blk id _ hb
    refine ⟨.string (runesBytes l), ?_, _, h, RV.str.2 rfl⟩
    rcases hS with ⟨k1, k2⟩ | ⟨g, n, cap, k1, k2, k3, k4⟩
    · rcases hB with ⟨_, rfl⟩ | ⟨g, n, c, e', cs, m1, _⟩
      · rw [k2, run_convert_runes_string w src dst e none 0 0 hsd hed hd]
        rfl
      · rw [k1] at m1; cases m1
    · rcases hB with ⟨m1, _⟩ | ⟨g', n', c, e', cs, m1, m2, m3, m4, m5, m6⟩
      · rw [k1] at m1; cases m1
      rw [k1] at m1
      cases m1
      have hcs := EncL_ints l cs m4
      rw [k2, run_convert_runes_string w src dst e _ _ cap hsd hed hd]
      apply run_runesToString
      have hl : (loadCells ⟨g, 0, none⟩ cs.length).run P w = .ok cs.toArray w :=
        run_loadCells_list (P := P) w ⟨g, 0, none⟩ cs (fun j v hv => by
          rw [addr_add, cell_of_row w g (0 + j) c e' (0, 0) m2]
          rw [← m5, List.getElem?_take] at hv
          split at hv
          · simpa using hv
          · cases hv)
      rw [hcs] at hl
      simpa using hl

end
end Am

/- THE ABSTRACT MACHINE: append; slices of their own that are cut; ranges of texts. -/
namespace Am
open Go

section
variable {P : Program} {μ μ' : Mu} {mem mem' : Mem} {sh sh' : Nat → Prop} {w w' : World} {R : Type} {T : TypeId → TRow}

theorem MemR.drew (hM : MemR μ mem sh w) : MemR μ mem sh w.drew ∧ Mv μ mem sh w μ mem sh w.drew := by
  have hk : ShKeep sh w sh w.drew := ⟨fun _ h => h, fun _ _ => rfl⟩
  refine ⟨⟨hM.len, fun id b hb => (hM.blk id b hb).ext (Ext.refl _ _) hk rfl (fun _ _ _ _ => ⟨rfl, fun h => h⟩), hM.inj, hM.shl, hM.mul⟩, ?_⟩
  exact ⟨Ext.refl _ _, hk, Nat.le_refl _, fun _ _ _ => rfl, fun _ h => .inl h, fun i _ n h => .inl ⟨i, n, h⟩, ⟨rfl, rfl⟩⟩

/-- What is appended: its cells. -/
theorem list_arg {s : Ty} {y : AV} {yv : Value} {m : List s.den} {mem1 : Mem} (hM : MemR μ mem sh w) (hy : RV μ mem sh w y yv) (h : asTy (.list s) y mem = some (m, mem1)) :
    (yv = .slice none 0 0 ∧ m = []) ∨ ∃ a c news, yv = .slice (some a) m.length c ∧ EncL (Enc sh w s) m news ∧ ∀ (j : Nat) u, news[j]? = some u → w.cell? (a.add j) = some u := by
  have lists : Enc sh w (.list s) m [yv] → (yv = .slice none 0 0 ∧ m = []) ∨ ∃ a c news, yv = .slice (some a) m.length c ∧ EncL (Enc sh w s) m news ∧ ∀ (j : Nat) u, news[j]? = some u → w.cell? (a.add j) = some u := by
    rintro (⟨h1, h2⟩ | ⟨b, off, cap, c, e, cs, h1, h2, h3, h4, h5⟩)
    · simp only [List.cons.injEq, and_true] at h1
      exact .inl ⟨h1, h2⟩
    · simp only [List.cons.injEq, and_true] at h1
      refine .inr ⟨_, cap, cs, h1, h4, fun j u hj => ?_⟩
      rw [addr_add, cell_of_row w b (off + j) c e (0, 0) h3]
      rw [← h5, List.getElem?_take] at hj
      split at hj
      · rw [List.getElem?_drop] at hj; simpa using hj
      · cases hj
  unfold asTy at h
  split at h
  · rename_i s' z
    simp only [Option.map_eq_some_iff] at h
    obtain ⟨z', hz, he⟩ := h
    cases he
    obtain ⟨e, hz2⟩ := Ty.cast_spec hz
    subst e
    simp only at hz2
    subst hz2
    exact lists (hy.atom rfl)
  · simp at h
    obtain ⟨rfl, rfl⟩ := h
    have := hy.atom rfl
    simp only [RC, List.cons.injEq, and_true] at this
    exact .inl ⟨this, rfl⟩
  · rename_i id
    cases hb : mem[id]? with
    | none => simp [hb] at h
    | some b =>
      cases b with
      | list s' l =>
        simp only [hb, Option.map_eq_some_iff] at h
        obtain ⟨z, hz, he⟩ := h
        cases he
        obtain ⟨e, hz'⟩ := Ty.cast_spec hz
        cases e
        subst hz'
        obtain ⟨v', hv', hS⟩ := hy.atom rfl
        simp only [List.cons.injEq, and_true] at hv'
        subst hv'
        unfold SlR at hS
        rw [hb] at hS
        rcases hM.blk id _ hb with ⟨m1, m2⟩ | ⟨g', n', c, e', cs, m1, m2, m3, m4, m5, m6⟩
        · rcases hS with ⟨k1, k2⟩ | ⟨g, n, cap, k1, _⟩
          · exact .inl ⟨k2, m2⟩
          · rw [m1] at k1; cases k1
        · rcases hS with ⟨k1, k2⟩ | ⟨g, n, cap, k1, k2, k3, k4⟩
          · rw [m1] at k1; cases k1
          rw [m1] at k1
          cases k1
          refine .inr ⟨_, cap, cs, k2, m4, fun j u hj => ?_⟩
          rw [addr_add, cell_of_row w _ (0 + j) c e' (0, 0) m2]
          rw [← m5, List.getElem?_take] at hj
          split at hj
          · simpa using hj
          · cases hj
      | _ => simp [hb] at h
  · cases h

theorem append_room {t ty e e' : TypeId} {i : TypeInfo} (ht : P.underlying t = some (.slice e)) (hi : P.info? e = some i)
    {g sLen sCap : Nat} {cur : Array Value} (hg : w.heap[g]? = some (.cells cur e' (0, 0)))
    {a : Addr} {m c : Nat} {news : List Value} (hl : news.length = m * i.size) (hnews : ∀ (j : Nat) u, news[j]? = some u → w.cell? (a.add j) = some u) (h1 : ∀ u ∈ news, u.oneCell' = true)
    (hroom : sLen + m ≤ sCap) (hfit : sLen * i.size + news.length ≤ cur.size) :
    (Builtin.append_ #[t, t] ty #[.slice (some ⟨g, 0, none⟩) sLen sCap, .slice (some a) m c]).run P w =
      .ok (.slice (some ⟨g, 0, none⟩) (sLen + m) sCap) (w.setRow g (cur.toList.take (sLen * i.size) ++ news ++ cur.toList.drop (sLen * i.size + news.length)).toArray) := by
  have hf := run_firstCells_some (P := P) w i.size m a m c news hl hnews
  have hst := run_storeCells_at P g (sLen * i.size) e' news 0 cur w hg (by simpa using hfit) h1
  simp only [Nat.add_zero] at hst
  simp [Builtin.append_, run_underlying ht, Go.sizeOf, typeInfo, hi, Builtin.lenOf, hroom, hf, addr_add, hst]

theorem append_none {t ty e : TypeId} {i : TypeInfo} (ht : P.underlying t = some (.slice e)) (hi : P.info? e = some i) {p : Option Addr} {sLen sCap : Nat} (h : sLen ≤ sCap) {q : Option Addr} {c : Nat} :
    (Builtin.append_ #[t, t] ty #[.slice p sLen sCap, .slice q 0 c]).run P w = .ok (.slice p sLen sCap) w := by
  cases p <;> cases q <;> simp [Builtin.append_, run_underlying ht, Go.sizeOf, typeInfo, hi, Builtin.lenOf, Builtin.firstCells, loadCells, loadCellsFrom, storeCells, h]

/-- An empty list that has no block. -/
theorem empty_list (hM : MemR μ mem sh w) {s : Ty} {k : AV → Mem → Option R} {r : R} (h : k (.slice mem.length) (mem ++ [.list s []]) = some r) :
    Got k r μ mem sh w (.slice none 0 0) w := by
  obtain ⟨h1, h2⟩ := hM.push (w' := w) none (.list s []) (Nat.le_refl _) (fun _ _ _ => rfl) (fun g n hm => by cases hm)
    (fun he hk => .inl ⟨by rw [← hM.len]; simp, rfl⟩)
  refine ⟨_, _, _, _, h, RV.mk_atom ⟨_, rfl, ?_⟩ rfl, h1, h2⟩
  unfold SlR
  simp only [List.getElem?_concat_length]
  exact .inl ⟨by rw [← hM.len]; simp, trivial⟩

/-- A list that takes over a block that nobody holds any more. -/
theorem take_over (hM : MemR μ mem sh w) {id g n cap : Nat} {s s0 : Ty} {l0 : List s0.den} {l : List s.den} {cs : List Value} {c : Array Value} {e : TypeId} (hb : mem[id]? = some (.list s0 l0)) (hμ : μ[id]? = some (some (g, n)))
    (hns : ¬ sh g) (hs : w'.heap.size = w.heap.size) (ho : ∀ g', g' ≠ g → w'.heap[g']? = w.heap[g']?) (hg : w'.heap[g]? = some (.cells c e (0, 0))) (hc : c.size = n)
    (hE : EncL (Enc sh w s) l cs) (ht : c.toList.take cs.length = cs) (hl : l.length ≤ cap) (hcap : cap * s.size ≤ n) {k : AV → Mem → Option R} {r : R}
    (h : k (.slice mem.length) (mem.set id .dead ++ [.list s l]) = some r) (hos : SameOs w w' := by exact ⟨rfl, rfl⟩) : Got k r μ mem sh w (.slice (some ⟨g, 0, none⟩) l.length cap) w' := by
  obtain ⟨hM1, hV1⟩ := hM.kill hb
  have hlen : (mem.set id Blk.dead).length = mem.length := by simp
  have hlt : id < mem.length := (List.getElem?_eq_some_iff.1 hb).1
  obtain ⟨h1, h2⟩ := hM1.push (w' := w') (hos := hos) (some (g, n)) (.list s l) (by omega) (fun g' _ hne => ho g' (by rintro rfl; exact hne rfl))
    (fun g' n' hm => by
      cases hm
      refine ⟨by rw [hs]; exact hM.mul id _ _ hμ, hns, ?_, .inl ⟨id, _, hμ⟩⟩
      intro i k' c' hc' hcd hi
      by_cases hid : id = i
      · subst hid
        rw [List.getElem?_set_self hlt] at hc'
        cases hc'
        exact hcd rfl
      · rw [List.getElem?_set_ne hid] at hc'
        exact hid (hM.inj id i _ _ _ _ _ hb hc' (by simp) hcd hμ hi))
    (fun he hk => by
      refine .inr ⟨g, n, c, e, cs, ?_, hg, hc, EncL.mono (Enc.keep hk s) l cs hE, ht, hns⟩
      rw [← hM1.len]; simp)
  refine Got.after hV1 ⟨_, _, _, _, h, RV.mk_atom ⟨_, rfl, ?_⟩ rfl, h1, h2⟩
  unfold SlR
  rw [← hlen]
  simp only [List.getElem?_concat_length]
  exact .inr ⟨g, n, cap, by rw [← hM1.len]; simp, rfl, hl, hcap⟩

theorem append_ok (hT : TOk P T) {t ty : TypeId} {x y : AV} {xv yv : Value} {k : AV → Mem → Option R} {r : R} (hM : MemR μ mem sh w) (hx : RV μ mem sh w x xv) (hy : RV μ mem sh w y yv)
    (h : appendK T t x y mem k = some r) : ∃ v w', (Builtin.append_ #[t, t] ty #[xv, yv]).run P w = .ok v w' ∧ Got k r μ mem sh w v w' := by
  unfold appendK at h
  split at h <;> try cases h
  rename_i e htd
  split at h <;> try cases h
  rename_i s hty
  have h' := ite_none_some h
  clear h
  obtain ⟨hcond, h⟩ := h'
  simp only [Bool.or_eq_false_iff, Bool.not_eq_false', beq_eq_false_iff_ne] at hcond
  split at h <;> try cases h
  rename_i m mem1 hm
  obtain ⟨ti, d, hi, hd, hs, htdo, _⟩ := (hT t (TRow.ok_slice htd)).row
  rw [htd] at htdo
  have hd' : d = .slice e := htdo
  subst hd'
  obtain ⟨ei, ed, hei, hed, hes, _, _, heb, _, hzt, _⟩ := (hT e hcond.1).row
  obtain ⟨hss, _, zv, hzv, hzc⟩ := hzt s hty
  have hsz : ei.size = s.size := by rw [hes, ← hss]
  have hzl : s.zc.length = s.size := Enc.length _ _ _ (Ty.enc_dflt sh w s)
  have hzs : zv.cells.size = s.size := by rw [← hzl, ← hzc]; simp
  have harg := list_arg hM hy hm
  -- a new block
  have grown : ∀ (l : List s.den) (olds : List Value) (cap : Nat) (memk : Mem) (v : Value) (c : Array Value), EncL (Enc sh w s) l olds → v = .slice (some ⟨w.heap.size, 0, none⟩) l.length cap →
      MemR μ memk sh w → c.toList.take olds.length = olds → l.length ≤ cap → cap * s.size ≤ c.size → k (.slice memk.length) (memk ++ [.list s l]) = some r → Got k r μ memk sh w v (w.drew.alloc (.cells c e)) := by
    intro l olds cap memk v c hE hv hMk htk hl hcap hk
    obtain ⟨hMd, hVd⟩ := hMk.drew
    have := new_list hMd e cap (EncL.mono (Enc.keep hVd.keep s) _ _ hE) htk hcap hl hk
    subst hv
    exact Got.after hVd this
  have from_nil : ∀ (memk : Mem), MemR μ memk sh w → xv = .slice none 0 0 → m.length ≤ 34359738368 → k (.slice memk.length) (memk ++ [.list s m]) = some r →
      ∃ v w', (Builtin.append_ #[t, t] ty #[xv, yv]).run P w = .ok v w' ∧ Got k r μ memk sh w v w' := by
    intro memk hMk hxv hmb hk
    subst hxv
    rcases harg with ⟨rfl, rfl⟩ | ⟨a, c, news, rfl, hE, hnews⟩
    · exact ⟨_, _, append_none hd hei (Nat.le_refl 0), empty_list hMk hk⟩
    · by_cases h0 : m.length = 0
      · rw [h0]
        have : m = [] := List.eq_nil_of_length_eq_zero h0
        subst this
        exact ⟨_, _, append_none hd hei (Nat.le_refl 0), empty_list hMk hk⟩
      · have hl := EncL.length (Enc.length s) m _ hE
        have hr := run_append_nil (P := P) w t ty e ei zv hd hei hzv a m.length c news (by rw [hl, hsz]) hnews (by omega) (by omega) (by
          have : m.length * ei.bytes ≤ 34359738368 * 512 := Nat.mul_le_mul hmb heb
          omega)
        refine ⟨_, _, hr, ?_⟩
        have hge := grownCap_ge w m.length 0 e
        refine grown m news (grownCap w m.length 0 e) memk _ _ hE rfl hMk ?_ hge ?_ hk
        · simp
        · simp only [Array.size_append, List.size_toArray, size_zeroCells, hzs, hl, ← Nat.add_mul]
          exact Nat.mul_le_mul_right _ (by omega)
  split at h <;> try cases h
  · have h' := cond_some h
    clear h
    obtain ⟨hmb, h⟩ := h'
    simp only [decide_eq_true_eq] at hmb
    have := hx.atom rfl
    simp only [RC, List.cons.injEq, and_true] at this
    exact from_nil mem hM this hmb h
  · rename_i id
    split at h <;> try cases h
    rename_i s' l0 hb
    split at h <;> try cases h
    rename_i l hcast
    have h' := cond_some h
    clear h
    obtain ⟨hmb, h⟩ := h'
    simp only [decide_eq_true_eq] at hmb
    obtain ⟨e1, hl2⟩ := Ty.cast_spec hcast
    cases e1
    simp only at hl2
    subst hl2
    obtain ⟨v', hv', hS⟩ := hx.atom rfl
    simp only [List.cons.injEq, and_true] at hv'
    subst hv'
    have hSl := hS
    unfold SlR at hS
    rw [hb] at hS
    obtain ⟨hMk, hVk⟩ := hM.kill hb
    have hlen : (mem.set id Blk.dead).length = mem.length := by simp
    rcases hM.blk id _ hb with ⟨m1, m2⟩ | ⟨g', n', c', e', cs, m1, m2, m3, m4, m5, m6⟩
    · subst m2
      rcases hS with ⟨k1, k2⟩ | ⟨g, n, cap, k1, _⟩
      · obtain ⟨v, w', hr, hG⟩ := from_nil (mem.set id Blk.dead) hMk k2 (by simpa using hmb) (by rw [hlen]; simpa using h)
        exact ⟨v, w', hr, Got.after hVk hG⟩
      · rw [m1] at k1; cases k1
    · rcases hS with ⟨k1, k2⟩ | ⟨g, n, cap, k1, k2, k3, k4⟩
      · rw [m1] at k1; cases k1
      obtain ⟨rfl, rfl⟩ : g = g' ∧ n = n' := by rw [m1] at k1; simp at k1; exact ⟨k1.1.symm, k1.2.symm⟩
      subst k2
      have hlc := EncL.length (Enc.length s) l _ m4
      rcases harg with ⟨rfl, rfl⟩ | ⟨a, ca, news, rfl, hE, hnews⟩
      · refine ⟨_, _, append_none hd hei k3, ?_⟩
        have := take_over (w' := w) hM hb m1 m6 rfl (fun _ _ => rfl) m2 m3 m4 m5 k3 k4 (k := k) (r := r) (by simpa using h)
        exact this
      · have hl := EncL.length (Enc.length s) m _ hE
        have hEE : EncL (Enc sh w s) (l ++ m) (cs ++ news) := EncL.append l m cs news m4 hE
        by_cases hroom : l.length + m.length ≤ cap
        · have hfit : l.length * ei.size + news.length ≤ c'.size := by
            rw [hl, hsz, ← Nat.add_mul, m3]
            exact Nat.le_trans (Nat.mul_le_mul_right _ hroom) k4
          have hr := append_room (ty := ty) hd hei m2 (by rw [hl, hsz]) hnews (EncL.cells (Enc.cells s) m news hE) hroom hfit (c := ca)
          refine ⟨_, _, hr, ?_⟩
          have hcs : c'.toList.take (l.length * ei.size) = cs := by rw [hsz, ← hlc]; exact m5
          rw [hcs]
          rw [hsz, ← hlc] at hfit ⊢
          have := take_over (w' := w.setRow g (cs ++ news ++ c'.toList.drop (cs.length + news.length)).toArray) (c := (cs ++ news ++ c'.toList.drop (cs.length + news.length)).toArray) (cap := cap) (l := l ++ m) (cs := cs ++ news) hM hb m1 m6 (by simp)
            (fun g' hg' => setRow_other w g g' _ hg') (setRow_heap w g c' _ e' _ m2)
            (by simp only [List.size_toArray, List.length_append, List.length_drop, Array.length_toList]; omega) hEE List.take_left (by simpa using hroom) k4 h
          simpa using this
        · have holds : ∀ (j : Nat) u, cs[j]? = some u → w.cell? ((⟨g, 0, none⟩ : Addr).add j) = some u := by
            intro j u hj
            rw [addr_add, cell_of_row w g (0 + j) c' e' (0, 0) m2]
            rw [← m5, List.getElem?_take] at hj
            split at hj
            · simpa using hj
            · cases hj
          have hr := run_append_grow (P := P) w t ty e ei zv hd hei hzv ⟨g, 0, none⟩ l.length cap cs (by rw [hlc, hsz]) holds a m.length ca news (by rw [hl, hsz]) hnews (by omega) (by omega)
            (growslice_fits (by omega) (by
              have : (l.length + m.length) * ei.bytes ≤ 34359738368 * 512 := Nat.mul_le_mul hmb heb
              omega))
          have hge := grownCap_ge w (l.length + m.length) cap e
          have hk2 : k (.slice (mem.set id Blk.dead).length) (mem.set id Blk.dead ++ [.list s (l ++ m)]) = some r := by rw [hlen]; exact h
          have hG := grown (l ++ m) (cs ++ news) (grownCap w (l.length + m.length) cap e) (mem.set id Blk.dead) (.slice (some ⟨w.heap.size, 0, none⟩) (l.length + m.length) (grownCap w (l.length + m.length) cap e))
            (cs.toArray ++ news.toArray ++ Builtin.zeroCells zv.cells (grownCap w (l.length + m.length) cap e - (l.length + m.length))) hEE (by rw [List.length_append]) hMk (by rw [Array.toList_append, Array.toList_append]; exact List.take_left) (by rw [List.length_append]; exact hge)
            (by
              simp only [Array.size_append, List.size_toArray, size_zeroCells, hzs, hlc, hl, ← Nat.add_mul]
              exact Nat.mul_le_mul_right _ (by omega)) hk2
          exact ⟨_, _, hr, Got.after hVk hG⟩

end
end Am

/- THE ABSTRACT MACHINE: slices that are cut, ranges of texts. -/
namespace Am
open Go

section
variable {P : Program} {μ μ' : Mu} {mem mem' : Mem} {sh sh' : Nat → Prop} {w w' : World} {R : Type} {T : TypeId → TRow}

theorem run_getObj {g : Nat} {s : ByteArray} {pos : Nat} (h : w.heap[g]? = some (.stringIter s pos)) : (getObj g).run P w = .ok (.stringIter s pos) w := by
  simp [getObj, Sem.run, h]

theorem run_setObj {g : Nat} {s : ByteArray} {pos : Nat} (o : Obj) (h : w.heap[g]? = some (.stringIter s pos)) : (setObj g o).run P w = .ok () { w with heap := w.heap.setIfInBounds g o } := by
  simp [setObj, Sem.run, h]

theorem range_ok (hT : TOk P T) {t : TypeId} {s : ByteArray} {x : Value} {k : AV → Mem → Option R} {r : R} (hM : MemR μ mem sh w) (htd : (T t).td = .str) (hx : RV μ mem sh w (.val .str s) x)
    (h : k (.ptr mem.length []) (mem ++ [.iter s 0]) = some r) : ∃ v w', (Instr.range t x).run P w = .ok v w' ∧ Got k r μ mem sh w v w' := by
  obtain ⟨i, d, hi, hd, hs, htdo, _⟩ := (hT t (TRow.ok_of_str htd)).row
  rw [htd] at htdo
  have hd' : d = .string := htdo
  subst hd'
  have hx' := RV.str.1 hx
  subst hx'
  have hnsh : ¬ sh w.heap.size := fun hs => Nat.lt_irrefl _ (hM.shl _ hs)
  obtain ⟨h1, h2⟩ := hM.push (w' := w.alloc (.stringIter s 0)) (some (w.heap.size, 0)) (.iter s 0) (by rw [heap_alloc]; omega)
    (fun g hg _ => heap_alloc_old w _ g hg)
    (fun g n hm => by
      cases hm
      refine ⟨by rw [heap_alloc]; omega, hnsh, ?_, .inr (Nat.le_refl _)⟩
      intro i k c _ _ hi
      exact Nat.lt_irrefl _ (hM.mul i _ k hi))
    (fun he hk => ⟨w.heap.size, 0, by rw [← hM.len]; simp, heap_alloc_new w _, hnsh⟩)
  refine ⟨.pointer (some ⟨w.heap.size, 0, none⟩), w.alloc (.stringIter s 0), ?_, _, _, _, _, h, RV.ptr.2 ?_, h1, h2⟩
  · simp [Instr.range, run_underlying hd]
  · unfold PtrR
    simp only [List.getElem?_concat_length]
    exact ⟨w.heap.size, 0, by rw [← hM.len]; simp, rfl, rfl⟩

theorem next_ok {it : AV} {x : Value} {k : AV → Mem → Option R} {r : R} (ty : TypeId) (hM : MemR μ mem sh w) (hx : RV μ mem sh w it x)
    (h : nextK it mem k = some r) : ∃ v w', (Instr.next x true ty).run P w = .ok v w' ∧ Got k r μ mem sh w v w' := by
  unfold nextK at h
  split at h <;> try cases h
  rename_i id
  split at h <;> try cases h
  rename_i s pos hb
  have hP := RV.ptr.1 hx
  unfold PtrR at hP
  rw [hb] at hP
  obtain ⟨g, n, h1, _, h3⟩ := hP
  obtain ⟨g', n', k1, k2, k3⟩ := hM.blk id _ hb
  rw [h1] at k1
  obtain ⟨rfl, rfl⟩ : g = g' ∧ n = n' := by simpa using k1
  have h3' : x = .pointer (some ⟨g, 0, none⟩) := h3
  subst h3'
  have hlt := hM.mul id g n h1
  by_cases hp : pos < s.size
  · rw [decide_eq_true hp] at h
    have hW := hM.write (b' := .iter s (pos + (Utf8.decode s pos).2)) (w' := { w with heap := w.heap.setIfInBounds g (.stringIter s (pos + (Utf8.decode s pos).2)) }) hb (by simp) h1 k3 trivial (by simp)
      (fun g' hg' => by show (w.heap.setIfInBounds g _)[g']? = _; rw [Array.getElem?_setIfInBounds_ne (Ne.symm hg')])
      (fun he hk => ⟨g, n, h1, by show (w.heap.setIfInBounds g _)[g]? = _; rw [Array.getElem?_setIfInBounds_self_of_lt hlt], k3⟩)
    refine ⟨.tuple #[.bool true, .int .i64 (pos : Int), .int .i32 (Utf8.decode s pos).1], _, ?_, _, _, _, _, h, ?_, hW.1, hW.2⟩
    · simp only [Instr.next, Sem.run_bind, run_getObj k2, Result.andThen_ok, hp, if_true, run_setObj _ k2, goInt, Sem.run_pure]
    · refine RV.mk_atom ⟨_, rfl, ?_⟩ rfl
      exact RVs_cons (RV.bool.2 rfl) (RVs_cons (RV.int.2 rfl) (RVs_cons (RV.int.2 rfl) rfl))
  · rw [decide_eq_false hp] at h
    refine ⟨.tuple #[.bool false], w, ?_, Got.same hM h ?_⟩
    · simp [Instr.next, run_getObj k2, hp]
    · exact RV.mk_atom ⟨_, rfl, RVs_cons (RV.bool.2 rfl) rfl⟩ rfl

theorem slice_own_ok (hT : TOk P T) {t e : TypeId} {id : Nat} {xv : Value} {k : AV → Mem → Option R} {r : R} (htd : (T t).td = .slice e) (hoke : (T e).ok = true) (hM : MemR μ mem sh w)
    {s : Ty} {l : List s.den} (hb : mem[id]? = some (.list s l)) (hv : RV μ mem sh w (.slice id) xv) (b : Int) (kd : IntKind) (hcond : 0 ≤ b ∧ b ≤ (l.length : Int))
    (h : k (.slice mem.length) (mem.set id .dead ++ [.list s (l.take b.toNat)]) = some r) :
    ∃ v w', (Instr.sliceAt t xv none (some (.int kd b)) none).run P w = .ok v w' ∧ Got k r μ mem sh w v w' := by
  obtain ⟨i, d, hi, hd, hs, htdo, _⟩ := (hT t (TRow.ok_slice htd)).row
  rw [htd] at htdo
  have hd' : d = .slice e := htdo
  subst hd'
  obtain ⟨v', hv', hS⟩ := hv.atom rfl
  simp only [List.cons.injEq, and_true] at hv'
  subst hv'
  unfold SlR at hS
  rw [hb] at hS
  obtain ⟨hMk, hVk⟩ := hM.kill hb
  have hlen : (mem.set id Blk.dead).length = mem.length := by simp
  have hb0 : ((b.toNat : Nat) : Int) = b := Int.toNat_of_nonneg hcond.1
  have hble : b.toNat ≤ l.length := by have := hcond.2; omega
  obtain ⟨ei, _, hei, _⟩ := (hT e hoke).row
  rcases hM.blk id _ hb with ⟨m1, m2⟩ | ⟨g', n', c', e', cs, m1, m2, m3, m4, m5, m6⟩
  · subst m2
    rcases hS with ⟨k1, k2⟩ | ⟨g, n, cap, k1, _⟩
    · subst k2
      have h0 : b.toNat = 0 := by simpa using hble
      have hbz : b = 0 := by omega
      subst hbz
      refine ⟨.slice none 0 0, w, ?_, Got.after hVk (empty_list hMk (by rw [hlen]; simpa using h))⟩
      simp [Instr.sliceAt, Instr.slice, Instr.sliceBounds, Instr.sliceBound, asIntOf, run_underlying hd, sizeOf_run hei]
    · rw [m1] at k1; cases k1
  · rcases hS with ⟨k1, k2⟩ | ⟨g, n, cap, k1, k2, k3, k4⟩
    · rw [m1] at k1; cases k1
    obtain ⟨rfl, rfl⟩ : g = g' ∧ n = n' := by rw [m1] at k1; simp at k1; exact ⟨k1.1.symm, k1.2.symm⟩
    subst k2
    have hlc := EncL.length (Enc.length s) l _ m4
    have hbl : (l.take b.toNat).length = b.toNat := by rw [List.length_take]; omega
    have hE' := EncL.take (Enc.length s) l cs b.toNat m4
    have htl := EncL.length (Enc.length s) _ _ hE'
    have := take_over (w' := w) (cap := cap) (l := l.take b.toNat) (cs := cs.take (b.toNat * s.size)) hM hb m1 m6 rfl (fun _ _ => rfl) m2 m3 hE'
      (by
        rw [htl, hbl]
        conv => rhs; rw [← m5, List.take_take]
        congr 1
        have : b.toNat * s.size ≤ cs.length := by rw [hlc]; exact Nat.mul_le_mul_right _ hble
        omega) (by rw [hbl]; omega) k4 h
    rw [hbl] at this
    refine ⟨_, _, ?_, this⟩
    have hbc : b ≤ (cap : Int) := by omega
    simp only [Instr.sliceAt, Instr.slice, Instr.sliceBounds, Instr.sliceBound, asIntOf, Sem.run_bind, run_underlying hd, Result.andThen_ok, Sem.run_pure, sizeOf_run hei]
    simp [hcond.1, hbc, addr_add]


theorem slice_ok (hT : TOk P T) {t : TypeId} {v : AV} {xv : Value} {lo hi mx : Option AV} {lo' hi' mx' : Option Value} {k : AV → Mem → Option R} {r : R} (hM : MemR μ mem sh w) (hv : RV μ mem sh w v xv)
    (hlo : ∀ a, lo = some a → ∃ y, lo' = some y ∧ RV μ mem sh w a y) (hlo0 : lo = none → lo' = none) (hhi : ∀ a, hi = some a → ∃ y, hi' = some y ∧ RV μ mem sh w a y) (hhi0 : hi = none → hi' = none)
    (hmx0 : mx = none → mx' = none)
    (h : sliceK T t v lo hi mx mem k = some r) : ∃ v w', (Instr.sliceAt t xv lo' hi' mx').run P w = .ok v w' ∧ Got k r μ mem sh w v w' := by
  have pure : ∀ {K : AV → Option R}, (∀ a, K a = some r → k a mem = some r) → Pure1 P (Instr.sliceAt t xv lo' hi' mx') K r μ mem sh w → ∃ v w', (Instr.sliceAt t xv lo' hi' mx').run P w = .ok v w' ∧ Got k r μ mem sh w v w' := by
    rintro K hK ⟨v, h1, a, h2, h3⟩
    exact ⟨v, w, h1, Got.same hM (hK a h2) h3⟩
  unfold sliceK at h
  split at h <;> try cases h
  · rename_i s _ a _ b htd
    obtain ⟨y1, rfl, hy1⟩ := hlo _ rfl
    obtain ⟨y2, rfl, hy2⟩ := hhi _ rfl
    have := hmx0 rfl; subst this
    have e1 := RV.int.1 hy1
    have e2 := RV.int.1 hy2
    have e3 := RV.str.1 hv
    subst e1 e2 e3
    exact pure (fun a h => h) (slice_str_ok hT htd (.inl rfl) (.inl rfl) h)
  · rename_i s _ b htd
    have := hlo0 rfl; subst this
    obtain ⟨y2, rfl, hy2⟩ := hhi _ rfl
    have := hmx0 rfl; subst this
    have e2 := RV.int.1 hy2
    have e3 := RV.str.1 hv
    subst e2 e3
    exact pure (fun a h => h) (slice_str_ok (k1 := .i64) hT htd (.inr ⟨rfl, rfl⟩) (.inl rfl) h)
  · rename_i s _ a htd
    obtain ⟨y1, rfl, hy1⟩ := hlo _ rfl
    have := hhi0 rfl; subst this
    have := hmx0 rfl; subst this
    have e1 := RV.int.1 hy1
    have e3 := RV.str.1 hv
    subst e1 e3
    exact pure (fun a h => h) (slice_str_ok (k2 := .i64) hT htd (.inl rfl) (.inr ⟨rfl, rfl⟩) h)
  · rename_i e id kd b htd
    have := hlo0 rfl; subst this
    obtain ⟨y2, rfl, hy2⟩ := hhi _ rfl
    have := hmx0 rfl; subst this
    have e2 := RV.int.1 hy2
    subst e2
    have h' := ite_none_some h
    clear h
    obtain ⟨hoke, h⟩ := h'
    simp only [Bool.not_eq_false'] at hoke
    split at h <;> try cases h
    rename_i s l hb
    have h' := cond_some h
    clear h
    obtain ⟨hcond, h⟩ := h'
    simp only [Bool.and_eq_true, decide_eq_true_eq] at hcond
    exact slice_own_ok hT htd hoke hM hb hv b kd hcond h

end
end Am

