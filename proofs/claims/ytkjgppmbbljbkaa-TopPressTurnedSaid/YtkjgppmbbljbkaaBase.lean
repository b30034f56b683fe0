/- How lists of plain data lie in memory: slices that are read, slices that the call owns. -/
import Derived.Test.YtkjgppmbbljbkaaProg
import Derived.Test.YtkjgppmbbljbkaaModel
import Derived.WalkKit
import Derived.WalkSpells
import Derived.WalkLawsBesides
import Derived.KernelRfl
import Derived.Deep.QuietTactic
import Derived.BigQuiet
import Derived.Outline
import Derived.Deep.DeepMust
import Derived.Deep.DeepFit
import Derived.Deep.Draws
import Derived.Lib.Hide
import Derived.Lib.AppendStr
import Derived.Lib.ConvBytes
import Derived.Lib.Strings
import Derived.Laws.OwnMore
import Derived.Laws.BytesArg
import Derived.Deep.AppendLies
import Derived.Maps.AppendAt
import Derived.ArgAppend
import Derived.Deep.LoopGhost
import Derived.Deep.DeepCutAuto
import Derived.Deep.CutBlock
import Derived.Deep.RegionHeld3
import Derived.Deep.RegionWith
import Derived.Deep.RegionLaw
import Derived.StillTailTactics
set_option linter.unusedVariables false
set_option linter.unusedSimpArgs false
namespace Go.Proofs.Ytkjgppmbbljbkaa
open Go.RowKit

/-- How one element lies in cells. -/
structure Enc (α : Type) where
  e : TypeId
  size : Nat
  bytes : Nat
  zero : Value
  cells : α → List Value
  len : ∀ x, (cells x).length = size
  one : ∀ x, ∀ u ∈ cells x, u.oneCell' = true
  pos : 0 < size
  bpos : 0 < bytes
  zlen : zero.cells.size = size
  info : (Try.prog.info? e).map (fun i => (i.zero, i.size, i.bytes)) = some (some zero, size, bytes)

def EN : Enc Int where
  e := 3
  size := 1
  bytes := 8
  zero := .int .i64 0
  cells x := [.int .i64 x]
  len _ := rfl
  one _ u hu := by simp at hu; subst hu; rfl
  pos := by decide
  bpos := by decide
  zlen := rfl
  info := by kernel_rfl

def EB : Enc UInt8 where
  e := 5
  size := 1
  bytes := 1
  zero := .int .u8 0
  cells x := [.int .u8 x.toNat]
  len _ := rfl
  one _ u hu := by simp at hu; subst hu; rfl
  pos := by decide
  bpos := by decide
  zlen := rfl
  info := by kernel_rfl

def EI : Enc PItem where
  e := 63
  size := 3
  bytes := 32
  zero := .agg #[.int .i64 0, .string ByteArray.empty, .int .i64 0]
  cells x := [.int .i64 x.id, .string x.data, .int .i64 x.refs]
  len _ := rfl
  one _ u hu := by simp at hu; rcases hu with rfl | rfl | rfl <;> rfl
  pos := by decide
  bpos := by decide
  zlen := rfl
  info := by kernel_rfl

def EW : Enc PWrite where
  e := 48
  size := 2
  bytes := 24
  zero := .agg #[.int .i64 0, .string ByteArray.empty]
  cells x := [.int .i64 x.block, .string x.data]
  len _ := rfl
  one _ u hu := by simp at hu; rcases hu with rfl | rfl <;> rfl
  pos := by decide
  bpos := by decide
  zlen := rfl
  info := by kernel_rfl

def EA : Enc PAct where
  e := 38
  size := 4
  bytes := 40
  zero := .agg #[.int .i64 0, .int .i64 0, .string ByteArray.empty, .int .i64 0]
  cells x := [.int .i64 x.kind, .int .i64 x.block, .string x.data, .int .i64 x.keep]
  len _ := rfl
  one _ u hu := by simp at hu; rcases hu with rfl | rfl | rfl | rfl <;> rfl
  pos := by decide
  bpos := by decide
  zlen := rfl
  info := by kernel_rfl

def ER : Enc PAns where
  e := 40
  size := 5
  bytes := 48
  zero := .agg #[.int .i64 0, .string ByteArray.empty, .int .i64 0, .int .i64 0, .int .i64 0]
  cells x := [.int .i64 x.code, .string x.data, .int .i64 x.items, .int .i64 x.log, .int .i64 x.count]
  len _ := rfl
  one _ u hu := by simp at hu; rcases hu with rfl | rfl | rfl | rfl | rfl <;> rfl
  pos := by decide
  bpos := by decide
  zlen := rfl
  info := by kernel_rfl

section
variable {α : Type} (E : Enc α)
def Enc.flat (l : List α) : List Value := l.flatMap E.cells
theorem Enc.flat_nil : E.flat [] = [] := rfl
theorem Enc.flat_cons (x : α) (l : List α) : E.flat (x :: l) = E.cells x ++ E.flat l := by simp [Enc.flat]
theorem Enc.flat_append (l m : List α) : E.flat (l ++ m) = E.flat l ++ E.flat m := by simp [Enc.flat]
theorem Enc.flat_length (l : List α) : (E.flat l).length = l.length * E.size := by
  induction l with
  | nil => simp [Enc.flat]
  | cons x l ih => rw [E.flat_cons, List.length_append, E.len, ih, List.length_cons, Nat.add_mul]; omega
theorem Enc.flat_one (l : List α) : ∀ u ∈ E.flat l, u.oneCell' = true := by
  intro u hu
  simp only [Enc.flat, List.mem_flatMap] at hu
  obtain ⟨x, _, hx⟩ := hu
  exact E.one x u hx
theorem Enc.flat_take (l : List α) (n : Nat) : (E.flat l).take (n * E.size) = E.flat (l.take n) := by
  induction l generalizing n with
  | nil => simp [Enc.flat]
  | cons x l ih =>
    cases n with
    | zero => simp [Enc.flat]
    | succ n =>
      rw [E.flat_cons, List.take_succ_cons, E.flat_cons, ← ih n, Nat.add_mul, Nat.one_mul, Nat.add_comm, ← E.len x, List.take_append, List.take_of_length_le (by omega)]
      congr 2; omega
theorem Enc.flat_drop (l : List α) (n : Nat) : (E.flat l).drop (n * E.size) = E.flat (l.drop n) := by
  induction l generalizing n with
  | nil => simp [Enc.flat]
  | cons x l ih =>
    cases n with
    | zero => simp [Enc.flat]
    | succ n =>
      rw [E.flat_cons, List.drop_succ_cons, ← ih n, Nat.add_mul, Nat.one_mul, Nat.add_comm, ← E.len x, List.drop_append, List.drop_of_length_le (by omega)]
      simp
theorem Enc.flat_at (l : List α) (i : Nat) (x : α) (hx : l[i]? = some x) (j : Nat) (hj : j < E.size) : (E.flat l)[i * E.size + j]? = (E.cells x)[j]? := by
  induction l generalizing i with
  | nil => simp at hx
  | cons y l ih =>
    cases i with
    | zero =>
      simp at hx; subst hx
      rw [E.flat_cons, Nat.zero_mul, Nat.zero_add, List.getElem?_append_left (by rw [E.len]; exact hj)]
    | succ i =>
      simp at hx
      rw [E.flat_cons, List.getElem?_append_right (by rw [E.len, Nat.add_mul]; omega), E.len, ← ih i hx]
      congr 1
      rw [Nat.add_mul]; omega
theorem Enc.flat_set (l : List α) (i : Nat) (x : α) (hi : i < l.length) (j : Nat) (u : Value) (y : α) (hx : l[i]? = some x) (hy : E.cells y = (E.cells x).set j u) (hj : j < E.size) :
    (E.flat l).set (i * E.size + j) u = E.flat (l.set i y) := by
  induction l generalizing i with
  | nil => simp at hi
  | cons z l ih =>
    cases i with
    | zero =>
      simp at hx; subst hx
      rw [List.set_cons_zero, E.flat_cons, E.flat_cons, hy, Nat.zero_mul, Nat.zero_add, List.set_append_left _ _ (by rw [E.len]; exact hj)]
    | succ i =>
      simp at hx hi
      rw [List.set_cons_succ, E.flat_cons, E.flat_cons, ← ih i hi hx, List.set_append_right _ _ (by rw [E.len, Nat.add_mul]; omega), E.len]
      congr 2
      rw [Nat.add_mul]; omega

/-- A slice that reads as the list. -/
def Rd (w : World) (v : Value) (l : List α) : Prop :=
  ∃ A c, v = .slice A l.length c ∧ l.length ≤ c ∧ c ≤ maxLen ∧
    (l ≠ [] → ∃ b off, A = some ⟨b, off, none⟩ ∧ ∀ j u, (E.flat l)[j]? = some u → w.cell? ⟨b, off + j, none⟩ = some u)

/-- A slice that lies in a row of the call's own, or an empty one without room. -/
def Own (base : Nat) (w : World) (v : Value) (l : List α) : Prop :=
  (∃ A, v = .slice A 0 0 ∧ l = []) ∨ w.ownsRow base E.e E.size v l.length (E.flat l)
end

section
variable {α : Type} {E : Enc α} {w w' : World} {v : Value} {l : List α} {base : Nat}

/-- Strictly: a row of its own, or nil. -/
def OwnR (E : Enc α) (base : Nat) (w : World) (v : Value) (l : List α) : Prop := w.ownsRow base E.e E.size v l.length (E.flat l)
theorem OwnR.own (h : OwnR E base w v l) : Own E base w v l := .inr h
theorem OwnR.nil (E : Enc α) (base : Nat) (w : World) : OwnR E base w (.slice none 0 0) [] := World.ownsRow_nil w base E.e E.size
theorem OwnR.below (h : OwnR E base w v l) (hb : Below w.heap.size w w') : OwnR E base w' v l := by
  refine ⟨h.1, ?_⟩
  rcases h.2 with h2 | ⟨g, cap, cur, rfl, hb', hg, rest⟩
  · exact .inl h2
  · exact .inr ⟨g, cap, cur, rfl, hb', by rw [hb.block g (Array.getElem?_eq_some_iff.1 hg).1]; exact hg, rest⟩
theorem OwnR.drewN (h : OwnR E base w v l) (n : Nat) : OwnR E base (w.drewN n) v l := h
theorem OwnR.alloc (h : OwnR E base w v l) (o : Obj) : OwnR E base (w.alloc o) v l := World.ownsRow.alloc h o

theorem Rd.len (h : Rd E w v l) : ∃ A c, v = .slice A l.length c ∧ l.length ≤ c ∧ c ≤ maxLen := by
  obtain ⟨A, c, rfl, h1, h2, _⟩ := h
  exact ⟨A, c, rfl, h1, h2⟩

theorem Rd.keep (h : Rd E w v l) (hk : ∀ p : Addr, p.block < w.heap.size → w'.cell? p = w.cell? p) : Rd E w' v l := by
  obtain ⟨A, c, rfl, h1, h2, h3⟩ := h
  refine ⟨A, c, rfl, h1, h2, fun hn => ?_⟩
  obtain ⟨b, off, rfl, hc⟩ := h3 hn
  refine ⟨b, off, rfl, fun j u hu => ?_⟩
  have := hc j u hu
  rw [hk _ (World.block_lt_of_cell? w _ this)]
  exact this
theorem Rd.below (h : Rd E w v l) (hb : Below w.heap.size w w') : Rd E w' v l := h.keep fun _ hp => hb.cell hp
theorem Rd.drewN (h : Rd E w v l) (n : Nat) : Rd E (w.drewN n) v l := h.keep fun _ _ => rfl
theorem Rd.alloc (h : Rd E w v l) (o : Obj) : Rd E (w.alloc o) v l := h.below ((Below.refl _ _).alloc (Nat.le_refl _) o)

/-- The element's cells. -/
theorem Rd.at_ {A : Option Addr} {n c : Nat} (h : Rd E w (.slice A n c) l) {i : Nat} (hi : i < l.length) :
    ∃ b off, A = some ⟨b, off, none⟩ ∧ b < w.heap.size ∧ ∀ j u, (E.cells l[i])[j]? = some u → w.cell? ⟨b, off + i * E.size + j, none⟩ = some u := by
  obtain ⟨A', c', he, _, _, h3⟩ := h
  injection he with h1 h2 h4
  subst h1
  obtain ⟨b, off, rfl, hc⟩ := h3 (by intro e; subst e; simp at hi)
  have key : ∀ j u, (E.cells l[i])[j]? = some u → w.cell? ⟨b, off + i * E.size + j, none⟩ = some u := by
    intro j u hu
    have hj : j < E.size := by
      have := (List.getElem?_eq_some_iff.1 hu).1
      rwa [E.len] at this
    have := hc (i * E.size + j) u (by rw [E.flat_at l i l[i] (List.getElem?_eq_getElem hi) j hj]; exact hu)
    rwa [← Nat.add_assoc] at this
  refine ⟨b, off, rfl, ?_, key⟩
  have h0 : 0 < (E.cells l[i]).length := by rw [E.len]; exact E.pos
  exact World.block_lt_of_cell? w _ (key 0 _ (List.getElem?_eq_getElem h0))

theorem Own.rd (h : Own E base w v l) : Rd E w v l := by
  rcases h with ⟨A, rfl, rfl⟩ | h
  · exact ⟨A, 0, rfl, Nat.le_refl _, by simp [maxLen], fun hn => absurd rfl hn⟩
  · rcases h.2 with ⟨rfl, h0⟩ | ⟨g, cap, cur, rfl, hb, hg, hn, hc, hs, ht⟩
    · obtain rfl : l = [] := List.eq_nil_of_length_eq_zero h0
      exact ⟨none, 0, rfl, Nat.le_refl _, by simp [maxLen], fun hn => absurd rfl hn⟩
    · refine ⟨_, cap, rfl, hn, hc, fun _ => ⟨g, 0, rfl, fun j u hu => ?_⟩⟩
      have := h.cells (g := g) rfl j u hu
      rw [Addr.add_lit] at this
      exact this

theorem Own.none_ (base : Nat) (w : World) : Own E base w (.slice none 0 0) [] := .inl ⟨none, rfl, rfl⟩

theorem Own.keep (h : Own E base w v l) (hk : ∀ k, v.ownBlock = some k → k < w.heap.size → w'.heap[k]? = w.heap[k]?) : Own E base w' v l := by
  rcases h with h | h
  · exact .inl h
  · refine .inr ⟨h.1, ?_⟩
    rcases h.2 with h2 | ⟨g, cap, cur, rfl, hb, hg, rest⟩
    · exact .inl h2
    · exact .inr ⟨g, cap, cur, rfl, hb, by rw [hk g rfl (Array.getElem?_eq_some_iff.1 hg).1]; exact hg, rest⟩
/-- What has no block of this element type turned. -/
theorem Own.keepT (h : Own E base w v l) (hk : ∀ (k : Nat) (c : Array Value), w.heap[k]? = some (Obj.cells c E.e (0, 0)) → w'.heap[k]? = some (Obj.cells c E.e (0, 0))) : Own E base w' v l := by
  rcases h with h | h
  · exact .inl h
  · refine .inr ⟨h.1, ?_⟩
    rcases h.2 with h2 | ⟨g, cap, cur, rfl, hb, hg, rest⟩
    · exact .inl h2
    · exact .inr ⟨g, cap, cur, rfl, hb, hk g cur hg, rest⟩
theorem Own.below (h : Own E base w v l) (hb : Below w.heap.size w w') : Own E base w' v l := h.keep fun k _ hk => hb.block k hk
theorem Own.drewN (h : Own E base w v l) (n : Nat) : Own E base (w.drewN n) v l := h
theorem Own.alloc (h : Own E base w v l) (o : Obj) : Own E base (w.alloc o) v l := h.below ((Below.refl _ _).alloc (Nat.le_refl _) o)
theorem Own.lower {b : Nat} (h : Own E base w v l) (hb : b ≤ base) : Own E b w v l := by
  rcases h with h | h
  · exact .inl h
  · refine .inr ⟨h.1, ?_⟩
    rcases h.2 with h2 | ⟨g, cap, cur, rfl, hb', rest⟩
    · exact .inl h2
    · exact .inr ⟨g, cap, cur, rfl, by omega, rest⟩
theorem Own.len (h : Own E base w v l) : ∃ A c, v = .slice A l.length c ∧ l.length ≤ c ∧ c ≤ maxLen := h.rd.len

theorem Own.form (h : Own E base w v l) (hl : l ≠ []) : ∃ g cap, v = .slice (some ⟨g, 0, none⟩) l.length cap ∧ base ≤ g ∧ g < w.heap.size ∧ w.ownsRow base E.e E.size (.slice (some ⟨g, 0, none⟩) l.length cap) l.length (E.flat l) := by
  rcases h with ⟨_, _, rfl⟩ | h
  · exact absurd rfl hl
  · obtain ⟨g, cap, rfl, hb, hg⟩ := h.form (List.length_pos_iff.2 hl)
    exact ⟨g, cap, rfl, hb, hg, h⟩

end

theorem below_drewN {B : Nat} {a w : World} (h : Below B a w) (n : Nat) : Below B a (w.drewN n) := ⟨h.os, h.tape, h.output, h.size, h.block⟩
theorem below_trans {B : Nat} {a b c : World} (h : Below B a b) (k : Below b.heap.size b c) (hB : B ≤ b.heap.size) : Below B a c := h.trans (k.mono hB)
theorem cells_alloc_new (w : World) (cs : Array Value) (t : TypeId) (j : Nat) : (w.alloc (.cells cs t)).cell? ⟨w.heap.size, j, none⟩ = cs[j]? := cell_of_row _ _ _ _ _ _ (heap_alloc_new w _)

/-- A value lying in a box of its own reads as a list of one. -/
theorem Rd.box {α : Type} (E : Enc α) (w : World) (x : α) : Rd E (w.alloc (.cells (E.cells x).toArray E.e)) (.slice (some ⟨w.heap.size, 0, none⟩) 1 1) [x] := by
  refine ⟨_, 1, rfl, Nat.le_refl _, by simp [maxLen], fun _ => ⟨_, 0, rfl, fun j u hu => ?_⟩⟩
  rw [cells_alloc_new]
  simp only [Enc.flat, List.flatMap_cons, List.flatMap_nil, List.append_nil] at hu
  simpa using hu


/-- Elements laid in a box of their own. -/
theorem Rd.lit {α : Type} (E : Enc α) (w : World) (cs : Array Value) (m : List α) (n : Nat) (hcs : cs.toList = E.flat m) (hn : n = m.length) (hm : n ≤ maxLen) :
    Rd E (w.alloc (.cells cs E.e)) (.slice (some ⟨w.heap.size, 0, none⟩) n n) m := by
  subst hn
  refine ⟨_, _, rfl, Nat.le_refl _, hm, fun _ => ⟨_, 0, rfl, fun j u hu => ?_⟩⟩
  rw [cells_alloc_new, ← Array.getElem?_toList, hcs]
  simpa using hu

/-- Only blocks of cells of type e have turned. -/
def TyKeep (e : TypeId) (w w' : World) : Prop := ∀ (k : Nat) (o : Obj), w.heap[k]? = some o → (∀ c fr, o ≠ .cells c e fr) → w'.heap[k]? = some o
theorem TyKeep.refl (e : TypeId) (w : World) : TyKeep e w w := fun _ _ h _ => h
theorem TyKeep.trans {e : TypeId} {a b c : World} (h : TyKeep e a b) (k : TyKeep e b c) : TyKeep e a c := fun i o hi ho => k i o (h i o hi ho) ho
theorem TyKeep.of_below (e : TypeId) {w w' : World} (h : Below w.heap.size w w') : TyKeep e w w' := fun k o hk _ => (h.block k (Array.getElem?_eq_some_iff.1 hk).1).trans hk
theorem TyKeep.own {e : TypeId} {α : Type} {E : Enc α} {w w' : World} {v : Value} {l : List α} {base : Nat} (h : TyKeep e w w') (ho : Own E base w v l) (hne : E.e ≠ e) : Own E base w' v l :=
  ho.keepT fun k c hk => h k _ hk (fun c' fr he => hne (by injection he))

theorem of_grown {e : TypeId} {w w' : World} {row : Option Nat} {base : Nat} (hbase : base ≤ w.heap.size) (hg : w.grownBy w' row) (hrow : ∀ k, row = some k → base ≤ k ∧ ∃ cur, w.heap[k]? = some (Obj.cells cur e (0, 0))) : Below base w w' ∧ TyKeep e w w' := by
  refine ⟨(Below.refl _ _).grown hg hbase (fun k hk => (hrow k hk).1), fun k o hk ho => ?_⟩
  rw [hg.block k (Array.getElem?_eq_some_iff.1 hk).1 (fun e => ?_)]
  · exact hk
  · obtain ⟨_, cur, hc⟩ := hrow k e.symm
    rw [hk] at hc
    injection hc with hc
    exact ho _ _ hc
theorem row_of {e : TypeId} {size : Nat} {w : World} {base n : Nat} {v : Value} {xs : List Value} (h : w.ownsRow base e size v n xs) : ∀ k, v.ownBlock = some k → base ≤ k ∧ ∃ cur, w.heap[k]? = some (Obj.cells cur e (0, 0)) := by
  intro k hk
  rcases h.2 with ⟨rfl, _⟩ | ⟨g, cap, cur, rfl, hbg, hg, _⟩
  · simp [Value.ownBlock] at hk
  · have : g = k := by simpa [Value.ownBlock] using hk
    subst this
    exact ⟨hbg, cur, hg⟩

/-- append(v, ys...): what was owned and what is read. -/
theorem run_append_R {α : Type} (E : Enc α) {w : World} {base : Nat} (t ty : TypeId) (ht : Try.prog.underlying t = some (.slice E.e)) {v x : Value} {l m : List α}
    (hv : OwnR E base w v l) (hx : Rd E w x m) (hb : (l.length + m.length) * E.bytes ≤ 140737488355328) (hbase : base ≤ w.heap.size) :
    ∃ v' w', (Builtin.append_ #[t, t] ty #[v, x]).run Try.prog w = .ok v' w' ∧ OwnR E base w' v' (l ++ m) ∧ Below base w w' ∧ TyKeep E.e w w' := by
  obtain ⟨i, hi, hz0, hz1, hz2⟩ := info_parts E.info
  have hlen : l.length + m.length ≤ 140737488355328 := Nat.le_trans (Nat.le_mul_of_pos_right _ E.bpos) hb
  obtain ⟨A, c, rfl, hmc, hcm, hr⟩ := hx
  by_cases hm : m = []
  · subst hm
    refine ⟨v, w, ?_, by simpa using hv, Below.refl _ _, TyKeep.refl _ _⟩
    rcases hv.2 with ⟨rfl, h0⟩ | ⟨g, cap, cur, rfl, _, _, hnc, _⟩
    · cases A <;> simp [Builtin.append_, run_underlying ht, sizeOf, typeInfo, hi, Builtin.lenOf, Builtin.firstCells, loadCells, loadCellsFrom, storeCells]
    · cases A <;> simp [Builtin.append_, run_underlying ht, sizeOf, typeInfo, hi, Builtin.lenOf, Builtin.firstCells, hnc, loadCells, loadCellsFrom, storeCells]
  · obtain ⟨b, off, rfl, hc⟩ := hr hm
    have hnews : ∀ j u, (E.flat m)[j]? = some u → w.cell? ((⟨b, off, none⟩ : Addr).add j) = some u := fun j u hu => by rw [Addr.add_lit]; exact hc j u hu
    obtain ⟨v', w', hrun, r1, r2, _⟩ := run_append_own (P := Try.prog) w base t ty E.e i E.zero E.size E.bytes ht hi hz0 hz1 hz2 E.zlen E.pos v l.length (E.flat l) hv ⟨b, off, none⟩ m.length c (E.flat m) (E.flat_length m) hnews (E.flat_one m) (by simp only [maxLen]; omega) hb hbase
    refine ⟨v', w', hrun, ?_, of_grown hbase r2 (row_of hv)⟩
    unfold OwnR
    rw [List.length_append, E.flat_append]
    exact r1

theorem run_append_E {α : Type} (E : Enc α) {w : World} {base : Nat} (t ty : TypeId) (ht : Try.prog.underlying t = some (.slice E.e)) {v x : Value} {l m : List α}
    (hv : Own E base w v l) (hx : Rd E w x m) (hb : (l.length + m.length) * E.bytes ≤ 140737488355328) (hbase : base ≤ w.heap.size) :
    ∃ v' w', (Builtin.append_ #[t, t] ty #[v, x]).run Try.prog w = .ok v' w' ∧ Own E base w' v' (l ++ m) ∧ Below base w w' ∧ TyKeep E.e w w' := by
  rcases hv with ⟨B, rfl, rfl⟩ | hv
  · cases B with
    | none =>
      obtain ⟨v', w', h1, h2, h3⟩ := run_append_R E t ty ht (v := .slice none 0 0) (l := []) (World.ownsRow_nil w base E.e E.size) hx hb hbase
      exact ⟨v', w', h1, h2.own, h3⟩
    | some B =>
      obtain ⟨i, hi, hz0, hz1, hz2⟩ := info_parts E.info
      obtain ⟨A, c, rfl, hmc, hcm, hr⟩ := hx
      by_cases hm : m = []
      · subst hm
        refine ⟨.slice (some B) 0 0, w, ?_, .inl ⟨_, rfl, rfl⟩, Below.refl _ _, TyKeep.refl _ _⟩
        cases A <;> simp [Builtin.append_, run_underlying ht, sizeOf, typeInfo, hi, Builtin.lenOf, Builtin.firstCells, loadCells, loadCellsFrom, storeCells]
      · obtain ⟨b, off, rfl, hc⟩ := hr hm
        have hpos : 0 < m.length := List.length_pos_iff.2 hm
        have hlen : m.length ≤ 140737488355328 := Nat.le_trans (Nat.le_mul_of_pos_right _ E.bpos) (by simpa using hb)
        have hnews : ∀ j u, (E.flat m)[j]? = some u → w.cell? ((⟨b, off, none⟩ : Addr).add j) = some u := fun j u hu => by rw [Addr.add_lit]; exact hc j u hu
        obtain ⟨v', w', hrun, r1, r2⟩ := run_append_arg_grows (P := Try.prog) w t ty E.e i E.zero E.size E.bytes ht hi hz0 hz1 hz2 E.zlen E.pos B 0 0 [] (by simp) (by simp) ⟨b, off, none⟩ m.length c (E.flat m) (E.flat_length m) hnews (by omega) (by simp only [maxLen]; omega) (by simpa using hb)
        exact ⟨v', w', hrun, Own.lower (base := w.heap.size) (.inr (by simpa using r1)) hbase, of_grown hbase r2 (by simp)⟩
  · obtain ⟨v', w', h1, h2, h3⟩ := run_append_R E t ty ht hv hx hb hbase
    exact ⟨v', w', h1, h2.own, h3⟩

section
variable {ops : Array Oper} {rest : List Oper} {o : Oper} {a : Go.Act} {Q : Exit → Go.Act → World → Prop}
/-- At the operation. -/
theorem wp_append_E {α : Type} (E : Enc α) {w : World} {K : Go.Act → World → Prop} (s x : Operand) (t : TypeId) (ho : o.op = .call { callee := .builtin .append, args := #[s, x], argTypes := #[t, t] })
    (base : Nat) (ht : Try.prog.underlying t = some (.slice E.e)) (v y : Value) (l m : List α) (hs : a.eval s = v) (hx : a.eval x = y)
    (hv : Own E base w v l) (hy : Rd E w y m) (hb : (l.length + m.length) * E.bytes ≤ 140737488355328) (hbase : base ≤ w.heap.size)
    (h : ∀ v' w', Own E base w' v' (l ++ m) → Below base w w' → TyKeep E.e w w' → K (a.put o.dst v') w') : o.wp Try.prog a w K Q := by
  obtain ⟨v', w', hr, h1, h2, h3⟩ := run_append_E E t o.type ht hv hy hb hbase
  unfold Oper.wp execOp
  simp only [ho, resolve, invoke, builtin, Sem.run_bind, Sem.run_pure, Result.andThen_ok, List.map_toArray, List.map_cons, List.map_nil, hs, hx, hr]
  exact h v' w' h1 h2 h3
theorem wpList_append_E {α : Type} (E : Enc α) {w : World} (hgd : o.guard = none) (s x : Operand) (t : TypeId) (ho : o.op = .call { callee := .builtin .append, args := #[s, x], argTypes := #[t, t] })
    (base : Nat) (ht : Try.prog.underlying t = some (.slice E.e)) (v y : Value) (l m : List α) (hs : a.eval s = v) (hx : a.eval x = y)
    (hv : Own E base w v l) (hy : Rd E w y m) (hb : (l.length + m.length) * E.bytes ≤ 140737488355328) (hbase : base ≤ w.heap.size)
    (h : ∀ v' w', Own E base w' v' (l ++ m) → Below base w w' → TyKeep E.e w w' → wpList Try.prog ops Q rest (a.put o.dst v') w') : wpList Try.prog ops Q (o :: rest) a w :=
  wpList_plain hgd fun _ hK => wp_append_E E s x t ho base ht v y l m hs hx hv hy hb hbase fun v' w' h1 h2 h3 => hK _ _ (h v' w' h1 h2 h3)
theorem step_append_E {α : Type} (E : Enc α) {w : World} {K : Go.Act → World → Prop} {F : Prop} (hgd : o.guard = none) (s x : Operand) (t : TypeId) (ho : o.op = .call { callee := .builtin .append, args := #[s, x], argTypes := #[t, t] })
    (base : Nat) (ht : Try.prog.underlying t = some (.slice E.e)) (v y : Value) (l m : List α) (hs : a.eval s = v) (hx : a.eval x = y)
    (hv : Own E base w v l) (hy : Rd E w y m) (hb : (l.length + m.length) * E.bytes ≤ 140737488355328) (hbase : base ≤ w.heap.size)
    (h : ∀ v' w', Own E base w' v' (l ++ m) → Below base w w' → TyKeep E.e w w' → K (a.put o.dst v') w') :
    if Region.wanted o (yielded ops a.tmps) = true then Oper.wp Try.prog o a w K Q else F := by
  have hw : Region.wanted o (yielded ops a.tmps) = true := by simp [Region.wanted, hgd]
  rw [if_pos hw]
  exact wp_append_E E s x t ho base ht v y l m hs hx hv hy hb hbase h
end

section
variable {ops : Array Oper} {rest : List Oper} {o : Oper} {a : Go.Act} {Q : Exit → Go.Act → World → Prop}
theorem wp_append_R {α : Type} (E : Enc α) {w : World} {K : Go.Act → World → Prop} (s x : Operand) (t : TypeId) (ho : o.op = .call { callee := .builtin .append, args := #[s, x], argTypes := #[t, t] })
    (base : Nat) (ht : Try.prog.underlying t = some (.slice E.e)) (v y : Value) (l m : List α) (hs : a.eval s = v) (hx : a.eval x = y)
    (hv : OwnR E base w v l) (hy : Rd E w y m) (hb : (l.length + m.length) * E.bytes ≤ 140737488355328) (hbase : base ≤ w.heap.size)
    (h : ∀ v' w', OwnR E base w' v' (l ++ m) → Below base w w' → TyKeep E.e w w' → K (a.put o.dst v') w') : o.wp Try.prog a w K Q := by
  obtain ⟨v', w', hr, h1, h2, h3⟩ := run_append_R E t o.type ht hv hy hb hbase
  unfold Oper.wp execOp
  simp only [ho, resolve, invoke, builtin, Sem.run_bind, Sem.run_pure, Result.andThen_ok, List.map_toArray, List.map_cons, List.map_nil, hs, hx, hr]
  exact h v' w' h1 h2 h3
theorem wpList_append_R {α : Type} (E : Enc α) {w : World} (hgd : o.guard = none) (s x : Operand) (t : TypeId) (ho : o.op = .call { callee := .builtin .append, args := #[s, x], argTypes := #[t, t] })
    (base : Nat) (ht : Try.prog.underlying t = some (.slice E.e)) (v y : Value) (l m : List α) (hs : a.eval s = v) (hx : a.eval x = y)
    (hv : OwnR E base w v l) (hy : Rd E w y m) (hb : (l.length + m.length) * E.bytes ≤ 140737488355328) (hbase : base ≤ w.heap.size)
    (h : ∀ v' w', OwnR E base w' v' (l ++ m) → Below base w w' → TyKeep E.e w w' → wpList Try.prog ops Q rest (a.put o.dst v') w') : wpList Try.prog ops Q (o :: rest) a w :=
  wpList_plain hgd fun _ hK => wp_append_R E s x t ho base ht v y l m hs hx hv hy hb hbase fun v' w' h1 h2 h3 => hK _ _ (h v' w' h1 h2 h3)
theorem step_append_R {α : Type} (E : Enc α) {w : World} {K : Go.Act → World → Prop} {F : Prop} (hgd : o.guard = none) (s x : Operand) (t : TypeId) (ho : o.op = .call { callee := .builtin .append, args := #[s, x], argTypes := #[t, t] })
    (base : Nat) (ht : Try.prog.underlying t = some (.slice E.e)) (v y : Value) (l m : List α) (hs : a.eval s = v) (hx : a.eval x = y)
    (hv : OwnR E base w v l) (hy : Rd E w y m) (hb : (l.length + m.length) * E.bytes ≤ 140737488355328) (hbase : base ≤ w.heap.size)
    (h : ∀ v' w', OwnR E base w' v' (l ++ m) → Below base w w' → TyKeep E.e w w' → K (a.put o.dst v') w') :
    if Region.wanted o (yielded ops a.tmps) = true then Oper.wp Try.prog o a w K Q else F := by
  have hw : Region.wanted o (yielded ops a.tmps) = true := by simp [Region.wanted, hgd]
  rw [if_pos hw]
  exact wp_append_R E s x t ho base ht v y l m hs hx hv hy hb hbase h
end

/-- The bytes of a string. -/
def ls (s : ByteArray) : Bytes := s.data.toList
def bs (l : Bytes) : ByteArray := ⟨l.toArray⟩
theorem ls_length (s : ByteArray) : (ls s).length = s.size := by rw [ls, Array.length_toList]; rfl
theorem ls_at (s : ByteArray) (i : Nat) (h : i < s.size) : (ls s)[i]'(by rw [ls_length]; exact h) = s[i] := rfl
theorem ls_bs (l : Bytes) : ls (bs l) = l := by simp [ls, bs]
theorem bs_ls (s : ByteArray) : bs (ls s) = s := by cases s; simp [ls, bs]
theorem bs_size (l : Bytes) : (bs l).size = l.length := by simp [bs, ByteArray.size]
theorem ls_inj {s t : ByteArray} (h : ls s = ls t) : s = t := by rw [← bs_ls s, ← bs_ls t, h]
theorem strCells_eq (s : ByteArray) : Lib.strCells s = EB.flat (ls s) := by
  simp only [Lib.strCells, ls, Enc.flat, EB]
  induction s.data.toList with
  | nil => rfl
  | cons a t ih => simp [ih]

theorem run_append_S {w : World} {base : Nat} (ty : TypeId) {v : Value} {l : Bytes} (s : ByteArray)
    (hv : OwnR EB base w v l) (hb : l.length + s.size ≤ 140737488355328) (hbase : base ≤ w.heap.size) :
    ∃ v' w', (Builtin.append_ #[77, 9] ty #[v, .string s]).run Try.prog w = .ok v' w' ∧ OwnR EB base w' v' (l ++ ls s) ∧ Below base w w' ∧ TyKeep 5 w w' := by
  obtain ⟨i, hi, hz0, hz1, hz2⟩ := info_parts EB.info
  obtain ⟨v', w', hrun, r1, r2, _⟩ := Lib.run_append_own_string (P := Try.prog) w base 77 9 ty 5 i Try.underlying77 Try.underlying9 hi hz0 hz1 hz2 v l.length (EB.flat l) hv s (by simp only [maxLen]; omega) hb hbase
  refine ⟨v', w', hrun, ?_, of_grown hbase r2 (row_of hv)⟩
  unfold OwnR
  rw [List.length_append, EB.flat_append, ls_length, ← strCells_eq]
  exact r1

section
variable {ops : Array Oper} {rest : List Oper} {o : Oper} {a : Go.Act} {Q : Exit → Go.Act → World → Prop}
theorem wp_append_S {w : World} {K : Go.Act → World → Prop} (x y : Operand) (ho : o.op = .call { callee := .builtin .append, args := #[x, y], argTypes := #[77, 9] })
    (base : Nat) (v : Value) (l : Bytes) (s : ByteArray) (hs : a.eval x = v) (hx : a.eval y = .string s)
    (hv : OwnR EB base w v l) (hb : l.length + s.size ≤ 140737488355328) (hbase : base ≤ w.heap.size)
    (h : ∀ v' w', OwnR EB base w' v' (l ++ ls s) → Below base w w' → TyKeep 5 w w' → K (a.put o.dst v') w') : o.wp Try.prog a w K Q := by
  obtain ⟨v', w', hr, h1, h2, h3⟩ := run_append_S o.type s hv hb hbase
  unfold Oper.wp execOp
  simp only [ho, resolve, invoke, builtin, Sem.run_bind, Sem.run_pure, Result.andThen_ok, List.map_toArray, List.map_cons, List.map_nil, hs, hx, hr]
  exact h v' w' h1 h2 h3
theorem wpList_append_S {w : World} (hgd : o.guard = none) (x y : Operand) (ho : o.op = .call { callee := .builtin .append, args := #[x, y], argTypes := #[77, 9] })
    (base : Nat) (v : Value) (l : Bytes) (s : ByteArray) (hs : a.eval x = v) (hx : a.eval y = .string s)
    (hv : OwnR EB base w v l) (hb : l.length + s.size ≤ 140737488355328) (hbase : base ≤ w.heap.size)
    (h : ∀ v' w', OwnR EB base w' v' (l ++ ls s) → Below base w w' → TyKeep 5 w w' → wpList Try.prog ops Q rest (a.put o.dst v') w') : wpList Try.prog ops Q (o :: rest) a w :=
  wpList_plain hgd fun _ hK => wp_append_S x y ho base v l s hs hx hv hb hbase fun v' w' h1 h2 h3 => hK _ _ (h v' w' h1 h2 h3)
theorem step_append_S {w : World} {K : Go.Act → World → Prop} {F : Prop} (hgd : o.guard = none) (x y : Operand) (ho : o.op = .call { callee := .builtin .append, args := #[x, y], argTypes := #[77, 9] })
    (base : Nat) (v : Value) (l : Bytes) (s : ByteArray) (hs : a.eval x = v) (hx : a.eval y = .string s)
    (hv : OwnR EB base w v l) (hb : l.length + s.size ≤ 140737488355328) (hbase : base ≤ w.heap.size)
    (h : ∀ v' w', OwnR EB base w' v' (l ++ ls s) → Below base w w' → TyKeep 5 w w' → K (a.put o.dst v') w') :
    if Region.wanted o (yielded ops a.tmps) = true then Oper.wp Try.prog o a w K Q else F := by
  have hw : Region.wanted o (yielded ops a.tmps) = true := by simp [Region.wanted, hgd]
  rw [if_pos hw]
  exact wp_append_S x y ho base v l s hs hx hv hb hbase h
end

/-- string(b). -/
theorem run_string_of {base : Nat} (w : World) (v : Value) (l : Bytes) (h : OwnR EB base w v l) : (convert 77 9 v).run Try.prog w = .ok (.string (bs l)) w := by
  rcases h.2 with ⟨rfl, h0⟩ | ⟨g, cap, cur, rfl, _⟩
  · obtain rfl : l = [] := List.eq_nil_of_length_eq_zero h0
    exact run_convert_bytes_nil w 77 5 Try.underlying77 Try.underlying5 0 0 9 Try.underlying9
  · have := run_convert_bytes_arg (P := Try.prog) w 77 5 Try.underlying77 Try.underlying5 g 0 l.length cap (l.map fun x => (x.toNat : Int)) (by simp) (fun i hi => ?_) 9 Try.underlying9
    · refine this.trans (congrArg (fun x => Result.ok (Value.string x) w) ?_)
      have e : (l.map fun x => (x.toNat : Int)).map (fun n => UInt8.ofNat n.toNat) = l := by
        rw [List.map_map]
        apply List.ext_getElem (by simp)
        intro n h1 h2
        simp
      unfold strOfNums bs
      rw [e]
    · have hx : l[i]? = some l[i] := List.getElem?_eq_getElem hi
      have := h.cells (g := g) rfl i (.int .u8 (l[i].toNat : Int)) (by have := EB.flat_at l i l[i] hx 0 (by decide); simpa [EB] using this)
      rw [Addr.add_lit] at this
      rw [this]
      simp [List.getD_eq_getElem?_getD, hi]

end Go.Proofs.Ytkjgppmbbljbkaa
