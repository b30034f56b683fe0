/- Plain data of the block store: items, writes, acts, answers; no program in sight. -/
set_option linter.unusedVariables false
set_option linter.unusedSimpArgs false
namespace Go.Proofs.Ytkjgppmbbljbkaa

abbrev Bytes := List UInt8

structure PItem where
  id : Int
  data : ByteArray
  refs : Int

structure PWrite where
  block : Int
  data : ByteArray

structure PAct where
  kind : Int
  block : Int
  data : ByteArray
  keep : Int

structure PAns where
  code : Int
  data : ByteArray
  items : Int
  log : Int
  count : Int

structure PVol where
  items : List PItem
  blocks : List Int

theorem PItem.ext_iff' (a b : PItem) : a = b ↔ a.id = b.id ∧ a.data = b.data ∧ a.refs = b.refs := by
  cases a; cases b; simp
theorem PWrite.ext_iff' (a b : PWrite) : a = b ↔ a.block = b.block ∧ a.data = b.data := by
  cases a; cases b; simp
theorem PAns.ext_iff' (a b : PAns) : a = b ↔ a.code = b.code ∧ a.data = b.data ∧ a.items = b.items ∧ a.log = b.log ∧ a.count = b.count := by
  cases a; cases b; simp
theorem PVol.ext_iff' (a b : PVol) : a = b ↔ a.items = b.items ∧ a.blocks = b.blocks := by
  cases a; cases b; simp

instance : DecidableEq PItem := fun a b => decidable_of_iff _ (PItem.ext_iff' a b).symm
instance : DecidableEq PWrite := fun a b => decidable_of_iff _ (PWrite.ext_iff' a b).symm
instance : DecidableEq PAns := fun a b => decidable_of_iff _ (PAns.ext_iff' a b).symm

/-- Packed bytes: a run of at least three, or what comes ahead of the next such run. -/
def runL : Bytes → Nat
  | [] => 0
  | a :: t => 1 + (t.takeWhile (· == a)).length

def plainL : Bytes → Nat
  | [] => 0
  | a :: t => if runL (a :: t) < 3 then 1 + plainL t else 0

/-- The byte that a number is: n itself, below 256. -/
def byt (n : Nat) : UInt8 := UInt8.ofNat n
theorem byt_toNat (n : Nat) (h : n < 256) : (byt n).toNat = n := by unfold byt; rw [UInt8.toNat_ofNat']; omega

def packF : Nat → Bytes → Bytes
  | 0, _ => []
  | _ + 1, [] => []
  | f + 1, a :: t =>
    if 3 ≤ runL (a :: t) then byt (125 + runL (a :: t)) :: a :: packF f ((a :: t).drop (runL (a :: t)))
    else byt (plainL (a :: t) - 1) :: ((a :: t).take (plainL (a :: t)) ++ packF f ((a :: t).drop (plainL (a :: t))))

def packL (l : Bytes) : Bytes := packF l.length l

theorem runL_le : ∀ l : Bytes, runL l ≤ l.length
  | [] => by simp [runL]
  | a :: t => by
    have := (List.takeWhile_prefix (· == a) (l := t)).length_le
    simp [runL]; omega

theorem takeWhile_more (p : UInt8 → Bool) : ∀ (t : Bytes) (n : Nat), n ≤ (t.takeWhile p).length → (n < (t.takeWhile p).length ↔ ∃ h : n < t.length, p t[n] = true)
  | [], n, h => by simp
  | a :: t, n, h => by
    by_cases hp : p a = true
    · rw [List.takeWhile_cons_of_pos hp] at h ⊢
      cases n with
      | zero => simp [hp]
      | succ n =>
        have := takeWhile_more p t n (by simpa using h)
        simpa using this
    · rw [List.takeWhile_cons_of_neg hp] at h ⊢
      have : n = 0 := by simpa using h
      subst this
      simp [hp]

theorem runL_pos (l : Bytes) (h : l ≠ []) : 1 ≤ runL l := by
  cases l with
  | nil => exact absurd rfl h
  | cons a t => simp [runL]

theorem runL_more (l : Bytes) (hl : 0 < l.length) (n : Nat) (h1 : 1 ≤ n) (hn : n ≤ runL l) : n < runL l ↔ ∃ h : n < l.length, l[n] = l[0] := by
  cases l with
  | nil => simp at hl
  | cons a t =>
    obtain ⟨m, rfl⟩ : ∃ m, n = m + 1 := ⟨n - 1, by omega⟩
    have := takeWhile_more (· == a) t m (by simp only [runL] at hn; omega)
    simp only [runL]
    rw [show (m + 1 < 1 + (t.takeWhile (· == a)).length) ↔ m < (t.takeWhile (· == a)).length by omega, this]
    simp

theorem plainL_le : ∀ l : Bytes, plainL l ≤ l.length
  | [] => by simp [plainL]
  | a :: t => by
    have := plainL_le t
    simp only [plainL, List.length_cons]
    split <;> omega

theorem packF_fuel : ∀ (n f g : Nat) (l : Bytes), l.length ≤ n → l.length ≤ f → l.length ≤ g → packF f l = packF g l := by
  intro n
  induction n with
  | zero =>
    intro f g l hn _ _
    obtain rfl : l = [] := List.eq_nil_of_length_eq_zero (by omega)
    cases f <;> cases g <;> rfl
  | succ n ih =>
    intro f g l hn hf hg
    cases l with
    | nil => cases f <;> cases g <;> rfl
    | cons a t =>
      obtain ⟨f, rfl⟩ : ∃ m, f = m + 1 := ⟨f - 1, by simp at hf; omega⟩
      obtain ⟨g, rfl⟩ : ∃ m, g = m + 1 := ⟨g - 1, by simp at hg; omega⟩
      simp only [packF]
      simp only [List.length_cons] at hn hf hg
      split
      · have h1 : ((a :: t).drop (runL (a :: t))).length ≤ n := by simp [List.length_drop]; omega
        rw [ih f g _ h1 (by simp [List.length_drop]; omega) (by simp [List.length_drop]; omega)]
      · have hp : 0 < plainL (a :: t) := by simp only [plainL]; rw [if_pos (by omega)]; omega
        rw [ih f g _ (by simp only [List.length_drop, List.length_cons]; omega) (by simp only [List.length_drop, List.length_cons]; omega) (by simp only [List.length_drop, List.length_cons]; omega)]

theorem packL_nil : packL [] = [] := rfl

theorem packL_run (l : Bytes) (a : UInt8) (t : Bytes) (hl : l = a :: t) (h : 3 ≤ runL l) :
    packL l = byt (125 + runL l) :: a :: packL (l.drop (runL l)) := by
  subst hl
  show packF (t.length + 1) (a :: t) = _
  simp only [packF]
  rw [if_pos h]
  congr 2
  exact packF_fuel (t.length) _ _ _ (by simp only [List.length_drop, List.length_cons]; omega) (by simp only [List.length_drop, List.length_cons]; omega) (Nat.le_refl _)

theorem packL_plain (l : Bytes) (hl : l ≠ []) (h : runL l < 3) :
    packL l = byt (plainL l - 1) :: (l.take (plainL l) ++ packL (l.drop (plainL l))) := by
  cases l with
  | nil => exact absurd rfl hl
  | cons a t =>
    have hp : 0 < plainL (a :: t) := by simp only [plainL]; rw [if_pos h]; omega
    show packF (t.length + 1) (a :: t) = _
    simp only [packF]
    rw [if_neg (by omega)]
    congr 2
    exact packF_fuel (t.length) _ _ _ (by simp only [List.length_drop, List.length_cons]; omega) (by simp only [List.length_drop, List.length_cons]; omega) (Nat.le_refl _)

theorem plainL_pos (l : Bytes) (hl : l ≠ []) (h : runL l < 3) : 0 < plainL l := by
  cases l with
  | nil => exact absurd rfl hl
  | cons a t => simp only [plainL]; rw [if_pos h]; omega

/-- What comes ahead of the next run, said by places. -/
theorem plainL_step (l : Bytes) (k : Nat) (hk : k < l.length) (hlt : ∀ j, j < k → runL (l.drop j) < 3) :
    (runL (l.drop k) < 3 → plainL (l.drop k) = 1 + plainL (l.drop (k + 1))) ∧ (¬ runL (l.drop k) < 3 → plainL (l.drop k) = 0) := by
  have hd : l.drop k = l[k] :: l.drop (k + 1) := List.drop_eq_getElem_cons hk
  rw [hd]
  constructor
  · intro h; simp only [plainL]; rw [if_pos h]
  · intro h; simp only [plainL]; rw [if_neg h]

theorem plainL_drop : ∀ (k : Nat) (l : Bytes), k ≤ l.length → (∀ j, j < k → runL (l.drop j) < 3) → plainL l = k + plainL (l.drop k)
  | 0, l, _, _ => by simp
  | k + 1, l, hk, h => by
    have h1 := plainL_drop k l (by omega) (fun j hj => h j (by omega))
    have h2 := (plainL_step l k (by omega) (fun j hj => h j (by omega))).1 (h k (by omega))
    omega

theorem packL_length_le (n : Nat) : ∀ l : Bytes, l.length ≤ n → (packL l).length ≤ 2 * l.length := by
  induction n with
  | zero =>
    intro l hl
    obtain rfl : l = [] := List.eq_nil_of_length_eq_zero (by omega)
    simp [packL_nil]
  | succ n ih =>
    intro l hl
    cases l with
    | nil => simp [packL_nil]
    | cons a t =>
      by_cases h : 3 ≤ runL (a :: t)
      · rw [packL_run (a :: t) a t rfl h]
        have hr := runL_le (a :: t)
        have := ih ((a :: t).drop (runL (a :: t))) (by simp only [List.length_drop, List.length_cons] at *; omega)
        simp only [List.length_cons, List.length_drop] at *
        omega
      · have hp := plainL_pos (a :: t) (by simp) (by omega)
        have hq := plainL_le (a :: t)
        rw [packL_plain (a :: t) (by simp) (by omega)]
        have := ih ((a :: t).drop (plainL (a :: t))) (by simp only [List.length_drop, List.length_cons] at *; omega)
        simp only [List.length_cons, List.length_drop, List.length_append, List.length_take] at *
        omega


/-! Bytes in other bytes' places. -/
section
variable {f : UInt8 → UInt8} (hf : ∀ a b, f a = f b → a = b)
include hf
theorem takeWhile_map_inj (a : UInt8) (t : Bytes) : ((t.map f).takeWhile (· == f a)).length = (t.takeWhile (· == a)).length := by
  induction t with
  | nil => rfl
  | cons b t ih =>
    by_cases h : (b == a) = true
    · have h' : (f b == f a) = true := by simp at h ⊢; rw [h]
      rw [List.map_cons, List.takeWhile_cons_of_pos (p := (· == f a)) h', List.takeWhile_cons_of_pos (p := (· == a)) h, List.length_cons, List.length_cons, ih]
    · have h' : ¬ (f b == f a) = true := fun e => h (by simp at e ⊢; exact hf _ _ e)
      rw [List.map_cons, List.takeWhile_cons_of_neg (p := (· == f a)) h', List.takeWhile_cons_of_neg (p := (· == a)) h]
theorem runL_map (l : Bytes) : runL (l.map f) = runL l := by
  cases l with
  | nil => rfl
  | cons a t => simp only [List.map_cons, runL]; rw [takeWhile_map_inj hf]
theorem plainL_map (l : Bytes) : plainL (l.map f) = plainL l := by
  induction l with
  | nil => rfl
  | cons a t ih =>
    have := runL_map hf (a :: t)
    rw [List.map_cons] at this ⊢
    simp only [plainL]
    rw [this, ih]
theorem packL_map_length (n : Nat) : ∀ l : Bytes, l.length ≤ n → (packL (l.map f)).length = (packL l).length := by
  induction n with
  | zero =>
    intro l hl
    obtain rfl : l = [] := List.eq_nil_of_length_eq_zero (by omega)
    rfl
  | succ n ih =>
    intro l hl
    cases l with
    | nil => rfl
    | cons a t =>
      have hr := runL_map hf (a :: t)
      have hm : (a :: t).map f = f a :: t.map f := rfl
      by_cases h : 3 ≤ runL (a :: t)
      · rw [packL_run _ (f a) (t.map f) hm (by rw [hr]; exact h), packL_run _ a t rfl h, hr, List.length_cons, List.length_cons, List.length_cons, List.length_cons, ← List.map_drop]
        rw [ih _ (by simp only [List.length_drop, List.length_cons] at *; omega)]
      · have hp := plainL_map hf (a :: t)
        have hpp := plainL_pos (a :: t) (by simp) (by omega)
        rw [packL_plain _ (by simp) (by rw [hr]; omega), packL_plain (a :: t) (by simp) (by omega), hp, List.length_cons, List.length_cons, List.length_append, List.length_append, ← List.map_drop, ← List.map_take, List.length_map]
        rw [ih _ (by simp only [List.length_drop, List.length_cons] at *; omega)]
end

end Go.Proofs.Ytkjgppmbbljbkaa
