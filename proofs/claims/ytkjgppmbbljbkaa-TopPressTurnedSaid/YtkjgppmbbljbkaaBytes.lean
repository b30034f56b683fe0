/- The walk of wBytes: two bytes in each other's places. -/
import Derived.Test.YtkjgppmbbljbkaaPress
set_option linter.unusedVariables false
set_option linter.unusedSimpArgs false
namespace Go.Proofs.Ytkjgppmbbljbkaa
open Go.RowKit

def swp (a b c : UInt8) : UInt8 := if c = a then b else if c = b then a else c

/-- A block of bytes. -/
def Brow (w : World) (g : Nat) (l : Bytes) : Prop := ∀ i x, l[i]? = some x → w.cell? ⟨g, i, none⟩ = some (.int .u8 (x.toNat : Int)) ∧ w.frozen? ⟨g, i, none⟩ = false

theorem Brow.set {w : World} {g : Nat} {l : Bytes} (h : Brow w g l) (k : Nat) (x : UInt8) (hk : k < l.length) : Brow (w.setCell ⟨g, k, none⟩ (.int .u8 (x.toNat : Int))) g (l.set k x) := by
  intro i y hy
  have hi : i < l.length := by have := (List.getElem?_eq_some_iff.1 hy).1; simpa using this
  obtain ⟨h1, h2⟩ := h i _ (List.getElem?_eq_getElem hi)
  refine ⟨?_, by rw [World.frozen?_setCell]; exact h2⟩
  by_cases e : i = k
  · subst e
    rw [List.getElem?_set_self hk] at hy
    injection hy with hy
    subst hy
    exact World.cell?_setCell_same _ _ _ h1
  · rw [List.getElem?_set_ne (by omega)] at hy
    obtain ⟨h3, _⟩ := h i y hy
    rw [World.cell?_setCell_other _ _ _ _ (fun e' => e (by injection e' with _ e' _; exact e'.symm))]
    exact h3
theorem Brow.new (w : World) (s : ByteArray) : Brow (Lib.bytesWorld w 5 s) w.heap.size (ls s) := by
  intro i x hx
  have hi : i < s.size := by have := (List.getElem?_eq_some_iff.1 hx).1; rwa [ls_length] at this
  constructor
  · rw [Lib.bytesWorld_cell w 5 s i hi]
    have : s.data.toList[i]? = some x := hx
    simp [List.getD_eq_getElem?_getD, this]
  · have hs : (Lib.bytesCells w 5 s).size = s.size + (grownCap w s.size 0 5 - s.size) := by simp [Lib.bytesCells]
    simp [World.frozen?, Lib.bytesWorld_at_new, hs]
    omega

theorem swp_step (l : Bytes) (f : UInt8 → UInt8) (k : Nat) (hk : k < l.length) : ((l.take k).map f ++ l.drop k).set k (f l[k]) = (l.take (k + 1)).map f ++ l.drop (k + 1) := by
  have hl : ((l.take k).map f).length = k := by simp; omega
  rw [List.set_append_right _ _ (by omega), hl, Nat.sub_self, List.drop_eq_getElem_cons hk, List.set_cons_zero, List.take_succ_eq_append_getElem hk, List.map_append, List.append_assoc]
  rfl
theorem swp_skip (l : Bytes) (f : UInt8 → UInt8) (k : Nat) (hk : k < l.length) (h : f l[k] = l[k]) : ((l.take k).map f ++ l.drop k) = (l.take (k + 1)).map f ++ l.drop (k + 1) := by
  rw [← swp_step l f k hk, h]
  apply List.ext_getElem?
  intro i
  by_cases e : i = k
  · subst e
    rw [List.getElem?_set_self (by simp; omega), List.getElem?_append_right (by simp; omega)]
    have : ((l.take i).map f).length = i := by simp; omega
    rw [this, Nat.sub_self, List.getElem?_drop]
    simp [hk]
  · rw [List.getElem?_set_ne (by omega)]

set_option maxRecDepth 100000 in
theorem wBytes_any (s : ByteArray) (a b : UInt8) (w : World) (hs : s.size ≤ 140737488351232) :
    Calls Try.prog 16 #[.string s, .int .u8 (a.toNat : Int), .int .u8 (b.toNat : Int)] w fun e w' => e = .returned (.string (bs ((ls s).map (swp a b)))) ∧ Below w.heap.size w w' := by
  have kb := Lib.run_convert_string_bytes (P := Try.prog) w 9 77 5 s Try.underlying9 Try.underlying77 Try.underlying5
  have hbw : Below w.heap.size w (Lib.bytesWorld w 5 s) := ⟨rfl, rfl, rfl, by rw [Lib.bytesWorld_size]; omega, fun i hi => Lib.bytesWorld_at_old w 5 s i hi⟩
  obtain ⟨cp, hcp⟩ : ∃ cp, cp = grownCap w s.size 0 5 := ⟨_, rfl⟩
  have hnew := Brow.new w s
  obtain ⟨W, hW⟩ : ∃ W, W = Lib.bytesWorld w 5 s := ⟨_, rfl⟩
  rw [← hW] at kb hbw hnew
  rw [← hcp] at kb
  clear hW hcp
  go_enter Try.func16, Try.ntmps16
  go_wp2
  go_loopw [14] (fun i wr => ∃ k : Nat, k ≤ s.size ∧ i = .int .i64 k ∧ Brow wr w.heap.size (((ls s).take k).map (swp a b) ++ (ls s).drop k) ∧ Below w.heap.size w wr) (fun i _ => s.size - (intOf i).toNat)
  case atStart => exact ⟨0, by omega, rfl, by simpa using hnew, hbw⟩
  case round =>
    obtain ⟨k, hk, rfl, hr, hb⟩ := hrel
    by_cases hlt : k < s.size
    · have hll : k < (ls s).length := by rw [ls_length]; exact hlt
      obtain ⟨hc, hf⟩ := hr k (ls s)[k] (by rw [List.getElem?_append_right (by simp; omega)]; simp; rw [show k - min k (ls s).length = 0 by omega]; simp [hll])
      have hst := swp_step (ls s) (swp a b) k hll
      have hsk := swp_skip (ls s) (swp a b) k hll
      have hset : ∀ x, Brow (wr.setCell ⟨w.heap.size, k, none⟩ (.int .u8 (x.toNat : Int))) w.heap.size ((((ls s).take k).map (swp a b) ++ (ls s).drop k).set k x) := fun x => hr.set k x (by simp; omega)
      have HST := Lib.hid hst
      have HSK := Lib.hid hsk
      have HSET := Lib.hid hset
      clear hst hsk hset
      obtain ⟨c, hcc⟩ : ∃ c, c = (ls s)[k] := ⟨_, rfl⟩
      rw [← hcc] at hc
      have HC := Lib.hid hcc
      clear hcc
      by_cases h1 : c = a
      · have e1 : ((c.toNat : Int) == (a.toNat : Int)) = true := by rw [h1]; simp
        go_wp2
        go_roundw
        case rel =>
          refine ⟨k + 1, by omega, by go_num, ?_, hb.setCell (by exact Nat.le_refl _) _⟩
          have := HSET.out b
          rw [← HST.out, ← HC.out]
          rwa [show swp a b c = b by unfold swp; rw [if_pos h1]]
        case measure => simp [intOf]; omega
      · have e1 : ((c.toNat : Int) == (a.toNat : Int)) = false := by simp; intro h; exact h1 (UInt8.toNat_inj.1 (by omega))
        by_cases h2 : c = b
        · have e2 : ((c.toNat : Int) == (b.toNat : Int)) = true := by rw [h2]; simp
          go_wp2
          go_roundw
          case rel =>
            refine ⟨k + 1, by omega, by go_num, ?_, hb.setCell (by exact Nat.le_refl _) _⟩
            have := HSET.out a
            rw [← HST.out, ← HC.out]
            rwa [show swp a b c = a by unfold swp; rw [if_neg h1, if_pos h2]]
          case measure => simp [intOf]; omega
        · have e2 : ((c.toNat : Int) == (b.toNat : Int)) = false := by simp; intro h; exact h2 (UInt8.toNat_inj.1 (by omega))
          go_wp2
          go_roundw
          case rel =>
            refine ⟨k + 1, by omega, by go_num, ?_, hb⟩
            rw [← HSK.out (by rw [← HC.out]; unfold swp; rw [if_neg h1, if_neg h2])]
            exact hr
          case measure => simp [intOf]; omega
    · have hks : k = s.size := by omega
      have hr' : Brow wr w.heap.size ((ls s).map (swp a b)) := by
        have := hr
        rw [List.drop_eq_nil_of_le (by rw [ls_length]; omega), List.take_of_length_le (by rw [ls_length]; omega), List.append_nil] at this
        exact this
      have hcv := run_convert_bytes_arg (P := Try.prog) wr 77 5 Try.underlying77 Try.underlying5 w.heap.size 0 s.size cp (((ls s).map (swp a b)).map fun x => (x.toNat : Int)) (by simp [ls_length]) (fun i hi => by
        have hi' : i < ((ls s).map (swp a b)).length := by rw [List.length_map, ls_length]; exact hi
        have := (hr' i _ (List.getElem?_eq_getElem hi')).1
        rw [Nat.zero_add, this]
        simp [List.getD_eq_getElem?_getD, ls_length, hi]) 9 Try.underlying9
      have hfin : Hid (strOfNums (((ls s).map (swp a b)).map fun x => (x.toNat : Int)) = bs ((ls s).map (swp a b))) := by
        have e : (((ls s).map (swp a b)).map fun x => (x.toNat : Int)).map (fun n => UInt8.ofNat n.toNat) = (ls s).map (swp a b) := by
          rw [List.map_map]
          apply List.ext_getElem (by simp)
          intro n h1 h2
          simp
        show _ = _
        unfold strOfNums bs
        rw [e]
      obtain ⟨z, hz⟩ : ∃ z, z = strOfNums (((ls s).map (swp a b)).map fun x => (x.toNat : Int)) := ⟨_, rfl⟩
      rw [← hz] at hcv hfin
      clear hz hks hr hr'
      go_wp2
      go_ret
      exact ⟨congrArg (fun x => Ending.returned (.string x)) hfin.out, hb⟩
end Go.Proofs.Ytkjgppmbbljbkaa
