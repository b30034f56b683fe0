/- Two bytes in each other's places: a text is packed to as many bytes, and comes back so. No condition. -/
import Derived.Test.YtkjgppmbbljbkaaUnpack
import Derived.Test.YtkjgppmbbljbkaaBytes
set_option linter.unusedVariables false
set_option linter.unusedSimpArgs false
namespace Go.Proofs.Ytkjgppmbbljbkaa
open Go.RowKit

theorem swp_inj (a b : UInt8) : ∀ x y, swp a b x = swp a b y → x = y := by
  intro x y h
  unfold swp at h
  by_cases h1 : x = a <;> by_cases h2 : y = a <;> by_cases h3 : x = b <;> by_cases h4 : y = b <;> simp_all

theorem aaa_packed : ((bs (packL (ls ⟨#[97, 97, 97]⟩))).toList == [128, 97]) = true := by decide +kernel

theorem pressTurned_walk (s : ByteArray) (a b : UInt8) (w : World) (hs : s.size ≤ 140737488351232) :
    Calls Try.prog 3 #[.string s, .int .u8 (a.toNat : Int), .int .u8 (b.toNat : Int)] w fun e w' => e = .returned (.bool true) ∧ Below w.heap.size w w' := by
  have htl : (bs ((ls s).map (swp a b))).size = s.size := by rw [bs_size, List.length_map, ls_length]
  have h3 : (⟨#[97, 97, 97]⟩ : ByteArray).size ≤ 48 := by decide
  obtain ⟨t, ht⟩ : ∃ t, t = bs ((ls s).map (swp a b)) := ⟨_, rfl⟩
  have hlt : ls t = (ls s).map (swp a b) := by rw [ht, ls_bs]
  rw [← ht] at htl
  by_cases h48 : s.size ≤ 48
  · have hts : t.size ≤ 48 := by omega
    have hlen : (bs (packL (ls s))).size = (bs (packL (ls t))).size := by
      rw [bs_size, bs_size, hlt, packL_map_length (swp_inj a b) _ _ (Nat.le_refl _)]
    have HLEN := Lib.hid hlen
    have HT := Lib.hid ht
    have hlt48 : (ls t).length ≤ 48 := by rw [ls_length]; exact hts
    have hback : bs (ls t) = t := bs_ls t
    have HB := Lib.hid hback
    clear hlt hlen ht hback
    have hx := aaa_packed
    have hleq : (((bs (packL (ls s))).size : Int) == ((bs (packL (ls t))).size : Int)) = true := by rw [HLEN.out]; simp
    go_enter Try.func3, Try.ntmps3
    go_wp2_with fail
    refine (pack_short _ _ h3).mono ?_
    rintro e w1 ⟨rfl, hb1⟩
    go_wp2_with fail
    refine (pack_short _ _ h48).mono ?_
    rintro e w2 ⟨rfl, hb2⟩
    go_wp2_with fail
    refine (wBytes_any s a b _ hs).mono ?_
    rintro e w3 ⟨rfl, hb3⟩
    rw [← HT.out]
    go_wp2_with fail
    refine (pack_short _ _ hts).mono ?_
    rintro e w4 ⟨rfl, hb4⟩
    go_wp2_with fail
    refine (unpack_any _ (ls t) _ hlt48 rfl).mono ?_
    rintro e w5 ⟨rfl, hb5⟩
    rw [HB.out]
    go_wp2
    go_ret
    exact ⟨rfl, below_trans (below_trans (below_trans (below_trans hb1 hb2 hb1.size) hb3 (Nat.le_trans hb1.size hb2.size)) hb4 (Nat.le_trans hb1.size (Nat.le_trans hb2.size hb3.size))) hb5 (Nat.le_trans hb1.size (Nat.le_trans hb2.size (Nat.le_trans hb3.size hb4.size)))⟩
  · have hm : s.size ≤ maxLen := by simp only [maxLen]; omega
    have hmt : t.size ≤ maxLen := by rw [htl]; exact hm
    have h48t : 48 < t.size := by omega
    have h48s : 48 < s.size := by omega
    have HT := Lib.hid ht
    clear hlt ht htl h48
    have hx := aaa_packed
    go_enter Try.func3, Try.ntmps3
    go_wp2_with fail
    refine (pack_short _ _ h3).mono ?_
    rintro e w1 ⟨rfl, hb1⟩
    go_wp2_with fail
    refine (pack_long _ _ h48s hm).mono ?_
    rintro e w2 ⟨rfl, rfl⟩
    go_wp2_with fail
    refine (wBytes_any s a b _ hs).mono ?_
    rintro e w3 ⟨rfl, hb3⟩
    rw [← HT.out]
    go_wp2_with fail
    refine (pack_long _ _ h48t hmt).mono ?_
    rintro e w4 ⟨rfl, rfl⟩
    go_wp2
    go_ret
    exact ⟨rfl, below_trans hb1 hb3 hb1.size⟩
end Go.Proofs.Ytkjgppmbbljbkaa
