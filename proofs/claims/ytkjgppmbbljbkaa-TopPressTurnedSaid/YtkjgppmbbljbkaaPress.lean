/- The walks of package press. -/
import Derived.Test.YtkjgppmbbljbkaaBase
set_option linter.unusedVariables false
set_option linter.unusedSimpArgs false
namespace Go.Proofs.Ytkjgppmbbljbkaa
open Go.RowKit

theorem ret_int {k : IntKind} {a b : Int} (h : a = b) : Ending.returned (.int k a) = .returned (.int k b) := by rw [h]

/-- The byte of a string at a place, as the walk asks for it. -/
theorem run_idx (s : ByteArray) (z : Int) (n : Nat) (hz : z = n) (h : n < s.size) : ∀ W : World, (Instr.index 9 (.string s) (.int .i64 z)).run Try.prog W = .ok (.int .u8 (s[n].toNat : Int)) W := by
  intro W
  subst hz
  rw [run_index_string W 9 s .i64 n Try.underlying9, dif_pos ⟨by omega, by omega⟩]
  rfl

theorem run_any (s : ByteArray) (i : Nat) (w : World) (hs : s.size ≤ 48) (hi : i < s.size) :
    Calls Try.prog 40 #[.string s, .int .i64 i] w fun e w' => e = .returned (.int .i64 (runL ((ls s).drop i))) ∧ ∃ n, w.drewN n = w' := by
  have hle : runL ((ls s).drop i) ≤ s.size - i := by have := runL_le ((ls s).drop i); rw [List.length_drop, ls_length] at this; exact this
  have hlp : 0 < ((ls s).drop i).length := by rw [List.length_drop, ls_length]; omega
  have hp := runL_pos ((ls s).drop i) (List.length_pos_iff.1 hlp)
  go_enter Try.func40, Try.ntmps40
  go_wp2
  go_loopw [5] (fun v wr => ∃ k : Nat, 1 ≤ k ∧ k ≤ runL ((ls s).drop i) ∧ v = .int .i64 k ∧ ∃ n, w.drewN n = wr) (fun v _ => 48 - (intOf v).toNat)
  case atStart => exact ⟨1, by omega, hp, rfl, 0, rfl⟩
  case round =>
    obtain ⟨k, h1, hk, rfl, n0, rfl⟩ := hrel
    have hm := runL_more ((ls s).drop i) hlp k h1 hk
    simp only [List.getElem_drop, List.length_drop, ls_length, ls_at, Nat.add_zero] at hm
    have hsum : IntKind.i64.wrap ((i : Int) + k) = (i : Int) + k := IntWalk.i64_in _ (by omega)
    have h0 : (0 : Int) ≤ (i : Int) + k := by omega
    have hN : ((i : Int) + k).toNat = i + k := by omega
    have h130 : decide ((k : Int) < 130) = true := by simp; omega
    by_cases hlt : i + k < s.size
    · have hd : decide ((i : Int) + k < (s.size : Int)) = true := by simp; omega
      have hx1 := run_idx s ((i : Int) + k) (i + k) (by omega) hlt
      have hx2 := run_idx s (i : Int) i rfl hi
      by_cases he : s[i + k] = s[i]
      · have hgo : k < runL ((ls s).drop i) := hm.2 ⟨by omega, he⟩
        have heq : ((s[i+k].toNat : Int) == (s[i].toNat : Int)) = true := by rw [he]; simp
        clear hm he
        go_wp2
        go_quiet (fail)
        go_wp2
        go_roundw
        case rel => exact ⟨k + 1, by omega, by omega, by go_num, _, rfl⟩
        case measure => simp [intOf]; omega
      · have hgo : ¬ k < runL ((ls s).drop i) := fun h => he (hm.1 h).2
        have heq : ((s[i+k].toNat : Int) == (s[i].toNat : Int)) = false := by simp; intro h; exact he (UInt8.toNat_inj.1 (by omega))
        clear hm he
        go_wp2
        go_quiet (fail)
        go_wp2
        go_ret
        exact ⟨ret_int (by omega), _, (World.drewN_drewN _ _ _).symm⟩
    · have hd : decide ((i : Int) + k < (s.size : Int)) = false := by simp; omega
      have hgo : ¬ k < runL ((ls s).drop i) := fun h => by obtain ⟨h, _⟩ := hm.1 h; omega
      clear hm
      go_wp2
      go_quiet (fail)
      go_wp2
      go_ret
      exact ⟨ret_int (by omega), _, (World.drewN_drewN _ _ _).symm⟩

theorem pack_long (s : ByteArray) (w : World) (hs : 48 < s.size) (hm : s.size ≤ maxLen) :
    Calls Try.prog 15 #[.string s] w fun e w' => e = .returned (.tuple #[.string (bs []), .int .i64 1]) ∧ w = w' := by
  have h48 : (48 : Int) < (s.size : Int) := by omega
  unfold maxLen at hm
  go_enter Try.func15, Try.ntmps15
  go_wp2
  go_ret2
  exact ⟨rfl, rfl⟩

theorem drop_head (s : ByteArray) (k : Nat) (h : k < s.size) : (ls s).drop k = s[k] :: (ls s).drop (k + 1) := by
  rw [List.drop_eq_getElem_cons (by rw [ls_length]; exact h)]
  rfl
theorem packed_bound (s : ByteArray) (acc rest : Bytes) (hs : s.size ≤ 48) (h : Hid (acc ++ packL rest = packL (ls s))) : acc.length ≤ 96 := by
  have := congrArg List.length h.out
  have h2 := packL_length_le 48 (ls s) (by rw [ls_length]; exact hs)
  rw [ls_length] at h2
  rw [List.length_append] at this
  omega
theorem pack_step_run (s : ByteArray) (k : Nat) (acc : Bytes) (hk : k < s.size) (h3 : 3 ≤ runL ((ls s).drop k)) (h : Hid (acc ++ packL ((ls s).drop k) = packL (ls s))) :
    Hid ((acc ++ [byt (125 + runL ((ls s).drop k)), s[k]]) ++ packL ((ls s).drop (k + runL ((ls s).drop k))) = packL (ls s)) := by
  show _ = _
  rw [← h.out, packL_run _ _ _ (drop_head s k hk) h3, List.append_assoc, List.drop_drop]
  rfl
theorem pack_step_plain (s : ByteArray) (k m : Nat) (acc : Bytes) (hk : k < s.size) (h3 : runL ((ls s).drop k) < 3) (hm : plainL ((ls s).drop k) = m) (h : Hid (acc ++ packL ((ls s).drop k) = packL (ls s))) :
    Hid ((acc ++ [byt (m - 1)] ++ ((ls s).drop k).take m) ++ packL ((ls s).drop (k + m)) = packL (ls s)) := by
  show _ = _
  subst hm
  rw [← h.out, packL_plain _ (by rw [drop_head s k hk]; simp) h3, List.append_assoc, List.append_assoc, List.drop_drop]
  rfl

theorem ls_extract (s : ByteArray) (a b : Nat) : ls (s.extract a b) = ((ls s).drop a).take (b - a) := Lib.extract_data s a b
theorem extract_size (s : ByteArray) (a b : Nat) (h : b ≤ s.size) (hab : a ≤ b) : (s.extract a b).size = b - a := by
  rw [← ls_length, ls_extract, List.length_take, List.length_drop, ls_length]; omega
theorem plain_more (s : ByteArray) (k j : Nat) (h : Hid (∀ i, k ≤ i → i < j → runL ((ls s).drop i) < 3)) (hj : runL ((ls s).drop j) < 3) : Hid (∀ i, k ≤ i → i < j + 1 → runL ((ls s).drop i) < 3) := by
  intro i h1 h2
  rcases Nat.lt_or_ge i j with h' | h'
  · exact h.out i h1 h'
  · rw [show i = j by omega]; exact hj
theorem plain_end (s : ByteArray) (k j : Nat) (hkj : k ≤ j) (hj : j ≤ s.size) (h : Hid (∀ i, k ≤ i → i < j → runL ((ls s).drop i) < 3)) (he : ¬ (j < s.size ∧ runL ((ls s).drop j) < 3)) : plainL ((ls s).drop k) = j - k := by
  have hlen : ((ls s).drop k).length = s.size - k := by rw [List.length_drop, ls_length]
  have h1 := plainL_drop (j - k) ((ls s).drop k) (by omega) (fun i hi => by rw [List.drop_drop]; exact h.out (k + i) (by omega) (by omega))
  rw [h1, List.drop_drop, show k + (j - k) = j by omega]
  by_cases hjs : j < s.size
  · have := drop_head s j hjs
    have h3 : ¬ runL ((ls s).drop j) < 3 := fun h => he ⟨hjs, h⟩
    rw [this] at h3 ⊢
    simp only [plainL]
    rw [if_neg h3]
    rfl
  · rw [List.drop_eq_nil_of_le (by rw [ls_length]; omega)]
    rfl

set_option maxRecDepth 100000 in
theorem pack_short (s : ByteArray) (w : World) (hs : s.size ≤ 48) :
    Calls Try.prog 15 #[.string s] w fun e w' => e = .returned (.tuple #[.string (bs (packL (ls s))), .int .i64 0]) ∧ Below w.heap.size w w' := by
  go_enter Try.func15, Try.ntmps15
  go_wp2
  go_loopw [4, 5] (fun v i wr => ∃ (k : Nat) (acc : Bytes), k ≤ s.size ∧ i = .int .i64 k ∧ OwnR EB w.heap.size wr v acc ∧ Hid (acc ++ packL ((ls s).drop k) = packL (ls s)) ∧ Below w.heap.size w wr) (fun _ i _ => 48 - (intOf i).toNat)
  case atStart => exact ⟨0, [], by omega, rfl, World.ownsRow_nil _ _ _ _, rfl, Below.refl _ _⟩
  case round =>
    obtain ⟨k, acc, hk, rfl, ho, hp, hb⟩ := hrel
    by_cases hlt : k < s.size
    · go_wp2_with fail
      refine (run_any s k _ hs hlt).mono ?_
      rintro e w' ⟨rfl, n1, rfl⟩
      have hrl := runL_le ((ls s).drop k)
      rw [List.length_drop, ls_length] at hrl
      have hb8 := byt_toNat (125 + runL ((ls s).drop k)) (by omega)
      have hacc := packed_bound s acc _ hs hp
      by_cases h3 : 3 ≤ runL ((ls s).drop k)
      · have hd3 : decide ((3 : Int) ≤ (runL ((ls s).drop k) : Int)) = true := by simp; omega
        have hbz := hb.size
        go_wp2_with (at_builtin; refine wpList_append_R EB rfl _ _ 77 rfl w.heap.size Try.underlying77 _ _ acc [byt (125 + runL ((ls s).drop k)), s[k]] rfl rfl ?h1 ?h2 ?h3 ?h4 ?_)
        case h1 => exact (ho.drewN n1).alloc _
        case h2 =>
          refine Rd.lit EB _ _ _ 2 ?_ rfl (by decide)
          simp only [Enc.flat, EB, List.flatMap_cons, List.flatMap_nil, hb8]
          show [_, _] = [_, _]
          congr 2
          omega
        case h3 => show (_ + 2) * 1 ≤ _; omega
        case h4 => simp; omega
        intro v1 w1 ho1 hb1 ht1
        go_wp2
        go_roundw
        case rel => exact ⟨k + runL ((ls s).drop k), _, by omega, by go_num, ho1, pack_step_run s k acc hlt h3 hp, ((below_drewN hb n1).alloc (by exact hbz) _).trans hb1⟩
        case measure => simp [intOf]; omega
      · have hd3 : decide ((3 : Int) ≤ (runL ((ls s).drop k) : Int)) = false := by simp; omega
        have hbz := hb.size
        go_wp2_with fail
        obtain ⟨wo, rfl⟩ : ∃ wo : World, wo = wr := ⟨_, rfl⟩
        go_loopw [7] (fun v wi => ∃ j : Nat, k ≤ j ∧ j ≤ s.size ∧ v = .int .i64 j ∧ Hid (∀ i, k ≤ i → i < j → runL ((ls s).drop i) < 3) ∧ ∃ n, wo.drewN n = wi) (fun v _ => 48 - (intOf v).toNat)
        case atStart => exact ⟨k, by omega, by omega, rfl, fun i _ _ => by omega, n1, rfl⟩
        case round =>
          obtain ⟨j, hkj, hjs, rfl, hpl, n2, rfl⟩ := hrel
          have h128 : decide ((j : Int) - (k : Int) < 128) = true := by simp; omega
          by_cases hgo : j < s.size ∧ runL ((ls s).drop j) < 3
          · obtain ⟨hj, h3j⟩ := hgo
            have hdj : decide ((j : Int) < (s.size : Int)) = true := by simp; omega
            have hd3j : decide ((runL ((ls s).drop j) : Int) < 3) = true := by simp; omega
            go_wp2_with fail
            refine (run_any s j _ hs hj).mono ?_
            rintro e w' ⟨rfl, n3, rfl⟩
            go_wp2
            go_roundw
            case rel => exact ⟨j + 1, by omega, by omega, by go_num, plain_more s k j hpl h3j, _, rfl⟩
            case measure => simp [intOf]; omega
          · have hmp := plain_end s k j hkj hjs hpl hgo
            have hj1 : 0 < j - k := hmp ▸ plainL_pos _ (by rw [drop_head s k hlt]; simp) (by omega)
            have hbm := byt_toNat (j - k - 1) (by omega)
            have HMP : Hid (plainL ((ls s).drop k) = j - k) := Lib.hid hmp
            clear hpl hmp
            have hw1 : IntKind.i64.wrap ((j : Int) - k) = (j : Int) - k := IntWalk.i64_in _ (by omega)
            have hw2 : IntKind.i64.wrap ((j : Int) - k - 1) = (j : Int) - k - 1 := IntWalk.i64_in _ (by omega)
            have hw3 : IntKind.u8.wrap ((j : Int) - k - 1) = (j : Int) - k - 1 := IntWalk.u8_in _ (by omega)
            have b0 : (0 : Int) ≤ k := by omega
            have b1 : (k : Int) ≤ j := by omega
            have b2 : (j : Int) ≤ s.size := by omega
            have hex := extract_size s k j hjs hkj
            have HEX : Hid ((s.extract k j).size = j - k) := Lib.hid hex
            clear hex
            by_cases hj : j < s.size
            all_goals
              (first
                | (have hdj : decide ((j : Int) < (s.size : Int)) = true := by (simp; omega)
                   have hd3j : decide ((runL ((ls s).drop j) : Int) < 3) = false := by (simp; omega)
                   clear hgo
                   go_wp2_with fail
                   refine (run_any s j _ hs hj).mono ?_
                   rintro e w' ⟨rfl, n3, rfl⟩
                   go_wp2_with fail)
                | (have hdj : decide ((j : Int) < (s.size : Int)) = false := by (simp; omega)
                   clear hgo
                   go_wp2_with fail))
              go_region_held3 (fun w' => True) (trivial) (first
                | (refine step_append_S rfl (.tmp 59) (.tmp 63) (by rfl) w.heap.size _ (acc ++ [byt (j - k - 1)]) (s.extract k j) (by rfl) (by rfl) (by exact ho1) (by rw [HEX.out, List.length_append]; show _ + 1 + _ ≤ _; omega) (by have := hb1.size; simp at this; omega) ?_; intro v2 w2 ho2 hb2 ht2)
                | (refine step_append_R EB rfl (.tmp 52) (.tmp 58) 77 (by rfl) w.heap.size Try.underlying77 _ _ acc [byt (j - k - 1)] (by rfl) (by rfl) (by exact ho.alloc _) (by refine Rd.lit EB _ _ _ 1 ?_ rfl (by decide); simp only [Enc.flat, EB, List.flatMap_cons, List.flatMap_nil, hbm]; show [_] = [_]; congr 2; omega) (by show (_ + 1) * 1 ≤ _; omega) (by simp; omega) ?_; intro v1 w1 ho1 hb1 ht1))
              go_wp2
              go_roundw
              case rel =>
                refine ⟨j, acc ++ [byt (j - k - 1)] ++ ls (s.extract k j), hjs, rfl, ho2, ?_, ((Below.alloc (below_drewN hb _) (by exact hbz) _).trans hb1).trans hb2⟩
                rw [ls_extract]
                have := pack_step_plain s k (j - k) acc hlt (by omega) HMP.out hp
                rwa [show k + (j - k) = j by omega] at this
              case measure => simp [intOf]; omega
    · have hfin : Hid (bs acc = bs (packL (ls s))) := by
        have := hp.out
        rw [List.drop_eq_nil_of_le (by rw [ls_length]; omega), packL_nil, List.append_nil] at this
        show _ = _
        rw [this]
      have hcv := run_string_of _ _ _ ho
      go_wp2
      go_ret2
      exact ⟨congrArg (fun x => Ending.returned (.tuple #[.string x, .int .i64 0])) hfin.out, hb⟩

end Go.Proofs.Ytkjgppmbbljbkaa
