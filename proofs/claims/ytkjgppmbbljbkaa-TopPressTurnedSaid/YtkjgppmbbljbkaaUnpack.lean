/- The walk of press.Unpack over what Pack has made. -/
import Derived.Test.YtkjgppmbbljbkaaPress
set_option linter.unusedVariables false
set_option linter.unusedSimpArgs false
namespace Go.Proofs.Ytkjgppmbbljbkaa
open Go.RowKit

theorem run_idx' (s : ByteArray) (z : Int) (n : Nat) (b : UInt8) (v : Int) (hz : z = n) (h : (ls s)[n]? = some b) (hv : (b.toNat : Int) = v) : ∀ W : World, (Instr.index 9 (.string s) (.int .i64 z)).run Try.prog W = .ok (.int .u8 v) W := by
  intro W
  have hn : n < s.size := by have := (List.getElem?_eq_some_iff.1 h).1; rwa [ls_length] at this
  have hb : s[n] = b := by
    have := (List.getElem?_eq_some_iff.1 h).2
    rw [← this]; rfl
  rw [run_idx s z n hz hn W, hb, hv]

theorem drop_at {l : Bytes} {i : Nat} {a : UInt8} {t : Bytes} (h : l.drop i = a :: t) : l[i]? = some a ∧ l.drop (i + 1) = t ∧ i < l.length := by
  have hi : i < l.length := by
    rcases Nat.lt_or_ge i l.length with h' | h'
    · exact h'
    · rw [List.drop_eq_nil_of_le h'] at h; cases h
  rw [List.drop_eq_getElem_cons hi] at h
  injection h with h1 h2
  exact ⟨by rw [List.getElem?_eq_getElem hi, h1], h2, hi⟩

theorem takeWhile_rep (a : UInt8) : ∀ t : Bytes, t.takeWhile (· == a) = List.replicate (t.takeWhile (· == a)).length a
  | [] => rfl
  | b :: t => by
    by_cases h : (b == a) = true
    · rw [List.takeWhile_cons_of_pos (p := (· == a)) h, List.length_cons, List.replicate_succ, ← takeWhile_rep a t]
      congr 1
      simpa using h
    · rw [List.takeWhile_cons_of_neg (p := (· == a)) h]
      rfl

theorem run_take (a : UInt8) (t : Bytes) : (a :: t).take (runL (a :: t)) = List.replicate (runL (a :: t)) a := by
  have h1 : t.take (t.takeWhile (· == a)).length = t.takeWhile (· == a) := by
    have := List.takeWhile_prefix (· == a) (l := t)
    exact (List.prefix_iff_eq_take.1 this).symm
  simp only [runL]
  rw [Nat.add_comm, List.take_succ_cons, List.replicate_succ, h1, ← takeWhile_rep a t]

theorem packL_ne (r : Bytes) (h : r ≠ []) : packL r ≠ [] := by
  cases r with
  | nil => exact absurd rfl h
  | cons a t =>
    by_cases h3 : 3 ≤ runL (a :: t)
    · rw [packL_run _ a t rfl h3]; simp
    · rw [packL_plain _ (by simp) (by omega)]; simp

set_option maxRecDepth 100000 in
theorem unpack_any (s : ByteArray) (l : Bytes) (w : World) (hl : l.length ≤ 48) (hs : s = bs (packL l)) :
    Calls Try.prog 17 #[.string s] w fun e w' => e = .returned (.tuple #[.string (bs l), .int .i64 0]) ∧ Below w.heap.size w w' := by
  have hsz : s.size ≤ 96 := by
    have := packL_length_le 48 l hl
    rw [hs, bs_size]; omega
  have HS : Hid (s = bs (packL l)) := Lib.hid hs
  have hls : Hid (ls s = packL l) := by show _ = _; rw [hs, ls_bs]
  clear hs
  go_enter Try.func17, Try.ntmps17
  go_wp2
  go_loopw [4, 5] (fun v i wr => ∃ (k : Nat) (acc r : Bytes), k ≤ s.size ∧ i = .int .i64 k ∧ OwnR EB w.heap.size wr v acc ∧ Hid (acc ++ r = l) ∧ Hid ((ls s).drop k = packL r) ∧ Below w.heap.size w wr) (fun _ i _ => 96 - (intOf i).toNat)
  case atStart => exact ⟨0, [], l, by omega, rfl, OwnR.nil _ _ _, rfl, hls.out, Below.refl _ _⟩
  case round =>
    obtain ⟨k, acc, r, hk, rfl, ho, har, hd, hb⟩ := hrel
    have hlen : acc.length + r.length ≤ 48 := by have := congrArg List.length har.out; rw [List.length_append] at this; omega
    have hbz := hb.size
    cases r with
    | nil =>
      have hks : k = s.size := by
        have := congrArg List.length hd.out
        rw [List.length_drop, ls_length, packL_nil, List.length_nil] at this
        omega
      have hge : s.size ≤ k := by omega
      have hal : Hid (acc = l) := by have := har.out; rwa [List.append_nil] at this
      have hcv := run_string_of _ _ _ ho
      have hneq : ((bs (packL (ls (bs acc)))).toList == s.toList) = true := by
        rw [ls_bs, hal.out, ← HS.out]
        simp
      clear hks har hd
      have hasz : (bs acc).size ≤ 48 := by rw [bs_size]; simp at hlen; exact hlen
      go_wp2_with fail
      refine (pack_short (bs acc) _ hasz).mono ?_
      rintro e w2 ⟨rfl, hb2⟩
      have hcv2 := run_string_of _ _ _ (ho.below hb2)
      go_wp2
      go_ret2
      exact ⟨congrArg (fun x => Ending.returned (.tuple #[.string (bs x), .int .i64 0])) hal.out, below_trans hb hb2 hbz⟩
    | cons a t =>
      have hne : k < s.size := by
        rcases Nat.lt_or_ge k s.size with h | h
        · exact h
        · have := hd.out
          rw [List.drop_eq_nil_of_le (by rw [ls_length]; exact h)] at this
          exact absurd this.symm (packL_ne _ (by simp))
      by_cases h3 : 3 ≤ runL (a :: t)
      · have hrl := runL_le (a :: t)
        have hlc : (a :: t).length = t.length + 1 := rfl
        have hd1 : (ls s).drop k = byt (125 + runL (a :: t)) :: a :: packL ((a :: t).drop (runL (a :: t))) := by rw [hd.out, packL_run _ a t rfl h3]
        obtain ⟨e0, hd2, _⟩ := drop_at hd1
        obtain ⟨e1, hd3, hk2⟩ := drop_at hd2
        have HD3 : Hid ((ls s).drop (k + 1 + 1) = packL ((a :: t).drop (runL (a :: t)))) := hd3
        rw [ls_length] at hk2
        have htk := run_take a t
        have HTK : Hid ((a :: t).take (runL (a :: t)) = List.replicate (runL (a :: t)) a) := htk
        obtain ⟨n, hn⟩ : ∃ n, n = runL (a :: t) := ⟨_, rfl⟩
        have hi0 := run_idx' s (k : Int) k _ (125 + n : Int) rfl e0 (by rw [byt_toNat _ (by omega)]; omega)
        have hi1 := run_idx' s ((k : Int) + 1) (k + 1) _ (a.toNat : Int) (by omega) e1 rfl
        rw [← hn] at h3 hrl HD3 HTK
        have HN : Hid (n = runL (a :: t)) := hn
        clear hd1 hd2 hd3 e0 e1 htk hd hn
        rw [hlc] at hrl
        simp only [List.length_cons] at hlen
        go_wp2
        obtain ⟨wo, rfl⟩ : ∃ wo : World, wo = wr := ⟨_, rfl⟩
        go_loopw [4, 58] (fun v x wi => ∃ q : Nat, q ≤ n ∧ x = .int .i64 q ∧ OwnR EB w.heap.size wi v (acc ++ List.replicate q a) ∧ Below w.heap.size w wi) (fun _ x _ => 96 - (intOf x).toNat)
        case atStart => exact ⟨0, by omega, rfl, by simpa using ho, hb⟩
        case round =>
          obtain ⟨q, hq, rfl, hoq, hbq⟩ := hrel
          have hbqz := hbq.size
          by_cases hqn : q < n
          · go_wp2_with (at_builtin; refine wpList_append_R EB rfl _ _ 77 rfl w.heap.size Try.underlying77 _ _ (acc ++ List.replicate q a) [a] rfl rfl ?h1 ?h2 ?h3 ?h4 ?_)
            case h1 => exact hoq.alloc _
            case h2 => exact Rd.lit EB _ _ _ 1 rfl rfl (by decide)
            case h3 => rw [List.length_append, List.length_replicate]; show (_ + 1) * 1 ≤ _; omega
            case h4 => simp; omega
            intro v1 w1 ho1 hb1 ht1
            go_wp2
            go_roundw
            case rel => exact ⟨q + 1, by omega, by go_num, by rw [← List.replicate_succ'] at ho1; exact ho1, (hbq.alloc (by exact hbqz) _).trans hb1⟩
            case measure => simp [intOf]; omega
          · have hqe : acc ++ List.replicate q a = acc ++ (a :: t).take n := by rw [HTK.out, show q = n by omega]
            have HQE := Lib.hid hqe
            clear hqe
            obtain ⟨A, c, hv, hc1, hc2⟩ := hoq.own.len
            have hqlen : (acc ++ List.replicate q a).length = acc.length + q := by simp
            rw [hqlen] at hv hc1
            subst hv
            clear hqlen
            go_wp2
            go_roundw
            case rel =>
              refine ⟨k + 2, acc ++ (a :: t).take n, (a :: t).drop n, by omega, by go_num, HQE.out ▸ hoq, ?_, HD3.out, hbq⟩
              show _ = _
              rw [List.append_assoc, List.take_append_drop]
              exact har.out
            case measure => simp [intOf]; omega
      · have hpp := plainL_pos (a :: t) (by simp) (by omega)
        have hrl := plainL_le (a :: t)
        have hlc : (a :: t).length = t.length + 1 := rfl
        have hd1 : (ls s).drop k = byt (plainL (a :: t) - 1) :: ((a :: t).take (plainL (a :: t)) ++ packL ((a :: t).drop (plainL (a :: t)))) := by rw [hd.out, packL_plain _ (by simp) (by omega)]
        obtain ⟨e0, hd2, hk1⟩ := drop_at hd1
        rw [hlc] at hrl
        obtain ⟨c, hc⟩ : ∃ c, plainL (a :: t) = c + 1 := ⟨plainL (a :: t) - 1, by omega⟩
        rw [hc] at hd2 e0 hrl
        have htl : ((a :: t).take (c + 1)).length = c + 1 := by rw [List.length_take, hlc]; omega
        have hle : k + 1 + (c + 1) ≤ s.size := by
          have := congrArg List.length hd2
          rw [List.length_drop, ls_length, List.length_append, htl] at this
          omega
        have HE : Hid (ls (s.extract (k + 1) (k + 2 + c)) = (a :: t).take (c + 1)) := by
          show _ = _
          rw [ls_extract, hd2, show k + 2 + c - (k + 1) = ((a :: t).take (c + 1)).length by rw [htl]; omega, List.take_left]
        have HD3 : Hid ((ls s).drop (k + 2 + c) = packL ((a :: t).drop (c + 1))) := by
          show _ = _
          rw [show k + 2 + c = k + 1 + ((a :: t).take (c + 1)).length by rw [htl]; omega, ← List.drop_drop, hd2, List.drop_left]
        have HX : Hid ((s.extract (k + 1) (k + 2 + c)).size = c + 1) := by
          show _ = _
          rw [extract_size s _ _ (by omega) (by omega)]; omega
        have hi0 := run_idx' s (k : Int) k _ (c : Int) rfl e0 (by rw [byt_toNat _ (by omega)]; omega)
        clear hd1 hd2 e0 hd hc htl h3 hlc hk1 hpp
        simp only [List.length_cons] at hlen
        have hc48 : c ≤ 47 := by omega
        go_wp2_with (at_builtin; refine wpList_append_S rfl _ _ rfl w.heap.size _ acc (s.extract (k + 1) (k + 2 + c)) rfl rfl ?h1 ?h3 ?h4 ?_)
        case h3 => omega
        intro v1 w1 ho1 hb1 ht1
        obtain ⟨A, cp, hv, hc1, hc2⟩ := ho1.own.len
        have hqlen : (acc ++ ls (s.extract (k + 1) (k + 2 + c))).length = acc.length + (c + 1) := by rw [List.length_append, ls_length, HX.out]
        rw [hqlen] at hv hc1
        subst hv
        clear hqlen
        go_wp2
        go_roundw
        case rel =>
          refine ⟨k + 2 + c, acc ++ (a :: t).take (c + 1), (a :: t).drop (c + 1), by omega, by go_num, HE.out ▸ ho1, ?_, HD3.out, hb.trans hb1⟩
          show _ = _
          rw [List.append_assoc, List.take_append_drop]
          exact har.out
        case measure => simp [intOf]; omega
end Go.Proofs.Ytkjgppmbbljbkaa
