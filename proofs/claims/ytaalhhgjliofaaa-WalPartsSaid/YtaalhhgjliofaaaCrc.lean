/- Contracts of the checksum functions: the program's (silo/crc) and the document's (siloref02, where it is in the cut): crcStep, crcSum, crcBytes. -/
import Derived.Test.YtaalhhgjliofaaaProg
import Derived.Test.YtaalhhgjliofaaaPCrc
import Derived.Test.YtaalhhgjliofaaaBld
set_option linter.unusedVariables false
set_option linter.unusedSimpArgs false
set_option maxRecDepth 100000
namespace Go.Proofs.Ytaalhhgjliofaaa
open Go.RowKit

theorem crc_step (c b : Nat) (w : World) (hc : c < 4294967296) (hb : b < 256) :
    Calls Try.prog 51 #[.int .u32 c, .int .u8 b] w fun e w' => e = .returned (.int .u32 (crcByte c b)) ∧ w = w' := by
  have hx : c ^^^ b < 4294967296 := Nat.xor_lt_two_pow (n := 32) hc (by omega)
  have H1 := Lib.hid (u32_xor_nat c b hc (by omega))
  go_enter Try.func51, Try.ntmps51
  go_wp2
  rw [H1.out]
  go_loop [0, 9] (fun x i => ∃ k : Nat, k ≤ 8 ∧ i = .int .i64 k ∧ x = .int .u32 (crcBits k (c ^^^ b))) (fun _ i => 8 - (intOf i).toNat)
  case atStart => exact ⟨0, by omega, rfl, rfl⟩
  case round =>
    obtain ⟨k, hk, rfl, rfl⟩ := hrel
    have hl := crcBits_lt hx k
    by_cases hlt : k < 8
    · go_wp2
      go_round
      case rel => exact ⟨k + 1, by omega, by go_num, by rw [crcBit_mask _ hl]; rfl⟩
      case measure => simp [intOf]; omega
    · go_wp2
      go_ret
      have : k = 8 := by omega
      subst this
      exact ⟨rfl, rfl⟩

theorem crc_more1 (c b : Nat) (w : World) (hc : c < 4294967296) (hb : b < 256) :
    Calls Try.prog 50 #[.int .u32 c, .int .u8 b] w fun e w' => e = .returned (.int .u32 (crcByte c b)) ∧ w = w' := by
  go_enter Try.func50, Try.ntmps50
  go_wp2_with (go_at_call 51; refine (crc_step _ _ _ hc hb).mono ?_; rintro e w' ⟨rfl, rfl⟩)
  go_ret
  exact ⟨rfl, rfl⟩

theorem crc_fold (c : Nat) (s : ByteArray) (w : World) (hc : c < 4294967296) (hs : s.size ≤ 9223372036854775807) :
    Calls Try.prog 49 #[.int .u32 c, .string s, .func (.func 50) #[] #[]] w fun e w' => e = .returned (.int .u32 (crcFold c s.data.toList)) ∧ w = w' := by
  go_enter Try.func49, Try.ntmps49
  go_wp2
  go_loop [0, 10] (fun x i => ∃ k : Nat, k ≤ s.size ∧ i = .int .i64 k ∧ x = .int .u32 (crcFold c (s.data.toList.take k))) (fun _ i => s.size - (intOf i).toNat)
  case atStart => exact ⟨0, by omega, rfl, rfl⟩
  case round =>
    obtain ⟨k, hk, rfl, rfl⟩ := hrel
    have hl := crcFold_lt hc (s.data.toList.take k)
    by_cases hlt : k < s.size
    · have hsn : crcFold c (s.data.toList.take (k + 1)) = crcByte (crcFold c (s.data.toList.take k)) s[k].toNat := by
        rw [← crcFold_snoc]; congr 1
        rw [List.take_succ_eq_append_getElem (by simpa using hlt)]; rfl
      have HS := Lib.hid hsn
      clear hsn
      have hbt := s[k].toNat_lt
      go_wp2_with (go_at_call 50; refine (crc_more1 _ _ _ hl hbt).mono ?_; rintro e w' ⟨rfl, rfl⟩)
      go_round
      case rel => exact ⟨k + 1, by omega, by go_num, by rw [HS.out]⟩
      case measure => simp [intOf]; omega
    · go_wp2
      go_ret
      exact ⟨by rw [List.take_of_length_le (by simp; omega)]; rfl, rfl⟩

theorem crc_more (c : Nat) (s : ByteArray) (w : World) (hc : c < 4294967296) (hs : s.size ≤ 9223372036854775807) :
    Calls Try.prog 32 #[.int .u32 c, .string s] w fun e w' => e = .returned (.int .u32 (crcMore c s.data.toList)) ∧ w = w' := by
  have hl : 4294967295 - c < 4294967296 := by omega
  have hf := crcFold_lt hl s.data.toList
  have hsg : IntKind.u32.signed = false := rfl
  have H1 := Lib.hid (bits_not32 c hc)
  have H2 := Lib.hid (bits_not32 _ hf)
  go_enter Try.func32, Try.ntmps32
  go_wp2_with fail
  rw [H1.out]
  refine (crc_fold _ _ _ hl hs).mono ?_
  rintro e w' ⟨rfl, rfl⟩
  go_wp2_with fail
  rw [H2.out]
  go_ret
  exact ⟨rfl, rfl⟩

theorem crc_sum (s : ByteArray) (w : World) (hs : s.size ≤ 9223372036854775807) :
    Calls Try.prog 20 #[.string s] w fun e w' => e = .returned (.int .u32 (crcSum s.data.toList)) ∧ w = w' := by
  go_enter Try.func20, Try.ntmps20
  go_wp2_with (go_at_call 32; refine (crc_more 0 _ _ (by decide) hs).mono ?_; rintro e w' ⟨rfl, rfl⟩)
  go_ret
  exact ⟨rfl, rfl⟩

theorem crc_bytes (c : Nat) (w : World) (hc : c < 4294967296) :
    Calls Try.prog 19 #[.int .u32 c] w fun e w' => e = .returned (.string ⟨(crcBytes c).toArray⟩) ∧ Below w.heap.size w w' := by
  go_enter Try.func19, Try.ntmps19
  go_wp2
  go_loopw [4, 5] (fun _ i wr => ∃ k : Nat, k ≤ 4 ∧ i = .int .i64 k ∧ Bld wr w.heap.size w.heap.size ((crcBytes c).take k) ∧ Below w.heap.size w wr) (fun _ i _ => 4 - (intOf i).toNat)
  case atStart => exact ⟨0, by omega, rfl, Bld.fresh w, (Below.refl _ w).alloc (Nat.le_refl _) _⟩
  case round =>
    obtain ⟨k, hk, rfl, hb, hbel⟩ := hrel
    by_cases hlt : k < 4
    · have hcv : ((c : Int) / 2 ^ (8 * k) % 256) = ((c / 2 ^ (8 * k) % 256 : Nat) : Int) := by simp
      have HC := Lib.hid hcv
      clear hcv
      have hl : ((crcBytes c).take k).length < 140737488355328 := by simp [crcBytes_length]; omega
      go_wp2_with fail
      rw [HC.out]
      refine (bld_writeByte _ _ _ _ (by omega) _ hb hl).mono ?_
      rintro e w' ⟨rfl, hb2, hbel2⟩
      rw [crcBytes_snoc c k hlt] at hb2
      go_wp2_with fail
      go_roundw
      case rel => exact ⟨k + 1, by omega, by go_num, hb2, hbel.trans hbel2⟩
      case measure => simp [intOf]; omega
    · obtain rfl : k = 4 := by omega
      go_wp2_with (go_at_call 31; refine (bld_string _ _ _ _ hb).mono ?_; rintro e w' ⟨rfl, hb2⟩)
      go_ret
      exact ⟨rfl, hbel.trans hb2⟩
end Go.Proofs.Ytaalhhgjliofaaa
