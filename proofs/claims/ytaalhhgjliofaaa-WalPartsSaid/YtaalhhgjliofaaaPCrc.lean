/- Plain facts about checksums (crc32c, bit by bit, on natural numbers): no program in sight. -/
import Derived.Laws.BitsAllLaws
set_option linter.unusedVariables false
set_option linter.unusedSimpArgs false
namespace Go.Proofs.Ytaalhhgjliofaaa

/-- One bit of the checksum's round. -/
def crcBit (c : Nat) : Nat := if c % 2 = 1 then (c / 2) ^^^ 2197175160 else c / 2
def crcBits : Nat → Nat → Nat
  | 0, c => c
  | k + 1, c => crcBit (crcBits k c)
def crcByte (c b : Nat) : Nat := crcBits 8 (c ^^^ b)
def crcFold (c : Nat) (l : List UInt8) : Nat := l.foldl (fun c b => crcByte c b.toNat) c
def crcMore (c : Nat) (l : List UInt8) : Nat := 4294967295 - crcFold (4294967295 - c) l
def crcSum (l : List UInt8) : Nat := crcMore 0 l
/-- A checksum as four bytes, the lowest first. -/
def crcBytes (c : Nat) : List UInt8 := [UInt8.ofNat c, UInt8.ofNat (c / 256), UInt8.ofNat (c / 65536), UInt8.ofNat (c / 16777216)]

theorem crcBit_lt {c : Nat} (h : c < 4294967296) : crcBit c < 4294967296 := by
  unfold crcBit
  split
  · exact Nat.xor_lt_two_pow (n := 32) (by omega) (by omega)
  · omega
theorem crcBits_lt {c : Nat} (h : c < 4294967296) : ∀ k, crcBits k c < 4294967296
  | 0 => h
  | k + 1 => crcBit_lt (crcBits_lt h k)
theorem crcByte_lt {c b : Nat} (h : c < 4294967296) (hb : b < 256) : crcByte c b < 4294967296 :=
  crcBits_lt (Nat.xor_lt_two_pow (n := 32) h (by omega)) 8
theorem crcFold_lt {c : Nat} (h : c < 4294967296) (l : List UInt8) : crcFold c l < 4294967296 := by
  induction l generalizing c with
  | nil => exact h
  | cons b l ih => exact ih (crcByte_lt h b.toNat_lt)
theorem crcMore_lt (c : Nat) (l : List UInt8) : crcMore c l < 4294967296 := by unfold crcMore; omega
theorem crcSum_lt (l : List UInt8) : crcSum l < 4294967296 := crcMore_lt 0 l
theorem crcFold_append (c : Nat) (l m : List UInt8) : crcFold c (l ++ m) = crcFold (crcFold c l) m := by simp [crcFold]
theorem crcFold_snoc (c : Nat) (l : List UInt8) (b : UInt8) : crcFold c (l ++ [b]) = crcByte (crcFold c l) b.toNat := by simp [crcFold]
theorem ofNat_mod256 (n : Nat) : UInt8.ofNat (n % 256) = UInt8.ofNat n := by
  apply UInt8.toNat.inj
  simp
theorem crcBytes_snoc (c k : Nat) (h : k < 4) : (crcBytes c).take k ++ [UInt8.ofNat (c / 2 ^ (8 * k) % 256)] = (crcBytes c).take (k + 1) := by
  rw [ofNat_mod256]
  rcases (show k = 0 ∨ k = 1 ∨ k = 2 ∨ k = 3 by omega) with rfl | rfl | rfl | rfl <;> simp [crcBytes]
theorem crcBytes_length (c : Nat) : (crcBytes c).length = 4 := rfl

/-- The round's step as the program writes it: poly & -(c & 1). -/
theorem crcBit_mask (x : Nat) (hx : x < 4294967296) :
    bits .xor .u32 ((x : Int) / 2) (bits .and .u32 2197175160 (-bits .and .u32 (x : Int) 1 % 4294967296)) = ((crcBit x : Nat) : Int) := by
  have h1 : bits .and .u32 (x : Int) ((1 : Nat) : Int) = ((x &&& 1 : Nat) : Int) := u32_and_nat x 1 hx (by omega)
  rw [nat_mask1] at h1
  have h1' : bits .and .u32 (x : Int) 1 = ((x % 2 : Nat) : Int) := h1
  rw [h1']
  unfold crcBit
  by_cases h : x % 2 = 1
  · rw [if_pos h, h]
    have h2 : bits .and .u32 ((2197175160 : Nat) : Int) ((4294967295 : Nat) : Int) = ((2197175160 &&& 4294967295 : Nat) : Int) := u32_and_nat _ _ (by omega) (by omega)
    have h3 : (-((1 : Nat) : Int) % 4294967296) = ((4294967295 : Nat) : Int) := by decide
    rw [h3]
    have h4 : bits .and .u32 2197175160 ((4294967295 : Nat) : Int) = ((2197175160 : Nat) : Int) := h2
    rw [h4]
    exact u32_xor_nat (x / 2) 2197175160 (by omega) (by omega)
  · have h0 : x % 2 = 0 := by omega
    rw [if_neg h, h0]
    have h2 : bits .and .u32 ((2197175160 : Nat) : Int) ((0 : Nat) : Int) = ((2197175160 &&& 0 : Nat) : Int) := u32_and_nat _ _ (by omega) (by omega)
    have h3 : (-((0 : Nat) : Int) % 4294967296) = ((0 : Nat) : Int) := by decide
    rw [h3]
    have h4 : bits .and .u32 2197175160 ((0 : Nat) : Int) = ((0 : Nat) : Int) := h2
    rw [h4]
    have h5 := u32_xor_nat (x / 2) 0 (by omega) (by omega)
    simpa using h5

theorem nat_not32 (c : Nat) (h : c < 4294967296) : 4294967295 ^^^ c = 4294967295 - c := by
  apply Nat.eq_of_testBit_eq
  intro i
  have e : 4294967295 - c = 2 ^ 32 - (c + 1) := by omega
  rw [e, Nat.testBit_two_pow_sub_succ (n := 32) h i, Nat.testBit_xor, show (4294967295 : Nat) = 2 ^ 32 - 1 from rfl, Nat.testBit_two_pow_sub_one]
  by_cases hi : i < 32
  · simp [hi]
  · have : c.testBit i = false := Nat.testBit_lt_two_pow (Nat.lt_of_lt_of_le h (Nat.pow_le_pow_right (n := 2) (i := 32) (by omega) (by omega)))
    simp [hi, this]
theorem bits_not32 (c : Nat) (h : c < 4294967296) : bits .xor .u32 IntKind.u32.max (c : Int) = ((4294967295 - c : Nat) : Int) := by
  have := u32_xor_nat 4294967295 c (by omega) h
  rw [nat_not32 c h] at this
  exact this

end Go.Proofs.Ytaalhhgjliofaaa
