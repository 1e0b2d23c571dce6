/-
  'n & (2^k - 1)' on an int. (Of no program.)
-/
import Derived.Test.YtejpkjcjoengbaaGreatDoorBase
import Derived.Laws.BitsAllLaws
set_option linter.unusedVariables false
set_option linter.unusedSimpArgs false
namespace Go.Proofs.YtejpkjcjoengbaaGreatDoor
open Go.RowKit

theorem and_mask (n : Int) (mk : Nat) (hmk : ∀ x : Nat, x &&& mk = x % (mk + 1)) (hlt : mk < 4611686018427387904) : ∃ m : Nat, m ≤ mk ∧ bits .and .i64 n (mk : Int) = (m : Int) := by
  refine ⟨(BitVec.ofInt 64 n).toNat % (mk + 1), by have := Nat.mod_lt (BitVec.ofInt 64 n).toNat (show 0 < mk + 1 by omega); omega, ?_⟩
  have hb : (BitVec.ofInt 64 (mk : Int)).toNat = mk := by
    rw [BitVec.toNat_ofInt]
    omega
  have hm := Nat.mod_lt (BitVec.ofInt 64 n).toNat (show 0 < mk + 1 by omega)
  have key : bits .and .i64 n (mk : Int) = IntKind.i64.wrap (((BitVec.ofInt 64 n &&& BitVec.ofInt 64 (mk : Int)) : BitVec 64).toNat : Int) := rfl
  rw [key, BitVec.toNat_and, hb, hmk]
  generalize (BitVec.ofInt 64 n).toNat % (mk + 1) = r at *
  have hr : (r : Int) % 18446744073709551616 = r := by omega
  simp [IntKind.wrap, IntKind.bits, IntKind.signed, hr]
  omega
theorem and255 (n : Int) : ∃ m : Nat, m ≤ 255 ∧ bits .and .i64 n 255 = (m : Int) := and_mask n 255 (fun x => Nat.and_two_pow_sub_one_eq_mod x 8) (by decide)
theorem and15 (n : Int) : ∃ m : Nat, m ≤ 15 ∧ bits .and .i64 n 15 = (m : Int) := and_mask n 15 (fun x => Nat.and_two_pow_sub_one_eq_mod x 4) (by decide)
theorem and1023 (n : Int) : ∃ m : Nat, m ≤ 1023 ∧ bits .and .i64 n 1023 = (m : Int) := and_mask n 1023 (fun x => Nat.and_two_pow_sub_one_eq_mod x 10) (by decide)
end Go.Proofs.YtejpkjcjoengbaaGreatDoor
