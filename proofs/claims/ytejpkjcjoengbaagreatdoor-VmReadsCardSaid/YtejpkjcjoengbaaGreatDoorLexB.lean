/-
  lex.run, by walk: the names' and digits' bytes that a text begins with.
-/
import Derived.Test.YtejpkjcjoengbaaGreatDoorLexA
set_option linter.unusedVariables false
set_option linter.unusedSimpArgs false
namespace Go.Proofs.YtejpkjcjoengbaaGreatDoor
open Go.RowKit

/-- A text of bytes. -/
abbrev bs (l : List UInt8) : ByteArray := ⟨l.toArray⟩
def innerU (c : UInt8) : Bool := innerB (c.toNat : Int)
def runF (l : List UInt8) : List UInt8 := l.takeWhile innerU

theorem bs_list (l : List UInt8) : (bs l).data.toList = l := rfl
theorem bs_of (s : ByteArray) : bs s.data.toList = s := rfl
theorem bs_size (l : List UInt8) : (bs l).size = l.length := by simp [bs, ByteArray.size]
theorem size_list (s : ByteArray) : s.size = s.data.toList.length := rfl
theorem get_list (s : ByteArray) (k : Nat) (h : k < s.size) : s.data.toList[k]'(by rw [← size_list]; exact h) = s[k] := rfl
theorem extract_bs (s : ByteArray) (k : Nat) : s.extract 0 k = bs (s.data.toList.take k) := by
  apply ByteArray.ext
  apply Array.toList_inj.1
  simp [bs]
theorem takeWhile_take {α : Type} (p : α → Bool) (l : List α) (k : Nat) (hk : k ≤ l.length) (h : ∀ j (hj : j < l.length), j < k → p l[j] = true) (he : ∀ hk : k < l.length, p (l[k]'hk) = false) : l.takeWhile p = l.take k := by
  induction l generalizing k with
  | nil => simp
  | cons a l ih =>
    cases k with
    | zero => have := he (by simp); simp at this; simp [this]
    | succ k =>
      have h0 := h 0 (by simp) (by omega)
      simp at h0
      simp only [List.takeWhile_cons, h0, if_true, List.take_succ_cons]
      rw [ih k (by simpa using hk) (fun j hj hjk => by have := h (j + 1) (by simp; omega) (by omega); simpa using this) (fun hk' => by have := he (by simp; omega); simpa using this)]
theorem run_end (s : ByteArray) (k : Nat) (hk : k ≤ s.size) (h : ∀ j (hj : j < s.size), j < k → innerU s[j] = true) (he : ∀ hk : k < s.size, innerU (s[k]'hk) = false) : s.extract 0 k = bs (runF s.data.toList) := by
  rw [extract_bs]
  unfold runF
  rw [takeWhile_take innerU s.data.toList k (by rw [← size_list]; exact hk) (fun j hj hjk => h j (by rw [size_list]; exact hj) hjk) (fun hk' => he (by rw [size_list]; exact hk'))]

set_option maxHeartbeats 400000 in
theorem lex_run (s : ByteArray) (w : World) (hs : s.size ≤ maxLen) :
    Calls Tryz.prog 100 #[.string s] w fun e w' => e = .returned (.string (bs (runF s.data.toList))) ∧ w = w' := by
  unfold maxLen at hs
  go_enter Tryz.func100, Tryz.ntmps100
  go_wp2
  go_loop [3] (fun i => ∃ k : Nat, k ≤ s.size ∧ i = .int .i64 k ∧ Hid (∀ j (hj : j < s.size), j < k → innerU s[j] = true)) (fun i => s.size - (intOf i).toNat)
  case atStart => exact ⟨0, Nat.zero_le _, rfl, fun j hj h => by omega⟩
  case round =>
    obtain ⟨k, hk, rfl, hall⟩ := hrel
    by_cases hlt : k < s.size
    · go_wp2_with (go_at_call 106; refine (lex_inner _ _ (by omega) (by have := (s[k]'hlt).toNat_lt; omega)).mono ?_; rintro e w' ⟨rfl, rfl⟩)
      · have hin : innerB ↑s[k].toNat = true := by assumption
        go_round
        case rel =>
          refine ⟨k + 1, by omega, by go_num, fun j hj hjk => ?_⟩
          by_cases e : j = k
          · subst e; exact hin
          · exact hall.out j hj (by omega)
        case measure => simp [intOf]; omega
      · have hin : innerB ↑s[k].toNat = false := by assumption
        go_ret
        exact ⟨ret_str (run_end s k hk hall.out (fun _ => hin)), rfl⟩
    · go_wp2
      go_ret
      exact ⟨ret_str (run_end s k hk hall.out (fun h => absurd h hlt)), rfl⟩
end Go.Proofs.YtejpkjcjoengbaaGreatDoor
