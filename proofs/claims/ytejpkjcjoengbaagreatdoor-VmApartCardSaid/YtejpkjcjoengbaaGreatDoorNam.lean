/-
  tree.isName, by walk (strings.ContainsFunc and what it calls too, after the kit's contract of strings.indexFunc).
-/
import Derived.Test.YtejpkjcjoengbaaGreatDoorVmG
import Derived.Shelf.GgClosure.StringsIndexFunc
set_option linter.unusedVariables false
set_option linter.unusedSimpArgs false
namespace Go.Proofs.YtejpkjcjoengbaaGreatDoor
open Go.RowKit Go.Lib

def strangeB (r : Nat) : Bool := decide (r < 33) || decide (126 < r) || r == 47

theorem strange_call (W : World) (r : Nat) (hr : r < 2147483648) : Calls Tryz.prog 90 #[.int .i32 (r : Int)] W fun e w' => e = .returned (.bool (strangeB r)) ∧ W = w' := by
  by_cases h1 : r < 33
  · have hs : strangeB r = true := by simp [strangeB, h1]
    rw [hs]
    go_enter Tryz.func90, Tryz.ntmps90
    go_wp2
    go_ret
    exact ⟨rfl, rfl⟩
  · by_cases h2 : 126 < r
    · have hs : strangeB r = true := by simp [strangeB, h2]
      rw [hs]
      go_enter Tryz.func90, Tryz.ntmps90
      go_wp2
      go_ret
      exact ⟨rfl, rfl⟩
    · by_cases h3 : r = 47
      · subst h3
        go_enter Tryz.func90, Tryz.ntmps90
        go_wp2
        go_ret
        exact ⟨rfl, rfl⟩
      · have hs : strangeB r = false := by simp [strangeB, h1, h2, h3]
        have q : ((r : Int) == 47) = false := by simp; omega
        have q1 : decide ((r : Int) < 33) = false := by simp; omega
        have q2 : decide (126 < (r : Int)) = false := by simp; omega
        rw [hs]
        go_enter Tryz.func90, Tryz.ntmps90
        go_wp2
        go_ret
        exact ⟨rfl, rfl⟩

theorem decode_lt (s : ByteArray) (pos : Nat) : (Utf8.decode s pos).1 < 2147483648 := by
  have hb : ∀ k, (s.get! k).toNat < 256 := fun k => UInt8.toNat_lt _
  have h0 := hb (pos + 0)
  unfold Utf8.decode
  simp only
  repeat' split
  all_goals first | (simp only []; omega) | (show Utf8.runeError < 2147483648; decide)

set_option maxHeartbeats 2000000 in
set_option maxRecDepth 100000 in
theorem indexFunc_strange (s : ByteArray) (w : World) :
    Calls Tryz.prog 147 #[.string s, .func (.func 90) #[] #[], .bool true] w fun e w' => e = .returned (.int .i64 (Lib.idxFunc strangeB true s)) ∧ Below w.heap.size w w' := by
  go_enter Tryz.func147, Tryz.ntmps147
  go_wp2
  go_loopg [] s.size (fun gf wx => ∃ pos : Nat, wx.heap[w.heap.size]? = some (.stringIter s pos) ∧ Below w.heap.size w wx ∧ Lib.idxFuncFrom strangeB true s gf pos = Lib.idxFunc strangeB true s ∧ s.size ≤ pos + gf)
  case atStart => exact ⟨0, World.iter_heap w s 0, (Below.refl _ w).alloc (Nat.le_refl _) _, rfl, by omega⟩
  case round =>
    obtain ⟨pos, hit, hbw, hleft, hfu⟩ := hrel
    by_cases hps : pos < s.size
    · obtain ⟨g', rfl⟩ : ∃ g', gk = g' + 1 := ⟨gk - 1, by omega⟩
      have hnx : ∀ ty, (Instr.next (.pointer (some ⟨w.heap.size, 0, none⟩)) true ty).run Tryz.prog wr = _ := fun ty => Lib.run_next_any_at wr w.heap.size s pos ty hit hps
      have hwd := Lib.width_pos s pos
      have hlt := decode_lt s pos
      obtain ⟨R, hR⟩ : ∃ R, (Utf8.decode s pos).1 = R := ⟨_, rfl⟩
      obtain ⟨K, hK⟩ : ∃ K, (Utf8.decode s pos).2 = K := ⟨_, rfl⟩
      simp only [Lib.idxFuncFrom, hps, if_true, hR, hK] at hleft
      rw [hR, hK] at hnx
      rw [hK] at hwd
      rw [hR] at hlt
      have hit2 := Lib.iterAt_heap wr w.heap.size s pos (pos + K) hit
      have hbw2 := Lib.below_iterAt hbw (k := w.heap.size) (Nat.le_refl _) s (pos + K)
      obtain ⟨W, hWd⟩ : ∃ W, wr.iterAt w.heap.size s (pos + K) = W := ⟨_, rfl⟩
      rw [hWd] at hnx hit2 hbw2
      have cS := strange_call W R hlt
      cases hsp : strangeB R <;> rw [hsp] at cS <;> simp only [hsp, if_true, Bool.false_eq_true, Bool.true_eq_false, if_false] at hleft
      · go_wp2_with (go_at_call 90; refine cS.mono ?_; rintro e W' ⟨rfl, rfl⟩)
        go_roundg g'
        case measure => omega
        case rel => exact ⟨pos + K, hit2, hbw2, hleft, by omega⟩
      · go_wp2_with (go_at_call 90; refine cS.mono ?_; rintro e W' ⟨rfl, rfl⟩)
        go_ret
        exact ⟨by rw [← hleft] <;> rfl, hbw2⟩
    · have hnx : ∀ ty, (Instr.next (.pointer (some ⟨w.heap.size, 0, none⟩)) true ty).run Tryz.prog wr = _ := fun ty => Lib.run_next_end_at wr w.heap.size s pos ty hit hps
      rw [Lib.idxFuncFrom_end strangeB true s gk pos hps] at hleft
      go_wp2
      go_ret
      exact ⟨by rw [← hleft] <;> rfl, hbw⟩

theorem containsFunc_strange (s : ByteArray) (w : World) :
    Calls Tryz.prog 91 #[.string s, .func (.func 90) #[] #[]] w fun e w' => e = .returned (.bool (decide (0 ≤ Lib.idxFunc strangeB true s))) ∧ Below w.heap.size w w' := by
  have hI : Calls Tryz.prog 121 #[.string s, .func (.func 90) #[] #[]] w fun e w' => e = .returned (.int .i64 (Lib.idxFunc strangeB true s)) ∧ Below w.heap.size w w' := by
    go_enter Tryz.func121, Tryz.ntmps121
    go_wp2_with (go_at_call 147; refine (indexFunc_strange s w).mono ?_; rintro e w' ⟨rfl, hb⟩)
    go_ret
    exact ⟨rfl, hb⟩
  generalize Lib.idxFunc strangeB true s = I at *
  go_enter Tryz.func91, Tryz.ntmps91
  go_wp2_with (go_at_call 121; refine hI.mono ?_; rintro e w' ⟨rfl, hb⟩)
  go_ret
  exact ⟨rfl, hb⟩

/-- Whether a name may be. -/
def nameB (l : List UInt8) : Bool := !l.isEmpty && decide (l.length ≤ 60) && !(l == [46]) && !(l == [46, 46]) && !decide (0 ≤ Lib.idxFunc strangeB true (bs l))

set_option maxHeartbeats 1000000 in
theorem tree_isName (l : List UInt8) (hl : l.length ≤ maxLen) (w : World) : Calls Tryz.prog 60 #[.string (bs l)] w fun e w' => e = .returned (.bool (nameB l)) ∧ Below w.heap.size w w' := by
  have hC := containsFunc_strange (bs l) w
  have hB : nameB l = (!l.isEmpty && decide (l.length ≤ 60) && !(l == [46]) && !(l == [46, 46]) && !decide (0 ≤ Lib.idxFunc strangeB true (bs l))) := rfl
  generalize decide (0 ≤ Lib.idxFunc strangeB true (bs l)) = X at hC hB
  have hsz : (bs l).size = l.length := bs_size l
  by_cases h0 : l = []
  · subst h0
    have hb0 : bs [] = ⟨#[]⟩ := rfl
    rw [hB]
    go_enter Tryz.func60, Tryz.ntmps60
    go_wp2
    go_ret
    exact ⟨rfl, Below.refl _ _⟩
  · have q0 : (l == ([] : List UInt8)) = false := by simp [h0]
    have q1 : l.isEmpty = false := by cases l <;> simp at *
    by_cases h1 : l.length ≤ 60
    · by_cases h2 : l = [46]
      · subst h2
        have hb0 : bs [46] = ⟨#[46]⟩ := rfl
        rw [hB]
        rw [hb0]
        go_enter Tryz.func60, Tryz.ntmps60
        go_wp2
        go_ret
        exact ⟨rfl, Below.refl _ _⟩
      · have q2 : (l == [46]) = false := by simp [h2]
        by_cases h3 : l = [46, 46]
        · subst h3
          have hb0 : bs [46, 46] = ⟨#[46, 46]⟩ := rfl
          rw [hB]
          rw [hb0]
          go_enter Tryz.func60, Tryz.ntmps60
          go_wp2
          go_ret
          exact ⟨rfl, Below.refl _ _⟩
        · have q3 : (l == [46, 46]) = false := by simp [h3]
          have hB2 : nameB l = !X := by rw [hB]; simp [q1, h1, q2, q3]
          rw [hB2]
          clear hB hB2 h0 h2 h3
          cases X
          · go_enter Tryz.func60, Tryz.ntmps60
            go_wp2_with (go_at_call 91; refine hC.mono ?_; rintro e w' ⟨rfl, hb⟩)
            go_ret
            exact ⟨rfl, hb⟩
          · go_enter Tryz.func60, Tryz.ntmps60
            go_wp2_with (go_at_call 91; refine hC.mono ?_; rintro e w' ⟨rfl, hb⟩)
            go_ret
            exact ⟨rfl, hb⟩
    · have hB2 : nameB l = false := by rw [hB]; simp [h1]
      rw [hB2]
      go_enter Tryz.func60, Tryz.ntmps60
      go_wp2
      go_ret
      exact ⟨rfl, Below.refl _ _⟩
end Go.Proofs.YtejpkjcjoengbaaGreatDoor
