/-
  slices.BinarySearch at []string, by walk: what it tells of any row (its own halving), and what that is of names.
-/
import Derived.Test.YtejpkjcjoengbaaGreatDoorPlF
import Derived.Deep.LoopGhost
import Derived.Deep.Draws
import Derived.Lib.Strings
set_option linter.unusedVariables false
set_option linter.unusedSimpArgs false
namespace Go.Proofs.YtejpkjcjoengbaaGreatDoor
open Go.RowKit Go.Lib

theorem cmp_isNaN_call (x : ByteArray) (w : World) : Calls Tryz.prog 186 #[.string x] w fun e w' => e = .returned (.bool false) ∧ w = w' := by
  go_enter Tryz.func186, Tryz.ntmps186
  go_wp2
  go_ret
  exact ⟨by simp, rfl⟩
theorem sl_isNaN_call (x : ByteArray) (w : World) : Calls Tryz.prog 167 #[.string x] w fun e w' => e = .returned (.bool false) ∧ w = w' := by
  go_enter Tryz.func167, Tryz.ntmps167
  go_wp2
  go_ret
  exact ⟨by simp, rfl⟩
theorem less_call (x y : ByteArray) (w : World) : Calls Tryz.prog 166 #[.string x, .string y] w fun e w' => e = .returned (.bool (Op.bytesLess x.toList y.toList)) ∧ w = w' := by
  go_enter Tryz.func166, Tryz.ntmps166
  go_wp2_with (go_at_call 186; refine (cmp_isNaN_call _ _).mono ?_; rintro e w' ⟨rfl, rfl⟩)
  go_ret
  exact ⟨rfl, rfl⟩

set_option maxHeartbeats 4000000 in
set_option maxRecDepth 1000000 in
theorem bs_walk (b off n c : Nat) (Sx : Nat → ByteArray) (x : ByteArray) (w : World) (hbig : n < 4611686018427387904) (hc : ∀ j, j < n → w.cell? ⟨b, off + j, none⟩ = some (.string (Sx j))) :
    Calls Tryz.prog 144 #[.slice (some ⟨b, off, none⟩) n c, .string x] w fun e w' =>
      e = .returned (.tuple #[.int .i64 (Lib.bsGo (fun t => Op.bytesLess (Sx t).toList x.toList) n 0 n : Nat), .bool (decide (Lib.bsGo (fun t => Op.bytesLess (Sx t).toList x.toList) n 0 n < n ∧ Sx (Lib.bsGo (fun t => Op.bytesLess (Sx t).toList x.toList) n 0 n) = x))]) ∧ ∃ q, w' = w.drewN q := by
  obtain ⟨I, hI⟩ : ∃ I, Lib.bsGo (fun t => Op.bytesLess (Sx t).toList x.toList) n 0 n = I := ⟨_, rfl⟩
  rw [hI]
  go_enter Tryz.func144, Tryz.ntmps144
  go_wp2
  go_loopg [7, 8] n (fun g s7 s8 wr => ∃ lo hi q : Nat, s7 = .int .i64 lo ∧ s8 = .int .i64 hi ∧ lo ≤ hi ∧ hi ≤ n ∧ hi - lo ≤ g ∧ wr = w.drewN q ∧ Lib.bsGo (fun t => Op.bytesLess (Sx t).toList x.toList) g lo hi = I)
  case atStart => exact ⟨0, n, 0, rfl, rfl, Nat.zero_le _, Nat.le_refl _, by omega, rfl, hI⟩
  case round =>
    obtain ⟨lo, hi, q, rfl, rfl, hlh, hin, hg, rfl, hb⟩ := hrel
    by_cases hlt : lo < hi
    · have cm : w.cell? ⟨b, off + (lo + hi) / 2, none⟩ = some (.string (Sx ((lo + hi) / 2))) := hc _ (by omega)
      clear hc
      obtain ⟨g', rfl⟩ : ∃ g', gk = g' + 1 := ⟨gk - 1, by omega⟩
      simp only [Lib.bsGo, hlt, if_true] at hb
      obtain ⟨y, hy⟩ : ∃ y, Sx ((lo + hi) / 2) = y := ⟨_, rfl⟩
      rw [hy] at cm
      simp only [hy] at hb
      cases hyx : Op.bytesLess y.toList x.toList <;> simp only [hyx, if_true, Bool.false_eq_true, if_false] at hb
      · go_wp2_with (first | (go_at_call 166; refine (less_call _ _ _).mono ?_; rintro e w' ⟨rfl, rfl⟩) | (go_at_call 167; refine (sl_isNaN_call _ _).mono ?_; rintro e w' ⟨rfl, rfl⟩))
        go_roundg ((lo + hi) / 2 - lo)
        case measure => omega
        case rel => exact ⟨lo, (lo + hi) / 2, _, rfl, by rw [show ((lo : Int) + (hi : Int)) / 2 = (((lo + hi) / 2 : Nat) : Int) by omega], by omega, by omega, Nat.le_refl _, rfl, by rw [← hb]; exact Lib.bsGo_fuel _ _ _ _ _ (Nat.le_refl _) (by omega)⟩
      · go_wp2_with (first | (go_at_call 166; refine (less_call _ _ _).mono ?_; rintro e w' ⟨rfl, rfl⟩) | (go_at_call 167; refine (sl_isNaN_call _ _).mono ?_; rintro e w' ⟨rfl, rfl⟩))
        go_roundg (hi - ((lo + hi) / 2 + 1))
        case measure => omega
        case rel => exact ⟨(lo + hi) / 2 + 1, hi, _, by rw [show ((lo : Int) + (hi : Int)) / 2 + 1 = (((lo + hi) / 2 + 1 : Nat) : Int) by omega], rfl, by omega, hin, Nat.le_refl _, rfl, by rw [← hb]; exact Lib.bsGo_fuel _ _ _ _ _ (Nat.le_refl _) (by omega)⟩
    · have : hi = lo := by omega
      subst this
      have hIe : I = hi := by
        rw [← hb]
        cases gk <;> simp [Lib.bsGo]
      by_cases hn : hi < n
      · have cl : w.cell? ⟨b, off + hi, none⟩ = some (.string (Sx hi)) := hc _ hn
        clear hc hb hI
        obtain ⟨y, hy⟩ : ∃ y, Sx hi = y := ⟨_, rfl⟩
        rw [hy] at cl
        by_cases hyx : y = x
        · go_wp2_with (first | (go_at_call 166; refine (less_call _ _ _).mono ?_; rintro e w' ⟨rfl, rfl⟩) | (go_at_call 167; refine (sl_isNaN_call _ _).mono ?_; rintro e w' ⟨rfl, rfl⟩))
          go_ret2
          refine ⟨?_, _, rfl⟩
          try rw [hIe]
          rw [hy, decide_eq_true (show hi < n ∧ y = x from ⟨hn, hyx⟩)]
          first | rfl | simp [*]
        · have hne : (y.toList == x.toList) = false := by
            rw [beq_eq_false_iff_ne]
            intro h
            apply hyx
            rw [Lib.toList_data, Lib.toList_data] at h
            cases y with
            | mk yd => cases x with
              | mk xd => exact congrArg ByteArray.mk (Array.toList_inj.1 h)
          go_wp2_with (first | (go_at_call 166; refine (less_call _ _ _).mono ?_; rintro e w' ⟨rfl, rfl⟩) | (go_at_call 167; refine (sl_isNaN_call _ _).mono ?_; rintro e w' ⟨rfl, rfl⟩))
          all_goals
            (go_ret2
             refine ⟨?_, _, rfl⟩
             try rw [hIe]
             rw [hy, decide_eq_false (show ¬ (hi < n ∧ y = x) from fun h => hyx h.2)]
             first | rfl | simp [*])
      · clear hc hb hI
        go_wp2_with (first | (go_at_call 166; refine (less_call _ _ _).mono ?_; rintro e w' ⟨rfl, rfl⟩) | (go_at_call 167; refine (sl_isNaN_call _ _).mono ?_; rintro e w' ⟨rfl, rfl⟩))
        go_ret2
        refine ⟨?_, _, rfl⟩
        try rw [hIe]
        rw [decide_eq_false (show ¬ (hi < n ∧ Sx hi = x) from fun h => hn h.1)]
        first | rfl | simp [*]
set_option maxHeartbeats 1000000 in
set_option maxRecDepth 1000000 in
theorem bs_walk_empty (a : Option Addr) (c : Nat) (x : ByteArray) (w : World) :
    Calls Tryz.prog 144 #[.slice a 0 c, .string x] w fun e w' => e = .returned (.tuple #[.int .i64 0, .bool false]) ∧ w' = w := by
  go_enter Tryz.func144, Tryz.ntmps144
  go_wp2
  go_loop [7, 8] (fun s7 s8 => s7 = .int .i64 0 ∧ s8 = .int .i64 0) (fun _ _ => 0)
  case atStart => exact ⟨rfl, rfl⟩
  case round =>
    obtain ⟨rfl, rfl⟩ := hrel
    go_wp2
    go_ret2
    exact ⟨rfl, rfl⟩
/-- slices.BinarySearch in a row of names. -/
theorem bs_call {F : Nat → Prop} {na : List (List UInt8)} {nv : Value} {w : World} (s : List UInt8) (h : SliceIs F 1 nv na.length (strCells na) w) (hn : na.length ≤ 1000000000) :
    Calls Tryz.prog 144 #[nv, .string (bs s)] w fun e w' => e = .returned (.tuple #[.int .i64 (atF na s : Nat), .bool (thereB na s)]) ∧ ∃ q, w' = w.drewN q := by
  obtain ⟨_, A, c, rfl, hc⟩ := h
  have hless : (fun t => Op.bytesLess (bs (na.getD t [])).toList (bs s).toList) = fun t => Op.bytesLess (na.getD t []) s := by
    funext t
    rw [Lib.toList_data, Lib.toList_data]
  have hinj : ∀ a b : List UInt8, bs a = bs b → a = b := fun a b h => by
    have := congrArg (fun x : ByteArray => x.data.toList) h
    simpa [bs] using this
  rcases Nat.eq_zero_or_pos na.length with h0 | h0
  · obtain rfl := List.eq_nil_of_length_eq_zero h0
    refine (bs_walk_empty A c (bs s) w).mono fun e w' h => ?_
    obtain ⟨rfl, rfl⟩ := h
    exact ⟨rfl, 0, rfl⟩
  · obtain ⟨g, o, rfl, hF, hl, hcs⟩ := hc h0
    refine (bs_walk g o na.length c (fun t => bs (na.getD t [])) (bs s) w (by omega) (fun j hj => ?_)).mono fun e w' h => ?_
    · rw [hcs j (.string (bs na[j])) (by simp [hj])]
      simp [List.getD, hj]
    · obtain ⟨rfl, q, rfl⟩ := h
      refine ⟨?_, q, rfl⟩
      rw [hless]
      unfold thereB atF
      congr 5
      have : (bs (na.getD (Lib.bsGo (fun t => Op.bytesLess (na.getD t []) s) na.length 0 na.length) []) = bs s) ↔ (na.getD (Lib.bsGo (fun t => Op.bytesLess (na.getD t []) s) na.length 0 na.length) [] = s) := ⟨hinj _ _, fun h => by rw [h]⟩
      simp only [this]
end Go.Proofs.YtejpkjcjoengbaaGreatDoor
