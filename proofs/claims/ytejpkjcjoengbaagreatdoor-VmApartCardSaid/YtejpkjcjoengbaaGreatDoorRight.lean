/-
  tree.Right, by walk: kinds, entries, count, wrong.
-/
import Derived.Test.YtejpkjcjoengbaaGreatDoorNam
import Derived.Test.YtejpkjcjoengbaaGreatDoorNode
set_option linter.unusedVariables false
set_option linter.unusedSimpArgs false
namespace Go.Proofs.YtejpkjcjoengbaaGreatDoor
open Go.RowKit

def kindsB (k : Int) (e : Bool) (dn nn sn : Nat) : Bool :=
  if k = 2 then dn == 0 && nn == sn && !e else if k = 3 then nn == 0 && sn == 0 && !e else if k = 1 then nn == 0 && sn == 0 else false

set_option maxHeartbeats 1000000 in
set_option maxRecDepth 100000 in
theorem tree_kinds (k : Int) (e : Bool) (dA nA sA : Option Addr) (dn dc nn nc sn sc : Nat) (w : World) :
    Calls Tryz.prog 58 #[.agg #[.int .i64 k, .bool e, .slice dA dn dc, .slice nA nn nc, .slice sA sn sc]] w fun x w' => x = .returned (.bool (kindsB k e dn nn sn)) ∧ Below w.heap.size w w' := by
  by_cases h2 : k = 2
  · subst h2
    have hB : kindsB 2 e dn nn sn = (dn == 0 && nn == sn && !e) := rfl
    by_cases q1 : dn = 0
    · subst q1
      by_cases q2 : nn = sn
      · subst q2
        cases e
        · go_enter Tryz.func58, Tryz.ntmps58
          go_wp2
          go_ret
          exact ⟨by rw [hB]; simp, (Below.refl _ _).alloc (Nat.le_refl _) _⟩
        · go_enter Tryz.func58, Tryz.ntmps58
          go_wp2
          go_ret
          exact ⟨by rw [hB]; simp, (Below.refl _ _).alloc (Nat.le_refl _) _⟩
      · have q3 : ((nn : Int) == (sn : Int)) = false := by simp; omega
        go_enter Tryz.func58, Tryz.ntmps58
        go_wp2
        go_ret
        exact ⟨by rw [hB]; simp [q2], (Below.refl _ _).alloc (Nat.le_refl _) _⟩
    · have q3 : ((dn : Int) == 0) = false := by simp; omega
      go_enter Tryz.func58, Tryz.ntmps58
      go_wp2
      go_ret
      exact ⟨by rw [hB]; simp [q1], (Below.refl _ _).alloc (Nat.le_refl _) _⟩
  · have p2 : (k == 2) = false := by simp [h2]
    by_cases h3 : k = 3
    · subst h3
      have hB : kindsB 3 e dn nn sn = (nn == 0 && sn == 0 && !e) := rfl
      by_cases q1 : nn = 0
      · subst q1
        by_cases q2 : sn = 0
        · subst q2
          cases e
          · go_enter Tryz.func58, Tryz.ntmps58
            go_wp2
            go_ret
            exact ⟨by rw [hB]; simp, (Below.refl _ _).alloc (Nat.le_refl _) _⟩
          · go_enter Tryz.func58, Tryz.ntmps58
            go_wp2
            go_ret
            exact ⟨by rw [hB]; simp, (Below.refl _ _).alloc (Nat.le_refl _) _⟩
        · have q3 : ((sn : Int) == 0) = false := by simp; omega
          go_enter Tryz.func58, Tryz.ntmps58
          go_wp2
          go_ret
          exact ⟨by rw [hB]; simp [q2], (Below.refl _ _).alloc (Nat.le_refl _) _⟩
      · have q3 : ((nn : Int) == 0) = false := by simp; omega
        go_enter Tryz.func58, Tryz.ntmps58
        go_wp2
        go_ret
        exact ⟨by rw [hB]; simp [q1], (Below.refl _ _).alloc (Nat.le_refl _) _⟩
    · have p3 : (k == 3) = false := by simp [h3]
      by_cases h1 : k = 1
      · subst h1
        have hB : kindsB 1 e dn nn sn = (nn == 0 && sn == 0) := rfl
        by_cases q1 : nn = 0
        · subst q1
          by_cases q2 : sn = 0
          · subst q2
            go_enter Tryz.func58, Tryz.ntmps58
            go_wp2
            go_ret
            exact ⟨by rw [hB]; simp, (Below.refl _ _).alloc (Nat.le_refl _) _⟩
          · have q3 : ((sn : Int) == 0) = false := by simp; omega
            go_enter Tryz.func58, Tryz.ntmps58
            go_wp2
            go_ret
            exact ⟨by rw [hB]; simp [q2], (Below.refl _ _).alloc (Nat.le_refl _) _⟩
        · have q3 : ((nn : Int) == 0) = false := by simp; omega
          go_enter Tryz.func58, Tryz.ntmps58
          go_wp2
          go_ret
          exact ⟨by rw [hB]; simp [q1], (Below.refl _ _).alloc (Nat.le_refl _) _⟩
      · have p1 : (k == 1) = false := by simp [h1]
        have hB : kindsB k e dn nn sn = false := by simp [kindsB, h1, h2, h3]
        go_enter Tryz.func58, Tryz.ntmps58
        go_wp2
        go_ret
        exact ⟨by rw [hB]; rfl, (Below.refl _ _).alloc (Nat.le_refl _) _⟩

def entriesF (na : List (List UInt8)) : Nat := (na.map fun s => s.length + 3).sum
theorem entriesF_take (na : List (List UInt8)) (k : Nat) (h : k < na.length) : entriesF (na.take (k + 1)) = entriesF (na.take k) + (na[k].length + 3) := by
  unfold entriesF
  rw [List.take_succ_eq_append_getElem h, List.map_append, List.sum_append]
  simp only [List.map_cons, List.map_nil, List.sum_cons, List.sum_nil, Nat.add_zero]
theorem entriesF_le (na : List (List UInt8)) (k : Nat) : entriesF (na.take k) ≤ entriesF na := by
  conv => rhs; rw [← List.take_append_drop k na]
  unfold entriesF
  simp only [List.map_append, List.sum_append]
  omega
theorem strCells_at (l : List (List UInt8)) (k : Nat) (h : k < l.length) : (strCells l)[k]? = some (.string (bs l[k])) := by simp [strCells, h]

set_option maxHeartbeats 1000000 in
set_option maxRecDepth 100000 in
theorem tree_entries {F : Nat → Prop} (k : Int) (e : Bool) (dv nv sv : Value) (na : List (List UInt8)) (w : World) (hn : SliceIs F 1 nv na.length (strCells na) w) (hF : ∀ k, F k → k < w.heap.size) (hE : entriesF na ≤ 1000000000000) :
    Calls Tryz.prog 59 #[.agg #[.int .i64 k, .bool e, dv, nv, sv]] w fun x w' => x = .returned (.int .i64 (entriesF na)) ∧ Below w.heap.size w w' := by
  obtain ⟨hnl, A, c, rfl, hA⟩ := hn
  go_enter Tryz.func59, Tryz.ntmps59
  go_wp2
  unfold maxLen at hnl
  go_loopw [3, 9] (fun s i wr => ∃ j : Nat, j ≤ na.length ∧ i = .int .i64 j ∧ s = .int .i64 (entriesF (na.take j) : Nat) ∧ Below w.heap.size w wr) (fun s i wr => na.length - (intOf i).toNat)
  case atStart => exact ⟨0, Nat.zero_le _, rfl, rfl, (Below.refl _ _).alloc (Nat.le_refl _) _⟩
  case round =>
    obtain ⟨j, hj, rfl, rfl, hb⟩ := hrel
    by_cases hlt : j < na.length
    · obtain ⟨g, o, rfl, hFg, hcl, hcs⟩ := hA (by omega)
      have c0 : wr.cell? ⟨g, o + j, none⟩ = some (.string (bs na[j])) := (hb.cell (p := ⟨g, o + j, none⟩) (hF g hFg)).trans (hcs _ _ (strCells_at na j hlt))
      have ht := entriesF_take na j hlt
      have hle := entriesF_le na (j + 1)
      have hsz := bs_size na[j]
      generalize na[j] = x at *
      generalize hs1 : entriesF (na.take j) = s1 at *
      have HT := Lib.hid ht
      have hs2 : s1 + (x.length + 3) ≤ 1000000000000 := by omega
      clear ht hle hs1 hcs
      go_wp2
      go_roundw
      case rel => exact ⟨j + 1, by omega, by go_num, by rw [HT.out]; go_num, hb⟩
      case measure => simp [intOf]; omega
    · have he : entriesF (na.take j) = entriesF na := by rw [List.take_of_length_le (by omega)]
      rw [he]
      have hlt2 : ¬ j < na.length := hlt
      clear he
      go_wp2
      go_ret
      exact ⟨rfl, hb⟩

/-- The cells of a node. -/
theorem NdIs.cells {F : Nat → Prop} {w : World} {n : Nd} {cl : List Value} (h : NdIs F w n cl) : ∃ dA dc nA nc sA sc, cl = [.int .i64 n.kind, .bool n.exec, .slice dA n.data.length dc, .slice nA n.names.length nc, .slice sA n.nodes.length sc] ∧
    SliceIs F 1 (.slice dA n.data.length dc) n.data.length (byteCells n.data) w ∧ SliceIs F 1 (.slice nA n.names.length nc) n.names.length (strCells n.names) w ∧ ∃ cs, SliceIs F 5 (.slice sA n.nodes.length sc) n.nodes.length cs w ∧ NdsIs F w n.nodes cs := by
  cases n with
  | mk k e d na ns =>
    simp only [NdIs] at h
    obtain ⟨dv, nv, sv, h1, h2, h3, cs, h4, h5⟩ := h
    have g2 := h2
    have g3 := h3
    have g4 := h4
    obtain ⟨_, dA, dc, rfl, _⟩ := g2
    obtain ⟨_, nA, nc, rfl, _⟩ := g3
    obtain ⟨_, sA, sc, rfl, _⟩ := g4
    exact ⟨dA, dc, nA, nc, sA, sc, h1, h2, h3, cs, h4, h5⟩
/-- One node of many, with its cells. -/
theorem NdIs.elem {F : Nat → Prop} {w : World} {A : Option Addr} {n c : Nat} {ns : List Nd} {cs : List Value} (hS : SliceIs F 5 (.slice A n c) ns.length cs w) (hN : NdsIs F w ns cs) (j : Nat) (hj : j < ns.length) :
    ∃ g o dA dc nA nc sA sc, A = some ⟨g, o, none⟩ ∧ n = ns.length ∧ F g ∧ NdIs F w ns[j] [.int .i64 ns[j].kind, .bool ns[j].exec, .slice dA ns[j].data.length dc, .slice nA ns[j].names.length nc, .slice sA ns[j].nodes.length sc] ∧
      w.cell? ⟨g, o + j * 5, none⟩ = some (.int .i64 ns[j].kind) ∧ w.cell? ⟨g, o + j * 5 + 1, none⟩ = some (.bool ns[j].exec) ∧ w.cell? ⟨g, o + j * 5 + 2, none⟩ = some (.slice dA ns[j].data.length dc) ∧ w.cell? ⟨g, o + j * 5 + 3, none⟩ = some (.slice nA ns[j].names.length nc) ∧ w.cell? ⟨g, o + j * 5 + 4, none⟩ = some (.slice sA ns[j].nodes.length sc) := by
  obtain ⟨hn, A', c', hv, hA⟩ := hS
  injection hv with hv1 hv2 hv3
  subst hv1 hv2 hv3
  obtain ⟨g, o, rfl, hF, hl, hc⟩ := hA (by omega)
  obtain ⟨cl, h1, h2⟩ := NdsIs.at hN j hj
  obtain ⟨dA, dc, nA, nc, sA, sc, rfl, _⟩ := h1.cells
  have hc' : ∀ i x, ([.int .i64 ns[j].kind, .bool ns[j].exec, .slice dA ns[j].data.length dc, .slice nA ns[j].names.length nc, .slice sA ns[j].nodes.length sc] : List Value)[i]? = some x → i < 5 → w.cell? ⟨g, o + (j * 5 + i), none⟩ = some x := fun i x hi h5 => hc _ _ (by rw [h2 i h5]; exact hi)
  exact ⟨g, o, dA, dc, nA, nc, sA, sc, rfl, rfl, hF, h1, hc' 0 _ rfl (by decide), hc' 1 _ rfl (by decide), hc' 2 _ rfl (by decide), hc' 3 _ rfl (by decide), hc' 4 _ rfl (by decide)⟩

mutual
def countF : Nd → Int → Int → Int × Bool
  | .mk _ _ _ _ ns, room, depth => if depth > 32 ∨ room < 1 then (0, false) else countsF ns room depth 1
def countsF : List Nd → Int → Int → Int → Int × Bool
  | [], _, _, all => (all, true)
  | x :: r, room, depth, all => if (countF x (room - all) (depth + 1)).2 then countsF r room depth (all + (countF x (room - all) (depth + 1)).1) else (0, false)
end
mutual
theorem countF_le : ∀ (n : Nd) (room depth : Int), (countF n room depth).2 = true → 1 ≤ (countF n room depth).1 ∧ (countF n room depth).1 ≤ room
  | .mk k e d na ns, room, depth, h => by
    unfold countF at h ⊢
    split
    · rename_i hc; rw [if_pos hc] at h; cases h
    · rename_i hc; rw [if_neg hc] at h; exact countsF_le ns room depth 1 (by omega) (by omega) h
theorem countsF_le : ∀ (l : List Nd) (room depth all : Int), 1 ≤ all → all ≤ room → (countsF l room depth all).2 = true → 1 ≤ (countsF l room depth all).1 ∧ (countsF l room depth all).1 ≤ room
  | [], room, depth, all, h1, h2, h => by unfold countsF; exact ⟨h1, h2⟩
  | x :: r, room, depth, all, h1, h2, h => by
    unfold countsF at h ⊢
    split
    · rename_i hc
      rw [if_pos hc] at h
      have := countF_le x (room - all) (depth + 1) hc
      exact countsF_le r room depth _ (by omega) (by omega) h
    · rename_i hc; rw [if_neg hc] at h; cases h
end

def CountP (n : Nd) : Prop := ∀ (F : Nat → Prop) (w : World) (k : Int) (e : Bool) (dv nv sv : Value) (room depth : Int), NdIs F w n [.int .i64 k, .bool e, dv, nv, sv] → (∀ k, F k → k < w.heap.size) → 0 ≤ room → room ≤ 100000 → 0 ≤ depth → depth ≤ 100000 →
  Calls Tryz.prog 24 #[.agg #[.int .i64 k, .bool e, dv, nv, sv], .int .i64 room, .int .i64 depth] w fun x w' => x = .returned (.tuple #[.int .i64 (countF n room depth).1, .bool (countF n room depth).2]) ∧ Below w.heap.size w w'

set_option maxHeartbeats 1000000 in
set_option maxRecDepth 100000 in
theorem count_walk (k0 : Int) (e0 : Bool) (d : List UInt8) (na : List (List UInt8)) (ns : List Nd) (ih : ∀ x ∈ ns, CountP x) : CountP (.mk k0 e0 d na ns) := by
  intro F w k e dv nv sv room depth hN hF hr0 hr1 hd0 hd1
  simp only [NdIs] at hN
  obtain ⟨dv', nv', sv', hv, _, _, cs, hS, hNs⟩ := hN
  injection hv with hv1 hv
  injection hv with hv2 hv
  injection hv with hv3 hv
  injection hv with hv4 hv
  injection hv with hv5 hv
  subst hv3 hv4 hv5
  have hS0 := hS
  obtain ⟨hnl, A, c, rfl, _⟩ := hS0
  unfold maxLen at hnl
  by_cases hd : depth > 32
  · have hc : countF (.mk k0 e0 d na ns) room depth = (0, false) := by unfold countF; rw [if_pos (.inl hd)]
    rw [hc]
    go_enter Tryz.func24, Tryz.ntmps24
    go_wp2
    go_ret2
    exact ⟨rfl, (Below.refl _ _).alloc (Nat.le_refl _) _⟩
  by_cases hr : room < 1
  · have hc : countF (.mk k0 e0 d na ns) room depth = (0, false) := by unfold countF; rw [if_pos (.inr hr)]
    rw [hc]
    go_enter Tryz.func24, Tryz.ntmps24
    go_wp2
    go_ret2
    exact ⟨rfl, (Below.refl _ _).alloc (Nat.le_refl _) _⟩
  have hc : countF (.mk k0 e0 d na ns) room depth = countsF ns room depth 1 := by unfold countF; rw [if_neg (by omega)]
  rw [hc]
  clear hc
  generalize hres : countsF ns room depth 1 = res
  go_enter Tryz.func24, Tryz.ntmps24
  go_wp2
  go_loopw [8, 22] (fun a i wr => ∃ (j : Nat) (all : Int), j ≤ ns.length ∧ i = .int .i64 j ∧ a = .int .i64 all ∧ 1 ≤ all ∧ all ≤ room ∧ countsF (ns.drop j) room depth all = res ∧ Below w.heap.size w wr) (fun a i wr => ns.length - (intOf i).toNat)
  case atStart => exact ⟨0, 1, Nat.zero_le _, rfl, rfl, by omega, by omega, hres, (Below.refl _ _).alloc (Nat.le_refl _) _⟩
  case round =>
    obtain ⟨j, all, hj, rfl, rfl, ha0, ha1, hrs, hb⟩ := hrel
    by_cases hlt : j < ns.length
    · have hkp : ∀ k, F k → wr.heap[k]? = w.heap[k]? := fun k hk => hb.block k (hF k hk)
      have hFr : ∀ k, F k → k < wr.heap.size := fun k hk => Nat.lt_of_lt_of_le (hF k hk) hb.size
      obtain ⟨g, o, dA, dc, nA, nc, sA, sc, rfl, _, hFg, hel, c0, c1, c2, c3, c4⟩ := NdIs.elem (hS.kept hkp) (hNs.kept hkp) j hlt
      have ihx := ih ns[j] (List.getElem_mem hlt)
      rw [List.drop_eq_getElem_cons hlt] at hrs
      generalize ns[j] = x at *
      generalize x.kind = k1 at *
      generalize x.exec = e1 at *
      generalize x.data.length = dn at *
      generalize x.names.length = nn at *
      generalize x.nodes.length = sn at *
      have hba : Below wr.heap.size wr (wr.alloc (.cells #[.int .i64 k1, .bool e1, .slice dA dn dc, .slice nA nn nc, .slice sA sn sc] 32)) := (Below.refl _ _).alloc (Nat.le_refl _) _
      have hcall := ihx F _ k1 e1 (.slice dA dn dc) (.slice nA nn nc) (.slice sA sn sc) (room - all) (depth + 1) (hel.kept (w' := wr.alloc (.cells #[.int .i64 k1, .bool e1, .slice dA dn dc, .slice nA nn nc, .slice sA sn sc] 32)) (fun k hk => hba.block k (hFr k hk))) (fun k hk => Nat.lt_of_lt_of_le (hFr k hk) hba.size) (by omega) (by omega) (by omega) (by omega)
      simp only [countsF] at hrs
      have hcl := countF_le x (room - all) (depth + 1)
      have hbw := hb.trans (hba.mono hb.size)
      generalize countF x (room - all) (depth + 1) = cr at *
      obtain ⟨cn, ok⟩ := cr
      simp only at hrs hcl hcall
      have HR := Lib.hid hrs
      clear hrs hel hkp ih ihx
      cases ok with
      | true =>
        have hcl2 := hcl rfl
        have hrs2 : Hid (countsF (ns.drop (j + 1)) room depth (all + cn) = res) := Lib.hid (by have := HR.out; simpa using this)
        go_wp2_with (go_at_call 24; refine hcall.mono ?_)
        rintro ev w2 rfl hb2
        have hb3 := hbw.trans (hb2.mono (by have := hbw.size; simpa using this))
        go_wp2
        go_roundw
        case rel => exact ⟨j + 1, all + cn, by omega, by go_num, by go_num, by omega, by omega, hrs2.out, hb3⟩
        case measure => simp [intOf]; omega
      | false =>
        have hrs2 : res = (0, false) := by have := HR.out; simpa using this.symm
        subst hrs2
        go_wp2_with (go_at_call 24; refine hcall.mono ?_)
        rintro ev w2 rfl hb2
        have hb3 := hbw.trans (hb2.mono (by have := hbw.size; simpa using this))
        go_wp2
        go_ret2
        exact ⟨rfl, hb3⟩
    · have hrs2 : res = (all, true) := by rw [← hrs, List.drop_eq_nil_of_le (by omega)]; rfl
      subst hrs2
      clear hrs
      go_wp2
      go_ret2
      exact ⟨rfl, hb⟩

mutual
theorem count_any : ∀ n : Nd, CountP n
  | .mk k e d na ns => count_walk k e d na ns (counts_any ns)
theorem counts_any : ∀ (l : List Nd) (x : Nd), x ∈ l → CountP x
  | [], x, h => absurd h (by simp)
  | n :: r, x, h => by
    rcases List.mem_cons.1 h with h | h
    · rw [h]; exact count_any n
    · exact counts_any r x h
end
end Go.Proofs.YtejpkjcjoengbaaGreatDoor
