/-
  tree.wrong and tree.Right, by walk.
-/
import Derived.Test.YtejpkjcjoengbaaGreatDoorRight
set_option linter.unusedVariables false
set_option linter.unusedSimpArgs false
namespace Go.Proofs.YtejpkjcjoengbaaGreatDoor
open Go.RowKit

def leB (a b : List UInt8) : Bool := Op.bytesLess a b || a == b
def namesOk : Option (List UInt8) → List (List UInt8) → Bool
  | _, [] => true
  | p, s :: r => nameB s && (match p with | none => true | some q => !leB s q) && namesOk (some s) r
mutual
def wrongF : Nd → Int
  | .mk k e d na ns => if kindsB k e d.length na.length ns.length = false then 12 else if d.length > 31744 ∨ (k = 3 ∧ d.length > 1024) ∨ entriesF na > 31744 then 3 else if k = 3 ∧ d.length = 0 then 2 else if namesOk none na = false then 17 else wrongsF ns
def wrongsF : List Nd → Int
  | [] => 0
  | x :: r => if wrongF x = 0 then wrongsF r else wrongF x
end
mutual
def NdOk : Nd → Prop
  | .mk _ _ _ na ns => entriesF na ≤ 1000000000000 ∧ NdsOk ns
def NdsOk : List Nd → Prop
  | [] => True
  | x :: r => NdOk x ∧ NdsOk r
end
theorem NdsOk.at : ∀ {l : List Nd}, NdsOk l → ∀ (j : Nat) (hj : j < l.length), NdOk l[j]
  | [], h, j, hj => by simp at hj
  | x :: r, h, 0, hj => h.1
  | x :: r, h, j + 1, hj => NdsOk.at h.2 j (by simpa using hj)
theorem entriesF_at (na : List (List UInt8)) (j : Nat) (hj : j < na.length) : na[j].length ≤ entriesF na := by
  have h1 := entriesF_take na j hj
  have h2 := entriesF_le na (j + 1)
  omega

def prevN (na : List (List UInt8)) : Nat → Option (List UInt8)
  | 0 => none
  | m + 1 => na[m]?

def WrongP (n : Nd) : Prop := ∀ (F : Nat → Prop) (w : World) (cl : List Value), NdIs F w n cl → NdOk n → (∀ k, F k → k < w.heap.size) →
  Calls Tryz.prog 25 #[.agg cl.toArray] w fun x w' => x = .returned (.int .i64 (wrongF n)) ∧ Below w.heap.size w w'

set_option maxHeartbeats 2000000 in
set_option maxRecDepth 100000 in
theorem wrong_walk (k : Int) (e : Bool) (d : List UInt8) (na : List (List UInt8)) (ns : List Nd) (ih : ∀ x ∈ ns, WrongP x) : WrongP (.mk k e d na ns) := by
  intro F w cl hN hok hF
  obtain ⟨dA, dc, nA, nc, sA, sc, rfl, hD, hNm, cs, hS, hNs⟩ := hN.cells
  simp only [Nd.kind, Nd.exec, Nd.data, Nd.names, Nd.nodes] at *
  obtain ⟨hE, hoks⟩ := hok
  have hdl := hD.1
  have hnl := hNm.1
  have hsl := hS.1
  unfold maxLen at hdl hnl hsl
  have hn0 : w.heap.size < (w.alloc (.cells #[.int .i64 k, .bool e, .slice dA d.length dc, .slice nA na.length nc, .slice sA ns.length sc] 32)).heap.size := by simp
  have hb0 : Below w.heap.size w (w.alloc (.cells #[.int .i64 k, .bool e, .slice dA d.length dc, .slice nA na.length nc, .slice sA ns.length sc] 32)) := (Below.refl _ _).alloc (Nat.le_refl _) _
  have hN0 := heap_alloc_new w (.cells #[.int .i64 k, .bool e, .slice dA d.length dc, .slice nA na.length nc, .slice sA ns.length sc] 32)
  have hFr : wrongF (.mk k e d na ns) = if kindsB k e d.length na.length ns.length = false then 12 else if d.length > 31744 ∨ (k = 3 ∧ d.length > 1024) ∨ entriesF na > 31744 then 3 else if k = 3 ∧ d.length = 0 then 2 else if namesOk none na = false then 17 else wrongsF ns := by rw [wrongF]
  have HFR := Lib.hid hFr
  generalize wrongF (.mk k e d na ns) = res at *
  have hK := tree_kinds k e dA nA sA d.length dc na.length nc ns.length sc (w.alloc (.cells #[.int .i64 k, .bool e, .slice dA d.length dc, .slice nA na.length nc, .slice sA ns.length sc] 32))
  generalize hkb : kindsB k e d.length na.length ns.length = kb at *
  clear hFr
  cases kb with
  | false =>
    have hr : res = 12 := by rw [HFR.out, if_pos rfl]
    subst hr
    go_enter Tryz.func25, Tryz.ntmps25
    go_wp2_with (go_at_call 58; refine hK.mono ?_; rintro x w1 ⟨rfl, hb1⟩)
    go_ret
    exact ⟨rfl, hb0.trans (hb1.mono (by simp))⟩
  | true =>
    go_enter Tryz.func25, Tryz.ntmps25
    go_wp2_with (go_at_call 58; refine hK.mono ?_)
    first | rintro x w1 rfl hb1 | rintro x w1 ⟨rfl, hb1⟩
    have hbw1 : Below w.heap.size w w1 := hb0.trans (hb1.mono hb0.size)
    have hN1 := (hb1.block w.heap.size hn0).trans hN0
    have hs1 : w.heap.size < w1.heap.size := (Array.getElem?_eq_some_iff.1 hN1).1
    have HN1 := Lib.hid hN1
    have n0 := Lib.cell_of_heap hN1 0
    have n1 := Lib.cell_of_heap hN1 1
    have n2 := Lib.cell_of_heap hN1 2
    have n3 := Lib.cell_of_heap hN1 3
    have n4 := Lib.cell_of_heap hN1 4
    simp at n0 n1 n2 n3 n4
    clear hb0 hb1 hN0 hK hN1 hn0 hkb
    have hres : res = if d.length > 31744 ∨ (k = 3 ∧ d.length > 1024) ∨ entriesF na > 31744 then 3 else if k = 3 ∧ d.length = 0 then 2 else if namesOk none na = false then 17 else wrongsF ns := by rw [HFR.out, if_neg (by simp)]
    have HRES := Lib.hid hres
    clear hres HFR
    by_cases hd1 : d.length > 31744
    · have hr : res = 3 := by rw [HRES.out, if_pos (.inl hd1)]
      subst hr
      have hd2 : 31744 < d.length := hd1
      go_wp2
      go_ret
      exact ⟨rfl, hbw1⟩
    have hd2 : ¬ 31744 < d.length := hd1
    have hEn := tree_entries k e (.slice dA d.length dc) (.slice nA na.length nc) (.slice sA ns.length sc) na w1 (hNm.kept (fun k hk => hbw1.block k (hF k hk))) (fun k hk => Nat.lt_of_lt_of_le (hF k hk) hbw1.size) hE
    by_cases hk3 : k = 3
    · subst hk3
      by_cases hd3 : d.length > 1024
      · have hr : res = 3 := by rw [HRES.out, if_pos (.inr (.inl ⟨rfl, hd3⟩))]
        subst hr
        have hd4 : 1024 < d.length := hd3
        go_wp2
        go_ret
        exact ⟨rfl, hbw1⟩
      · have hd4 : ¬ 1024 < d.length := hd3
        by_cases hen : entriesF na > 31744
        · have hr : res = 3 := by rw [HRES.out, if_pos (.inr (.inr hen))]
          subst hr
          generalize entriesF na = ef at *
          go_wp2_with (go_at_call 59; refine hEn.mono ?_)
          first | rintro x w2 rfl hb2 | rintro x w2 ⟨rfl, hb2⟩
          go_wp2
          go_ret
          exact ⟨rfl, hbw1.trans (hb2.mono hbw1.size)⟩
        · by_cases hd0 : d.length = 0
          · have hr : res = 2 := by rw [HRES.out, if_neg (show ¬ (d.length > 31744 ∨ ((3 : Int) = 3 ∧ d.length > 1024) ∨ entriesF na > 31744) by rintro (h | ⟨_, h⟩ | h) <;> omega), if_pos ⟨rfl, hd0⟩]
            subst hr
            generalize entriesF na = ef at *
            clear HRES hD
            generalize d.length = dn at *
            subst hd0
            go_wp2_with (go_at_call 59; refine hEn.mono ?_)
            first | rintro x w2 rfl hb2 | rintro x w2 ⟨rfl, hb2⟩
            have hbw2 : Below w.heap.size w w2 := hbw1.trans (hb2.mono hbw1.size)
            have hN2 := (hb2.block _ hs1).trans HN1.out
            have m0 := Lib.cell_of_heap hN2 0
            have m2 := Lib.cell_of_heap hN2 2
            simp at m0 m2
            go_wp2
            go_ret
            exact ⟨rfl, hbw2⟩
          · have hnd1 : ¬ (d.length > 31744 ∨ ((3 : Int) = 3 ∧ d.length > 1024) ∨ entriesF na > 31744) := by rintro (h | ⟨_, h⟩ | h) <;> omega
            have hnd2 : ¬ ((3 : Int) = 3 ∧ d.length = 0) := fun h => hd0 h.2
            have hr : res = if namesOk none na = false then 17 else wrongsF ns := by rw [HRES.out, if_neg hnd1, if_neg hnd2]
            clear hnd1 hnd2
            have HR := Lib.hid hr
            have hdq : ((d.length : Int) == 0) = false := beq_eq_false_iff_ne.2 (by omega)
            generalize hef : entriesF na = ef at hEn hen
            clear hr HRES
            go_wp2_with (go_at_call 59; refine hEn.mono ?_)
            first | rintro x w2 rfl hb2 | rintro x w2 ⟨rfl, hb2⟩
            have hbw2 : Below w.heap.size w w2 := hbw1.trans (hb2.mono hbw1.size)
            have hN2 := (hb2.block _ hs1).trans HN1.out
            have m0 := Lib.cell_of_heap hN2 0
            have m2 := Lib.cell_of_heap hN2 2
            have m3 := Lib.cell_of_heap hN2 3
            have m4 := Lib.cell_of_heap hN2 4
            simp at m0 m2 m3 m4
            have HN2 := Lib.hid hN2
            clear hEn hN2 hef
            go_wp2
            go_loopw [46] (fun i wr => ∃ j : Nat, j ≤ na.length ∧ i = .int .i64 j ∧ namesOk none na = namesOk (prevN na j) (na.drop j) ∧ Below w2.heap.size w2 wr) (fun i wr => na.length - (intOf i).toNat)
            case atStart => exact ⟨0, Nat.zero_le _, rfl, rfl, Below.refl _ _⟩
            case round =>
              obtain ⟨j, hj, rfl, hok, hb⟩ := hrel
              have hs2 : w.heap.size < w2.heap.size := (Array.getElem?_eq_some_iff.1 HN2.out).1
              have hbw := hbw2.trans (hb.mono hbw2.size)
              by_cases hlt : j < na.length
              · obtain ⟨_, A', c', hv, hA⟩ := hNm
                injection hv with hv1 hv2 hv3
                subst hv1 hv3
                clear hv2
                obtain ⟨g, o, rfl, hFg, hcl, hcs⟩ := hA (by omega)
                have hgw := hF g hFg
                have c0 : wr.cell? ⟨g, o + j, none⟩ = some (.string (bs na[j])) := (hbw.cell (p := ⟨g, o + j, none⟩) hgw).trans (hcs _ _ (strCells_at na j hlt))
                have hxl := entriesF_at na j hlt
                have hI := tree_isName na[j] (by unfold maxLen; omega) wr
                rw [List.drop_eq_getElem_cons hlt] at hok
                simp only [namesOk] at hok
                have hnx : prevN na (j + 1) = some na[j] := List.getElem?_eq_getElem hlt
                rw [← hnx] at hok
                generalize na[j] = x at *
                have HOK := Lib.hid hok
                clear hok hnx
                cases hnb : nameB x with
                | false =>
                  have hr : res = 17 := by rw [HR.out, HOK.out, hnb]; simp
                  subst hr
                  rw [hnb] at hI
                  clear hcs hcl HOK hA
                  go_wp2_with (go_at_call 60; refine hI.mono ?_)
                  first | rintro y w4 rfl hb4 | rintro y w4 ⟨rfl, hb4⟩
                  have hbz := hbw.trans (hb4.mono hbw.size)
                  go_wp2
                  go_ret
                  exact ⟨rfl, hbz⟩
                | true =>
                  rw [hnb] at hI
                  cases j with
                  | zero =>
                    have hok2 : Hid (namesOk none na = namesOk (prevN na (0 + 1)) (na.drop (0 + 1))) := Lib.hid (by rw [HOK.out, hnb]; simp [prevN])
                    rw [Nat.add_zero] at c0
                    clear hcs hcl HOK hA
                    go_wp2_with (go_at_call 60; refine hI.mono ?_)
                    first | rintro y w4 rfl hb4 | rintro y w4 ⟨rfl, hb4⟩
                    have hbz := hb.trans (hb4.mono hb.size)
                    go_wp2
                    go_roundw
                    case rel => exact ⟨0 + 1, by omega, by go_num, hok2.out, hbz⟩
                    case measure => simp [intOf]; omega
                  | succ m =>
                    have hlm : m < na.length := by omega
                    have cq : wr.cell? ⟨g, o + m, none⟩ = some (.string (bs na[m])) := (hbw.cell (p := ⟨g, o + m, none⟩) hgw).trans (hcs _ _ (strCells_at na m hlm))
                    have hpq : prevN na (m + 1) = some na[m] := List.getElem?_eq_getElem hlm
                    rw [hpq] at HOK
                    generalize na[m] = q at *
                    have m3r := (hb.cell (p := ⟨w.heap.size, 3, none⟩) hs2).trans m3
                    clear hcs hcl hA hpq
                    go_wp2_with (go_at_call 60; refine hI.mono ?_)
                    first | rintro y w4 rfl hb4 | rintro y w4 ⟨rfl, hb4⟩
                    have hbz := hb.trans (hb4.mono hb.size)
                    have hgr : g < wr.heap.size := Nat.lt_of_lt_of_le hgw hbw.size
                    have cq4 := (hb4.cell (p := ⟨g, o + m, none⟩) hgr).trans cq
                    have m34 := (hb4.cell (p := ⟨w.heap.size, 3, none⟩) (Nat.lt_of_lt_of_le hs2 hb.size)).trans m3r
                    clear cq m3r
                    cases hle : leB x q with
                    | true =>
                      have hr : res = 17 := by rw [HR.out, HOK.out, hnb]; simp [hle]
                      subst hr
                      unfold leB at hle
                      rw [Bool.or_eq_true] at hle
                      clear HOK
                      cases hl1 : Op.bytesLess x q with
                      | true =>
                        clear hle
                        go_wp2
                        go_ret
                        exact ⟨rfl, hbw2.trans (hbz.mono hbw2.size)⟩
                      | false =>
                        have hl2 : (x == q) = true := by rcases hle with h | h; (rw [hl1] at h; cases h); exact h
                        clear hle
                        go_wp2
                        go_ret
                        exact ⟨rfl, hbw2.trans (hbz.mono hbw2.size)⟩
                    | false =>
                      have hok2 : Hid (namesOk none na = namesOk (prevN na (m + 1 + 1)) (na.drop (m + 1 + 1))) := Lib.hid (by rw [HOK.out, hnb]; simp [hle])
                      unfold leB at hle
                      rw [Bool.or_eq_false_iff] at hle
                      obtain ⟨hl1, hl2⟩ := hle
                      clear HOK
                      go_wp2
                      refine ⟨⟨m + 1 + 1, by omega, by go_num, hok2.out, hbz⟩, ?_⟩
                      simp [intOf]
                      omega
              · have hr : res = wrongsF ns := by rw [HR.out, hok, List.drop_eq_nil_of_le (by omega)]; rfl
                have HR2 := Lib.hid hr
                have m4r := (hb.cell (p := ⟨w.heap.size, 4, none⟩) hs2).trans m4
                clear hok hr
                go_wp2
                go_loopw [72] (fun i wx => ∃ j : Nat, j ≤ ns.length ∧ i = .int .i64 j ∧ wrongsF ns = wrongsF (ns.drop j) ∧ Below w.heap.size w wx) (fun i wx => ns.length - (intOf i).toNat)
                case atStart => exact ⟨0, Nat.zero_le _, rfl, rfl, hbw⟩
                case round =>
                  obtain ⟨j, hj, rfl, hok, hb⟩ := hrel
                  by_cases hlt : j < ns.length
                  · have hkp : ∀ k, F k → wr.heap[k]? = w.heap[k]? := fun k hk => hb.block k (hF k hk)
                    have hFr : ∀ k, F k → k < wr.heap.size := fun k hk => Nat.lt_of_lt_of_le (hF k hk) hb.size
                    obtain ⟨g, o, dA1, dc1, nA1, nc1, sA1, sc1, rfl, _, hFg, hel, c0, c1, c2, c3, c4⟩ := NdIs.elem (hS.kept hkp) (hNs.kept hkp) j hlt
                    have ihx := ih ns[j] (List.getElem_mem hlt)
                    have hokx := NdsOk.at hoks j hlt
                    rw [List.drop_eq_getElem_cons hlt] at hok
                    generalize ns[j] = x at *
                    generalize x.kind = k1 at *
                    generalize x.exec = e1 at *
                    generalize x.data.length = dn1 at *
                    generalize x.names.length = nn1 at *
                    generalize x.nodes.length = sn1 at *
                    have hba : Below wr.heap.size wr (wr.alloc (.cells #[.int .i64 k1, .bool e1, .slice dA1 dn1 dc1, .slice nA1 nn1 nc1, .slice sA1 sn1 sc1] 32)) := (Below.refl _ _).alloc (Nat.le_refl _) _
                    have hcall := ihx F (wr.alloc (.cells #[.int .i64 k1, .bool e1, .slice dA1 dn1 dc1, .slice nA1 nn1 nc1, .slice sA1 sn1 sc1] 32)) _ (hel.kept (fun k hk => hba.block k (hFr k hk))) hokx (fun k hk => Nat.lt_of_lt_of_le (hFr k hk) hba.size)
                    simp only [wrongsF] at hok
                    have hbw3 := hb.trans (hba.mono hb.size)
                    generalize wrongF x = rx at *
                    have HOK := Lib.hid hok
                    clear hok hel hkp ih ihx
                    by_cases hrx : rx = 0
                    · subst hrx
                      have hok2 : Hid (wrongsF ns = wrongsF (ns.drop (j + 1))) := Lib.hid (by rw [HOK.out, if_pos rfl])
                      go_wp2_with (go_at_call 25; refine hcall.mono ?_)
                      first | rintro y w5 rfl hb5 | rintro y w5 ⟨rfl, hb5⟩
                      have hb6 := hbw3.trans (hb5.mono (by have := hbw3.size; simpa using this))
                      go_wp2
                      go_roundw
                      case rel => exact ⟨j + 1, by omega, by go_num, hok2.out, hb6⟩
                      case measure => simp [intOf]; omega
                    · have hrx2 : (rx == 0) = false := by simp [hrx]
                      have hrr : res = rx := by rw [HR2.out, HOK.out, if_neg hrx]
                      subst hrr
                      go_wp2_with (go_at_call 25; refine hcall.mono ?_)
                      first | rintro y w5 rfl hb5 | rintro y w5 ⟨rfl, hb5⟩
                      have hb6 := hbw3.trans (hb5.mono (by have := hbw3.size; simpa using this))
                      go_wp2
                      go_ret
                      exact ⟨rfl, hb6⟩
                  · have hrr : res = 0 := by rw [HR2.out, hok, List.drop_eq_nil_of_le (by omega)]; rfl
                    subst hrr
                    clear hok
                    go_wp2
                    go_ret
                    exact ⟨rfl, hb⟩
    · have hq3 : (k == 3) = false := by simp [hk3]
      by_cases hen : entriesF na > 31744
      · have hr : res = 3 := by rw [HRES.out, if_pos (.inr (.inr hen))]
        subst hr
        generalize entriesF na = ef at *
        go_wp2_with (go_at_call 59; refine hEn.mono ?_)
        first | rintro x w2 rfl hb2 | rintro x w2 ⟨rfl, hb2⟩
        go_wp2
        go_ret
        exact ⟨rfl, hbw1.trans (hb2.mono hbw1.size)⟩
      · have hr : res = if namesOk none na = false then 17 else wrongsF ns := by rw [HRES.out, if_neg (by omega), if_neg (by simp [hk3])]
        have HR := Lib.hid hr
        generalize hef : entriesF na = ef at hEn hen
        clear hr HRES
        go_wp2_with (go_at_call 59; refine hEn.mono ?_)
        first | rintro x w2 rfl hb2 | rintro x w2 ⟨rfl, hb2⟩
        have hbw2 : Below w.heap.size w w2 := hbw1.trans (hb2.mono hbw1.size)
        have hN2 := (hb2.block _ hs1).trans HN1.out
        have m0 := Lib.cell_of_heap hN2 0
        have m2 := Lib.cell_of_heap hN2 2
        have m3 := Lib.cell_of_heap hN2 3
        have m4 := Lib.cell_of_heap hN2 4
        simp at m0 m2 m3 m4
        have HN2 := Lib.hid hN2
        clear hEn hN2 hef
        go_wp2
        go_loopw [46] (fun i wr => ∃ j : Nat, j ≤ na.length ∧ i = .int .i64 j ∧ namesOk none na = namesOk (prevN na j) (na.drop j) ∧ Below w2.heap.size w2 wr) (fun i wr => na.length - (intOf i).toNat)
        case atStart => exact ⟨0, Nat.zero_le _, rfl, rfl, Below.refl _ _⟩
        case round =>
          obtain ⟨j, hj, rfl, hok, hb⟩ := hrel
          have hs2 : w.heap.size < w2.heap.size := (Array.getElem?_eq_some_iff.1 HN2.out).1
          have hbw := hbw2.trans (hb.mono hbw2.size)
          by_cases hlt : j < na.length
          · obtain ⟨_, A', c', hv, hA⟩ := hNm
            injection hv with hv1 hv2 hv3
            subst hv1 hv3
            clear hv2
            obtain ⟨g, o, rfl, hFg, hcl, hcs⟩ := hA (by omega)
            have hgw := hF g hFg
            have c0 : wr.cell? ⟨g, o + j, none⟩ = some (.string (bs na[j])) := (hbw.cell (p := ⟨g, o + j, none⟩) hgw).trans (hcs _ _ (strCells_at na j hlt))
            have hxl := entriesF_at na j hlt
            have hI := tree_isName na[j] (by unfold maxLen; omega) wr
            rw [List.drop_eq_getElem_cons hlt] at hok
            simp only [namesOk] at hok
            have hnx : prevN na (j + 1) = some na[j] := List.getElem?_eq_getElem hlt
            rw [← hnx] at hok
            generalize na[j] = x at *
            have HOK := Lib.hid hok
            clear hok hnx
            cases hnb : nameB x with
            | false =>
              have hr : res = 17 := by rw [HR.out, HOK.out, hnb]; simp
              subst hr
              rw [hnb] at hI
              clear hcs hcl HOK hA
              go_wp2_with (go_at_call 60; refine hI.mono ?_)
              first | rintro y w4 rfl hb4 | rintro y w4 ⟨rfl, hb4⟩
              have hbz := hbw.trans (hb4.mono hbw.size)
              go_wp2
              go_ret
              exact ⟨rfl, hbz⟩
            | true =>
              rw [hnb] at hI
              cases j with
              | zero =>
                have hok2 : Hid (namesOk none na = namesOk (prevN na (0 + 1)) (na.drop (0 + 1))) := Lib.hid (by rw [HOK.out, hnb]; simp [prevN])
                rw [Nat.add_zero] at c0
                clear hcs hcl HOK hA
                go_wp2_with (go_at_call 60; refine hI.mono ?_)
                first | rintro y w4 rfl hb4 | rintro y w4 ⟨rfl, hb4⟩
                have hbz := hb.trans (hb4.mono hb.size)
                go_wp2
                go_roundw
                case rel => exact ⟨0 + 1, by omega, by go_num, hok2.out, hbz⟩
                case measure => simp [intOf]; omega
              | succ m =>
                have hlm : m < na.length := by omega
                have cq : wr.cell? ⟨g, o + m, none⟩ = some (.string (bs na[m])) := (hbw.cell (p := ⟨g, o + m, none⟩) hgw).trans (hcs _ _ (strCells_at na m hlm))
                have hpq : prevN na (m + 1) = some na[m] := List.getElem?_eq_getElem hlm
                rw [hpq] at HOK
                generalize na[m] = q at *
                have m3r := (hb.cell (p := ⟨w.heap.size, 3, none⟩) hs2).trans m3
                clear hcs hcl hA hpq
                go_wp2_with (go_at_call 60; refine hI.mono ?_)
                first | rintro y w4 rfl hb4 | rintro y w4 ⟨rfl, hb4⟩
                have hbz := hb.trans (hb4.mono hb.size)
                have hgr : g < wr.heap.size := Nat.lt_of_lt_of_le hgw hbw.size
                have cq4 := (hb4.cell (p := ⟨g, o + m, none⟩) hgr).trans cq
                have m34 := (hb4.cell (p := ⟨w.heap.size, 3, none⟩) (Nat.lt_of_lt_of_le hs2 hb.size)).trans m3r
                clear cq m3r
                cases hle : leB x q with
                | true =>
                  have hr : res = 17 := by rw [HR.out, HOK.out, hnb]; simp [hle]
                  subst hr
                  unfold leB at hle
                  rw [Bool.or_eq_true] at hle
                  clear HOK
                  cases hl1 : Op.bytesLess x q with
                  | true =>
                    clear hle
                    go_wp2
                    go_ret
                    exact ⟨rfl, hbw2.trans (hbz.mono hbw2.size)⟩
                  | false =>
                    have hl2 : (x == q) = true := by rcases hle with h | h; (rw [hl1] at h; cases h); exact h
                    clear hle
                    go_wp2
                    go_ret
                    exact ⟨rfl, hbw2.trans (hbz.mono hbw2.size)⟩
                | false =>
                  have hok2 : Hid (namesOk none na = namesOk (prevN na (m + 1 + 1)) (na.drop (m + 1 + 1))) := Lib.hid (by rw [HOK.out, hnb]; simp [hle])
                  unfold leB at hle
                  rw [Bool.or_eq_false_iff] at hle
                  obtain ⟨hl1, hl2⟩ := hle
                  clear HOK
                  go_wp2
                  refine ⟨⟨m + 1 + 1, by omega, by go_num, hok2.out, hbz⟩, ?_⟩
                  simp [intOf]
                  omega
          · have hr : res = wrongsF ns := by rw [HR.out, hok, List.drop_eq_nil_of_le (by omega)]; rfl
            have HR2 := Lib.hid hr
            have m4r := (hb.cell (p := ⟨w.heap.size, 4, none⟩) hs2).trans m4
            clear hok hr
            go_wp2
            go_loopw [72] (fun i wx => ∃ j : Nat, j ≤ ns.length ∧ i = .int .i64 j ∧ wrongsF ns = wrongsF (ns.drop j) ∧ Below w.heap.size w wx) (fun i wx => ns.length - (intOf i).toNat)
            case atStart => exact ⟨0, Nat.zero_le _, rfl, rfl, hbw⟩
            case round =>
              obtain ⟨j, hj, rfl, hok, hb⟩ := hrel
              by_cases hlt : j < ns.length
              · have hkp : ∀ k, F k → wr.heap[k]? = w.heap[k]? := fun k hk => hb.block k (hF k hk)
                have hFr : ∀ k, F k → k < wr.heap.size := fun k hk => Nat.lt_of_lt_of_le (hF k hk) hb.size
                obtain ⟨g, o, dA1, dc1, nA1, nc1, sA1, sc1, rfl, _, hFg, hel, c0, c1, c2, c3, c4⟩ := NdIs.elem (hS.kept hkp) (hNs.kept hkp) j hlt
                have ihx := ih ns[j] (List.getElem_mem hlt)
                have hokx := NdsOk.at hoks j hlt
                rw [List.drop_eq_getElem_cons hlt] at hok
                generalize ns[j] = x at *
                generalize x.kind = k1 at *
                generalize x.exec = e1 at *
                generalize x.data.length = dn1 at *
                generalize x.names.length = nn1 at *
                generalize x.nodes.length = sn1 at *
                have hba : Below wr.heap.size wr (wr.alloc (.cells #[.int .i64 k1, .bool e1, .slice dA1 dn1 dc1, .slice nA1 nn1 nc1, .slice sA1 sn1 sc1] 32)) := (Below.refl _ _).alloc (Nat.le_refl _) _
                have hcall := ihx F (wr.alloc (.cells #[.int .i64 k1, .bool e1, .slice dA1 dn1 dc1, .slice nA1 nn1 nc1, .slice sA1 sn1 sc1] 32)) _ (hel.kept (fun k hk => hba.block k (hFr k hk))) hokx (fun k hk => Nat.lt_of_lt_of_le (hFr k hk) hba.size)
                simp only [wrongsF] at hok
                have hbw3 := hb.trans (hba.mono hb.size)
                generalize wrongF x = rx at *
                have HOK := Lib.hid hok
                clear hok hel hkp ih ihx
                by_cases hrx : rx = 0
                · subst hrx
                  have hok2 : Hid (wrongsF ns = wrongsF (ns.drop (j + 1))) := Lib.hid (by rw [HOK.out, if_pos rfl])
                  go_wp2_with (go_at_call 25; refine hcall.mono ?_)
                  first | rintro y w5 rfl hb5 | rintro y w5 ⟨rfl, hb5⟩
                  have hb6 := hbw3.trans (hb5.mono (by have := hbw3.size; simpa using this))
                  go_wp2
                  go_roundw
                  case rel => exact ⟨j + 1, by omega, by go_num, hok2.out, hb6⟩
                  case measure => simp [intOf]; omega
                · have hrx2 : (rx == 0) = false := by simp [hrx]
                  have hrr : res = rx := by rw [HR2.out, HOK.out, if_neg hrx]
                  subst hrr
                  go_wp2_with (go_at_call 25; refine hcall.mono ?_)
                  first | rintro y w5 rfl hb5 | rintro y w5 ⟨rfl, hb5⟩
                  have hb6 := hbw3.trans (hb5.mono (by have := hbw3.size; simpa using this))
                  go_wp2
                  go_ret
                  exact ⟨rfl, hb6⟩
              · have hrr : res = 0 := by rw [HR2.out, hok, List.drop_eq_nil_of_le (by omega)]; rfl
                subst hrr
                clear hok
                go_wp2
                go_ret
                exact ⟨rfl, hb⟩

mutual
theorem wrong_any : ∀ n : Nd, WrongP n
  | .mk k e d na ns => wrong_walk k e d na ns (wrongs_any ns)
theorem wrongs_any : ∀ (l : List Nd) (x : Nd), x ∈ l → WrongP x
  | [], x, h => absurd h (by simp)
  | n :: r, x, h => by
    rcases List.mem_cons.1 h with h | h
    · rw [h]; exact wrong_any n
    · exact wrongs_any r x h
end

def rightF (n : Nd) : Int := if (countF n 1024 1).2 then wrongF n else 3
set_option maxHeartbeats 1000000 in
set_option maxRecDepth 100000 in
theorem tree_Right (n : Nd) {F : Nat → Prop} {w : World} {cl : List Value} (hN : NdIs F w n cl) (hok : NdOk n) (hF : ∀ k, F k → k < w.heap.size) :
    Calls Tryz.prog 15 #[.agg cl.toArray] w fun x w' => x = .returned (.int .i64 (rightF n)) ∧ Below w.heap.size w w' := by
  obtain ⟨dA, dc, nA, nc, sA, sc, rfl, _⟩ := hN.cells
  have hfr : rightF n = if (countF n 1024 1).2 then wrongF n else 3 := rfl
  have hba : Below w.heap.size w (w.alloc (.cells #[.int .i64 n.kind, .bool n.exec, .slice dA n.data.length dc, .slice nA n.names.length nc, .slice sA n.nodes.length sc] 32)) := (Below.refl _ _).alloc (Nat.le_refl _) _
  have hN0 := heap_alloc_new w (.cells #[.int .i64 n.kind, .bool n.exec, .slice dA n.data.length dc, .slice nA n.names.length nc, .slice sA n.nodes.length sc] 32)
  have hn0 : w.heap.size < (w.alloc (.cells #[.int .i64 n.kind, .bool n.exec, .slice dA n.data.length dc, .slice nA n.names.length nc, .slice sA n.nodes.length sc] 32)).heap.size := by simp
  have hcall := count_any n F _ n.kind n.exec _ _ _ 1024 1 (hN.kept (fun k hk => hba.block k (hF k hk))) (fun k hk => Nat.lt_of_lt_of_le (hF k hk) hba.size) (by omega) (by omega) (by omega) (by omega)
  have hW := fun w1 (hb : Below w.heap.size w w1) => wrong_any n F w1 _ (hN.kept (fun k hk => hb.block k (hF k hk))) hok (fun k hk => Nat.lt_of_lt_of_le (hF k hk) hb.size)
  generalize n.kind = k at *
  generalize n.exec = e at *
  generalize n.data.length = dn at *
  generalize n.names.length = nn at *
  generalize n.nodes.length = sn at *
  generalize countF n 1024 1 = cr at *
  obtain ⟨cn, ok⟩ := cr
  simp only at hfr hcall
  cases ok with
  | false =>
    rw [hfr]
    go_enter Tryz.func15, Tryz.ntmps15
    go_wp2_with (go_at_call 24; refine hcall.mono ?_)
    first | rintro x w1 rfl hb1 | rintro x w1 ⟨rfl, hb1⟩
    have hb2 := hba.trans (hb1.mono (by simp))
    go_wp2
    go_ret
    exact ⟨rfl, hb2⟩
  | true =>
    rw [hfr]
    go_enter Tryz.func15, Tryz.ntmps15
    go_wp2_with (go_at_call 24; refine hcall.mono ?_)
    first | rintro x w1 rfl hb1 | rintro x w1 ⟨rfl, hb1⟩
    have hb2 := hba.trans (hb1.mono (by simp))
    have hW1 := hW w1 hb2
    have hN1 := (hb1.block w.heap.size (by simp)).trans hN0
    have n0 := Lib.cell_of_heap hN1 0
    have n1 := Lib.cell_of_heap hN1 1
    have n2 := Lib.cell_of_heap hN1 2
    have n3 := Lib.cell_of_heap hN1 3
    have n4 := Lib.cell_of_heap hN1 4
    simp at n0 n1 n2 n3 n4
    clear hW hN1 hN0
    go_wp2_with (go_at_call 25; refine hW1.mono ?_)
    first | rintro x w2 rfl hb3 | rintro x w2 ⟨rfl, hb3⟩
    have hb4 := hb2.trans (hb3.mono hb2.size)
    go_wp2
    go_ret
    exact ⟨rfl, hb4⟩
end Go.Proofs.YtejpkjcjoengbaaGreatDoor
