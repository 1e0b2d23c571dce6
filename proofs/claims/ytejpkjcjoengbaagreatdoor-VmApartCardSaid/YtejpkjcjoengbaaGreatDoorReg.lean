/-
  A region that draws its order, where a load's cell is written by an operation that waits for the load (of no program): the load may be taken first all the same.
-/
import Derived.OrdersHeld
import Derived.Test.YtejpkjcjoengbaaGreatDoorOwn
set_option linter.unusedVariables false
set_option linter.unusedSimpArgs false
namespace Go.Proofs.YtejpkjcjoengbaaGreatDoor

section
variable {P : Program} {ops : Array Oper} {Q : Exit → Act → World → Prop} {md : Region.Mode} {T : Nat → World → Prop}

/-- Whatever order is picked, and behind operation j the world meets T j. -/
def wpAnyT (P : Program) (md : Region.Mode) (ops : Array Oper) (Q : Exit → Act → World → Prop) (T : Nat → World → Prop) : Nat → Array Bool → Act → World → Prop
  | 0, listed, a, w => Region.ready md ops listed = [] ∧ Q .normal a w
  | fuel + 1, listed, a, w => (Region.ready md ops listed = [] → Q .normal a w) ∧
    ∀ i ∈ Region.ready md ops listed, wpOp P ops Q i (fun a' w' => T i w' ∧ wpAnyT P md ops Q T fuel (listed.setIfInBounds i true) a' w') a w
theorem wpAny_of_T : ∀ (fuel : Nat) (listed : Array Bool) (a : Act) (w : World), wpAnyT P md ops Q T fuel listed a w → wpAny P md ops Q fuel listed a w
  | 0, _, _, _, h => h
  | fuel + 1, _, _, _, h => ⟨h.1, fun i hi => wpOp_mono (fun a' w' h' => wpAny_of_T fuel _ a' w' h'.2) (h.2 i hi)⟩

/-- Number i may be taken first: it yields v wherever C holds, and C holds behind each operation that does not wait for it. -/
theorem wpAnyT_first {C : World → Prop} {i : Nat} {oi : Oper} {v : Value} (hi : ops[i]? = some oi) (hsel : ∀ (j : Nat) (o : Oper) cs b, ops[j]? = some o → o.op ≠ .select cs b)
    (hQ : ∀ c a w, Q (.panic c) (a.put oi.dst v) w → Q (.panic c) a w) (hti : ∀ w, C w → T i w) :
    ∀ (fuel : Nat) (listed : Array Bool) (a : Act) (w : World),
      (∀ j oj, ops[j]? = some oj → j ≠ i → listed.getD j true = false → (∀ e ∈ oj.after, Region.binds md e = true → e.on ≠ i) → oi.apart ops oj = true) →
      (∀ j oj, ops[j]? = some oj → listed.getD j true = false → (∀ e ∈ oj.after, Region.binds md e = true → e.on ≠ i) → ∀ w, T j w → C w) →
      i ∈ Region.ready md ops listed → YieldsIf P ops C oi v a → C w →
      wpAnyT P md ops Q T fuel (listed.setIfInBounds i true) (a.put oi.dst v) w → wpAnyT P md ops Q T (fuel + 1) listed a w := by
  intro fuel
  induction fuel with
  | zero =>
    intro listed a w _ _ hr hy hw H
    refine ⟨fun h => absurd (h ▸ hr) (by simp), fun j hj => ?_⟩
    by_cases hji : j = i
    · subst hji
      exact hy.wpOp hi hw ⟨hti w hw, H⟩
    · have hm := ready_mono hj hji
      rw [H.1] at hm
      exact absurd hm (by simp)
  | succ fuel ih =>
    intro listed a w hfree hC hr hy hw H
    refine ⟨fun h => absurd (h ▸ hr) (by simp), fun j hj => ?_⟩
    by_cases hji : j = i
    · subst hji
      exact hy.wpOp hi hw ⟨hti w hw, H⟩
    · obtain ⟨hun, oj, hoj, hall⟩ := mem_ready.1 hj
      have hno : ∀ e ∈ oj.after, Region.binds md e = true → e.on ≠ i := fun e he hb heq => by
        have hd := hall e he hb
        have hu := (mem_ready.1 hr).1
        rw [heq] at hd
        by_cases hlt : i < listed.size
        · simp [hlt] at hu hd
          rw [hu] at hd
          cases hd
        · simp [Array.getElem?_eq_none (Nat.le_of_not_lt hlt)] at hd
      have hput := wpOp_putIf hoj (hfree j oj hoj hji hun hno) (fun cs b => hsel i oi cs b hi) (fun cs b => hsel j oj cs b hoj) hQ hy (H.2 j (ready_mono hj hji))
      have hback : ∀ k, (listed.setIfInBounds j true).getD k true = false → listed.getD k true = false := fun k huk => by
        by_cases hjk : j = k
        · subst hjk; exact hun
        · rw [getD_set_ne true hjk] at huk; exact huk
      refine wpOp_mono (fun a' w' h3 => ⟨h3.2.1, ih (listed.setIfInBounds j true) a' w' (fun k ok hk hki huk hnk => hfree k ok hk hki (hback k huk) hnk) (fun k ok hk huk => hC k ok hk (hback k huk)) (ready_mono hr (Ne.symm hji)) h3.1 (hC j oj hoj hun hno w' h3.2.1) ?_⟩) hput
      rw [Array.setIfInBounds_comm _ _ hji]
      exact h3.2.2

/-- The operations of the list ex have come up, or wait for number i. -/
def waitB (md : Region.Mode) (ops : Array Oper) (listed : Array Bool) (ex : List Nat) (i : Nat) : Bool := ex.all fun j => listed.getD j true || match ops[j]? with | some o => o.after.any (fun e => Region.binds md e && e.on == i) | none => true
theorem wpAnyT_take (ex : List Nat) {C : World → Prop} {i : Nat} {oi : Oper} {v : Value} {fuel : Nat} {listed : Array Bool} {a : Act} {w : World} (hi : ops[i]? = some oi)
    (hs : Region.noSelect ops = true) (hf : Region.free md ops listed i = true) (hr : (Region.ready md ops listed).contains i = true) (hx : waitB md ops listed ex i = true)
    (hQ : ∀ c a w, Q (.panic c) (a.put oi.dst v) w → Q (.panic c) a w) (hC : ∀ j w, j ∉ ex → T j w → C w) (hti : ∀ w, C w → T i w) (hw : C w) (hy : YieldsIf P ops C oi v a)
    (h : wpAnyT P md ops Q T fuel (listed.setIfInBounds i true) (a.put oi.dst v) w) : wpAnyT P md ops Q T (fuel + 1) listed a w := by
  refine wpAnyT_first hi (Region.noSelect_spec hs) hQ hti fuel listed a w (Region.free_spec hi hf) (fun j oj hj hun hno w' hw' => hC j w' (fun hm => ?_) hw') (by simpa using hr) hy hw h
  have h1 := List.all_eq_true.1 hx j hm
  rw [hj, hun, Bool.false_or] at h1
  obtain ⟨e, he, h2⟩ := Array.any_eq_true'.1 h1
  simp only [Bool.and_eq_true, beq_iff_eq] at h2
  exact hno e he h2.1 h2.2
/-- The same, the state behind it written out. -/
theorem wpAnyT_takes (ex : List Nat) {C : World → Prop} {i d : Nat} {oi : Oper} {v : Value} {fuel : Nat} {listed : Array Bool} {tm : Array Value} {df : List Deferred} {w : World} (hi : ops[i]? = some oi) (hd : oi.dst = some d)
    (hs : Region.noSelect ops = true) (hf : Region.free md ops listed i = true) (hr : (Region.ready md ops listed).contains i = true) (hx : waitB md ops listed ex i = true)
    (hQ : ∀ c a w, Q (.panic c) (a.put oi.dst v) w → Q (.panic c) a w) (hC : ∀ j w, j ∉ ex → T j w → C w) (hti : ∀ w, C w → T i w) (hw : C w) (hy : YieldsIf P ops C oi v ⟨tm, df⟩)
    (h : wpAnyT P md ops Q T fuel (listed.setIfInBounds i true) ⟨tm.setIfInBounds d v, df⟩ w) : wpAnyT P md ops Q T (fuel + 1) listed ⟨tm, df⟩ w := by
  refine wpAnyT_take ex hi hs hf hr hx hQ hC hti hw hy ?_
  rw [hd]
  exact h
theorem wpAnyT_all {rs : List Nat} {fuel : Nat} {listed : Array Bool} {a : Act} {w : World} (hr : Region.ready md ops listed = rs) (hne : rs ≠ [])
    (h : ∀ i ∈ rs, wpOp P ops Q i (fun a' w' => T i w' ∧ wpAnyT P md ops Q T fuel (listed.setIfInBounds i true) a' w') a w) : wpAnyT P md ops Q T (fuel + 1) listed a w :=
  ⟨fun h0 => absurd (hr ▸ h0) hne, hr ▸ h⟩
theorem wpAnyT_done {listed : Array Bool} {a : Act} {w : World} (hr : Region.ready md ops listed = []) (h : Q .normal a w) : ∀ fuel, wpAnyT P md ops Q T fuel listed a w
  | 0 => ⟨hr, h⟩
  | _ + 1 => ⟨fun _ => h, by rw [hr]; simp⟩
theorem wp_region_T {id : Nat} {a : Act} {w : World} (T : Nat → World → Prop) (hm : P.follows .mixedOrders = true)
    (h : wpAnyT P .any ops Q T ops.size (Array.replicate ops.size false) a w.drew) : (Code.region id ops true).wp P Q a w :=
  wp_region_any hm (wpAny_of_T _ _ _ _ h)
end
end Go.Proofs.YtejpkjcjoengbaaGreatDoor
