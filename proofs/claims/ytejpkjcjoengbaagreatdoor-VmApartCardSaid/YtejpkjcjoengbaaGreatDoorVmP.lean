/-
  The machine as a whole: what it holds, and one step of it as a plain function.
-/
import Derived.Test.YtejpkjcjoengbaaGreatDoorWdi
import Derived.Test.YtejpkjcjoengbaaGreatDoorPlF
import Derived.Test.YtejpkjcjoengbaaGreatDoorOwn
import Derived.Test.YtejpkjcjoengbaaGreatDoorVmN
set_option linter.unusedVariables false
set_option linter.unusedSimpArgs false
namespace Go.Proofs.YtejpkjcjoengbaaGreatDoor
open Go.RowKit

structure MSt where
  st : List (List UInt8)
  out : Option Nd
  bytes : Int
  lb : List UInt8
abbrev SRes := Except Int MSt

def OutIs (B : Nat) (G : Nat → Prop) (out : Option Nd) (ov : Value) (w : World) : Prop :=
  match out with
  | none => ov = .pointer none
  | some n => ∃ (N : Nat) (cs : Array Value) (F : Nat → Prop), ov = .pointer (some ⟨N, 0, none⟩) ∧ G N ∧ w.heap[N]? = some (.cells cs 32 (0, 0)) ∧ NdO B w n F cs.toList ∧ ¬ F N ∧ (∀ k, F k → G k) ∧ NdEq n
theorem OutIs.kept {B : Nat} {G : Nat → Prop} {out : Option Nd} {ov : Value} {w w' : World} (h : OutIs B G out ov w) (hsz : w.heap.size ≤ w'.heap.size) (hk : ∀ k, G k → w'.heap[k]? = w.heap[k]?) : OutIs B G out ov w' := by
  unfold OutIs at *
  cases out with
  | none => exact h
  | some n =>
    obtain ⟨N, cs, F, h1, h2, h3, h4, h5, h6, h7⟩ := h
    exact ⟨N, cs, F, h1, h2, (hk N h2).trans h3, h4.kept hsz (fun k hk2 => hk k (h6 k hk2)), h5, h6, h7⟩
def outSz : Option Nd → Nat
  | none => 0
  | some n => szF n

def stOk (st : List (List UInt8)) : Prop := st.length ≤ 1000 ∧ ∀ x ∈ st, x.length ≤ 65536
/-- The machine at block b, with all that it owns in the blocks F. -/
def MIs (B b : Nat) (ev av iv : Value) (most : Int) (F : Nat → Prop) (s : MSt) (w : World) : Prop :=
  ∃ sv ov, ∃ G : Nat → Prop, Mac B b ev av iv most sv s.st ov s.bytes s.lb w ∧ OutIs B G s.out ov w ∧ (∀ k, G k → B ≤ k ∧ k < w.heap.size ∧ k ≠ b ∧ sv.ownBlock ≠ some k) ∧
    (∀ k, F k ↔ (k = b ∨ sv.ownBlock = some k ∨ G k)) ∧ stOk s.st ∧ 0 ≤ s.bytes ∧ s.bytes ≤ 1048576
structure SFrame (F F' : Nat → Prop) (w w' : World) : Prop where
  os : w'.os = w.os
  tape : w'.tape = w.tape
  output : w'.output = w.output
  size : w.heap.size ≤ w'.heap.size
  block : ∀ k, k < w.heap.size → ¬ F k → w'.heap[k]? = w.heap[k]?
  fresh : ∀ k, F' k → F k ∨ w.heap.size ≤ k
theorem SFrame.refl (F : Nat → Prop) (w : World) : SFrame F F w w := ⟨rfl, rfl, rfl, Nat.le_refl _, fun _ _ _ => rfl, fun _ h => .inl h⟩
theorem SFrame.trans {F1 F2 F3 : Nat → Prop} {w1 w2 w3 : World} (h : SFrame F1 F2 w1 w2) (k : SFrame F2 F3 w2 w3) : SFrame F1 F3 w1 w3 where
  os := k.os.trans h.os
  tape := k.tape.trans h.tape
  output := k.output.trans h.output
  size := Nat.le_trans h.size k.size
  block j hj hn := by
    rw [k.block j (Nat.lt_of_lt_of_le hj h.size) (fun e => by
      rcases h.fresh j e with h1 | h1
      · exact hn h1
      · omega)]
    exact h.block j hj hn
  fresh j hj := by
    rcases k.fresh j hj with h1 | h1
    · exact h.fresh j h1
    · exact .inr (Nat.le_trans h.size h1)
theorem SFrame.below {B : Nat} {F F' : Nat → Prop} {w w' : World} (h : SFrame F F' w w') (hF : ∀ k, F k → B ≤ k) (hB : B ≤ w.heap.size) : Below B w w' :=
  ⟨h.os, h.tape, h.output, h.size, fun k hk => h.block k (by omega) (fun e => by have := hF k e; omega)⟩
theorem SFrame.of_below {F : Nat → Prop} {w w' : World} (h : Below w.heap.size w w') : SFrame F F w w' :=
  ⟨h.os, h.tape, h.output, h.size, fun k hk _ => h.block k hk, fun _ h => .inl h⟩

section
variable {B b : Nat} {ev av iv : Value} {most : Int} {F : Nat → Prop} {s : MSt} {w w' : World}
theorem MIs.base (h : MIs B b ev av iv most F s w) : B ≤ b ∧ b < w.heap.size := by
  obtain ⟨sv, ov, G, h1, _⟩ := h
  exact ⟨h1.base, h1.lt⟩
theorem MIs.foot (h : MIs B b ev av iv most F s w) : ∀ k, F k → B ≤ k ∧ k < w.heap.size := by
  obtain ⟨sv, ov, G, h1, h2, h3, h4, _⟩ := h
  intro k hk
  rcases (h4 k).1 hk with rfl | h5 | h5
  · exact ⟨h1.base, h1.lt⟩
  · exact h1.stk.lt k h5
  · exact ⟨(h3 k h5).1, (h3 k h5).2.1⟩
theorem MIs.kept (h : MIs B b ev av iv most F s w) (hb : Below w.heap.size w w') : MIs B b ev av iv most F s w' := by
  obtain ⟨sv, ov, G, h1, h2, h3, h4, h5⟩ := h
  exact ⟨sv, ov, G, h1.kept hb, h2.kept hb.size (fun k hk => hb.block k (h3 k hk).2.1), fun k hk => ⟨(h3 k hk).1, Nat.lt_of_lt_of_le (h3 k hk).2.1 hb.size, (h3 k hk).2.2⟩, h4, h5⟩
end

def resS (r : SRes) : Value := match r with | .ok _ => .nilIface | .error n => faultV n
def StepPost (r : SRes) (B b : Nat) (ev av iv : Value) (most : Int) (F : Nat → Prop) (w : World) (e : Ending) (w' : World) : Prop :=
  e = .returned (resS r) ∧ ∃ F', SFrame F F' w w' ∧ (∀ s', r = .ok s' → MIs B b ev av iv most F' s' w')

def ofO (s : MSt) (lb : List UInt8) (r : ORes) : SRes := match r with | .ok st' => .ok ⟨st', s.out, s.bytes, lb⟩ | .error n => .error n

/-- From an operation on the stack alone. -/
theorem StepPost.of_op {B b : Nat} {ev av iv : Value} {most : Int} {F G : Nat → Prop} {s : MSt} {sv ov : Value} {lb' : List UInt8} {r : ORes} {w w' : World} {e : Ending}
    (h : OpPost r B b ev av iv most sv ov s.bytes lb' w e w') (hstk : ∀ k, sv.ownBlock = some k → k < w.heap.size) (hO : OutIs B G s.out ov w) (hG : ∀ k, G k → B ≤ k ∧ k < w.heap.size ∧ k ≠ b ∧ sv.ownBlock ≠ some k) (hF : ∀ k, F k ↔ (k = b ∨ sv.ownBlock = some k ∨ G k))
    (hst : ∀ st', r = .ok st' → stOk st') (hb0 : 0 ≤ s.bytes) (hb1 : s.bytes ≤ 1048576) : StepPost (ofO s lb' r) B b ev av iv most F w e w' := by
  obtain ⟨he, hs⟩ := h
  unfold OpState at hs
  cases r with
  | error n =>
    obtain ⟨sv', hm⟩ := hs
    refine ⟨he, F, ⟨hm.os, hm.tape, hm.output, hm.size, fun k hk hn => hm.block k hk (fun e => hn ((hF k).2 (.inl e))) (fun e => hn ((hF k).2 (.inr (.inl e)))), fun k hk => .inl hk⟩, fun s' h => by cases h⟩
  | ok st' =>
    obtain ⟨sv', hmac, hm⟩ := hs
    refine ⟨he, fun k => k = b ∨ sv'.ownBlock = some k ∨ G k, ⟨hm.os, hm.tape, hm.output, hm.size, fun k hk hn => hm.block k hk (fun e => hn ((hF k).2 (.inl e))) (fun e => hn ((hF k).2 (.inr (.inl e)))), fun k hk => ?_⟩, fun s' h => ?_⟩
    · rcases hk with h1 | h1 | h1
      · exact .inl ((hF k).2 (.inl h1))
      · rcases hm.fresh k h1 with h2 | h2
        · exact .inl ((hF k).2 (.inr (.inl h2)))
        · exact .inr h2
      · exact .inl ((hF k).2 (.inr (.inr h1)))
    · injection h with h
      subst h
      refine ⟨sv', ov, G, hmac, hO.kept hm.size (fun k hk => hm.block k (hG k hk).2.1 (hG k hk).2.2.1 (hG k hk).2.2.2), fun k hk => ⟨(hG k hk).1, Nat.lt_of_lt_of_le (hG k hk).2.1 hm.size, (hG k hk).2.2.1, fun e => ?_⟩, fun k => Iff.rfl, hst st' rfl, hb0, hb1⟩
      rcases hm.fresh k e with h2 | h2
      · exact (hG k hk).2.2.2 h2
      · have := (hG k hk).2.1; omega

theorem stOk.put {st : List (List UInt8)} (h : stOk st) : ∀ {xs st' : List (List UInt8)}, putR st xs = .ok st' → stOk st' := by
  intro xs
  induction xs generalizing st with
  | nil => intro st' e; unfold putR putF at e; injection e with e; subst e; exact h
  | cons x xs ih =>
    intro st' e
    unfold putR putF at e
    by_cases hb : x.length > 65536 ∨ 1000 ≤ st.length
    · rw [if_pos hb] at e; cases e
    · rw [if_neg hb] at e
      refine ih (st := st ++ [x]) ⟨by simp; omega, fun y hy => ?_⟩ (by unfold putR; exact e)
      rcases List.mem_append.1 hy with h1 | h1
      · exact h.2 y h1
      · simp at h1; subst h1; omega
theorem top1_some {st s : List (List UInt8)} {x : List UInt8} (h : top1 st = some (s, x)) : st = s ++ [x] := by
  rcases top1_cases st with ⟨h1, _⟩ | ⟨s', x', rfl⟩
  · rw [h1] at h; cases h
  · rw [top1_snoc] at h; injection h with h; injection h with h1 h2; subst h1 h2; rfl
theorem top2_some {st s : List (List UInt8)} {x y : List UInt8} (h : top2 st = some (s, x, y)) : st = s ++ [x, y] := by
  rcases top2_cases st with ⟨h1, _⟩ | ⟨s', x', y', rfl⟩
  · rw [h1] at h; cases h
  · rw [top2_snoc] at h; injection h with h; injection h with h1 h2; injection h2 with h2 h3; subst h1 h2 h3; rfl
theorem stOk.left {s t : List (List UInt8)} (h : stOk (s ++ t)) : stOk s := ⟨by have := h.1; simp at this; omega, fun x hx => h.2 x (List.mem_append_left _ hx)⟩
theorem stOk.top1 {st s : List (List UInt8)} {x : List UInt8} (h : stOk st) (e : top1 st = some (s, x)) : stOk s := by rw [top1_some e] at h; exact h.left
theorem stOk.top2 {st s : List (List UInt8)} {x y : List UInt8} (h : stOk st) (e : top2 st = some (s, x, y)) : stOk s := by rw [top2_some e] at h; exact h.left

theorem stOk.two {f : List UInt8 → List UInt8 → List UInt8} {st st' : List (List UInt8)} (h : stOk st) (e : twoR f st = .ok st') : stOk st' := by
  unfold twoR at e
  cases ht : Go.Proofs.YtejpkjcjoengbaaGreatDoor.top2 st with
  | none => rw [ht] at e; cases e
  | some p => rw [ht] at e; exact (h.top2 ht).put e

/-- A tree put out at a path. -/
def doneF (most : Int) (s : MSt) (n t : Nd) : SRes := if s.bytes + n.data.length > most then .error 42 else .ok { s with out := some t, bytes := s.bytes + n.data.length }
def emitF (most : Int) (s : MSt) (p : List UInt8) (n : Nd) : SRes :=
  if p = [] then
    match s.out with
    | some _ => .error 13
    | none => doneF most s n n
  else if (splitSl p).all (fun x => rightF (nameNd x) == 0) = false then .error 17
  else match placeF (s.out.getD emptyDir) (splitSl p) n with
    | .error x => .error x
    | .ok t => doneF most s n t
def pairF (most : Int) (s : MSt) (kind : Int) (exec : Bool) : SRes :=
  match top2 s.st with
  | none => .error 40
  | some (st, p, y) => emitF most { s with st := st } p (.mk kind exec y [] [])
def dirF (most : Int) (s : MSt) : SRes :=
  match top1 s.st with
  | none => .error 40
  | some (st, p) => emitF most { s with st := st } p emptyDir

theorem ite_some {α : Type} {c : Prop} [Decidable c] {a b : α} (h : (if c then some a else none) = some b) : c ∧ a = b := by
  split at h
  · exact ⟨‹c›, Option.some.inj h⟩
  · cases h
/-- One line of the program; none: not covered. -/
def stepF (W : Wd) (most : Int) (f : FuncId) (text : List UInt8) (s : MSt) : Option SRes :=
  if f = 33 then some (ofO s s.lb (putR s.st [text]))
  else if f = 35 then some (.ok s)
  else if f = 36 then some (ofO s text (.ok s.st))
  else if f = 37 then some (ofO s (chooseLb s.st text s.lb) (chooseR s.st))
  else if f = 38 then some (ofO s s.lb (envR W.env s.st))
  else if f = 39 then some (ofO s s.lb (argR W.args s.st))
  else if f = 40 then some (ofO s s.lb (readR W.inputs s.st))
  else if f = 41 then (if listOk W.inputs s.st = true then some (ofO s s.lb (listR W.inputs s.st)) else none)
  else if f = 42 then some (ofO s s.lb (twoR (fun x y => x ++ y) s.st))
  else if f = 43 then some (ofO s s.lb (dupR s.st))
  else if f = 44 then some (ofO s s.lb (swapR s.st))
  else if f = 45 then some (ofO s s.lb (dropR s.st))
  else if f = 46 then some (ofO s s.lb (lengthR s.st))
  else if f = 47 then some (ofO s s.lb (twoR (fun x y => if x = y then [49] else []) s.st))
  else if f = 48 then some (ofO s s.lb (twoR (fun x y => Lib.itoa (numF x + numF y)) s.st))
  else if f = 49 then some (ofO s s.lb (twoR (fun x y => Lib.itoa (numF x - numF y)) s.st))
  else if f = 50 then some (pairF most s 1 false)
  else if f = 51 then some (pairF most s 1 true)
  else if f = 53 then some (pairF most s 3 false)
  else if f = 52 then some (dirF most s)
  else if f = 54 then some (.error 43)
  else none

theorem stepF_list {W : Wd} {most : Int} {text : List UInt8} {s : MSt} (h : listOk W.inputs s.st = true) : stepF W most 41 text s = some (ofO s s.lb (listR W.inputs s.st)) := by
  show (if listOk W.inputs s.st = true then some (ofO s s.lb (listR W.inputs s.st)) else none) = _
  rw [if_pos h]

/-- The lines from line k on; f: how many steps are looked at at most; n: the steps so far. -/
def labUp (ls : List PLine) : Nat → List UInt8 → Int
  | 0, _ => 0
  | k + 1, y => match ls[k]? with
    | some l => if l.word = wLabel ∧ y = l.text then k else labUp ls k y
    | none => labUp ls k y
def labAt (ls : List PLine) (x : List UInt8) : Nat := (labUp ls ls.length x).toNat
def runF' (W : Wd) (most : Int) (ls : List PLine) (steps : Int) : Nat → Nat → Int → MSt → Option (Int × SRes)
  | 0, _, _, _ => none
  | f + 1, k, n, s =>
    match ls[k]? with
    | none => some (n, .ok s)
    | some l =>
      if n + 1 > steps then some (n + 1, .error 42)
      else match opF l.word with
        | none => none
        | some op => match stepF W most op l.text { s with lb := [] } with
          | none => none
          | some (.error e) => some (n + 1, .error e)
          | some (.ok s') => if s'.lb = [] then runF' W most ls steps f (k + 1) (n + 1) s' else runF' W most ls steps f (labAt ls s'.lb) (n + 1) s'
end Go.Proofs.YtejpkjcjoengbaaGreatDoor
