-- Written by a program of this session (wip/xprint.py, by way of the print): Lean functions and proofs that the Go functions come to them.
import Derived.Test.YtnmpmjbkelogaaaPrint0
import Derived.Test.YtnmpmjbkelogaaaPrint1
namespace Go.Proofs.Ytnmpmjbkelogaaa.Print
open Go.RowKit Go.Proofs.YtnmpmjbkelogaaaW.PrintWords Go.Proofs.YtnmpmjbkelogaaaW.PrintLast Go.Proofs.YtnmpmjbkelogaaaW.PrintMore
attribute [local go_sem] max2_int min2_int max_two min_two max_three min_three max_four min_four   -- for this text's walks alone
set_option linter.unusedVariables false
set_option linter.unusedSimpArgs false
/-! ### mark_Run: function 12 -/
/-! #### marking under way: what it holds, and its units (the session's own) -/
/-- A state of marking. -/
structure MS where
 ph : Int
 at_ : Int
 marks : List Bool
 stack : List Int
 over : Bool
 again : Bool
 scan : Bool
def MS.touch (room : Int) (s : MS) (i : Int) : Option (MS × Bool) :=
 if 0 ≤ i ∧ i < (s.marks.length : Int) ∧ s.stack.length < 1000 then
  (if rdOf false s.marks i = true then some (s, false)
   else if (s.stack.length : Int) < room then some ({ s with marks := s.marks.set i.toNat true, stack := s.stack ++ [i] }, true)
   else some ({ s with marks := s.marks.set i.toNat true, over := true }, true))
 else none
def MS.touches (room : Int) : List Int → MS → Bool → Option (MS × Bool)
 | [], s, b => some (s, b)
 | p :: l, s, b => (MS.touch room s p).bind fun q => MS.touches room l q.1 (b || q.2)
def MS.from_ (cf : List Bool → Int → Option (List Int)) (room : Int) (s : MS) (i : Int) : Option (MS × Bool) :=
 (cf s.marks i).bind fun l => MS.touches room l s false
def MS.roots (lr : List Int) (room : Int) (s : MS) : Option MS :=
 if s.at_ = (lr.length : Int) then some { s with ph := 1, at_ := 0 }
 else if 0 ≤ s.at_ ∧ s.at_ < (lr.length : Int) then (MS.touch room s (rd lr s.at_)).bind fun q => some { q.1 with at_ := q.1.at_ + 1 }
 else none
def MS.drain (cf : List Bool → Int → Option (List Int)) (pf : List Bool → Option Bool) (room : Int) (s : MS) : Option MS :=
 if 0 < s.stack.length then (MS.from_ cf room { s with stack := s.stack.take (s.stack.length - 1) } (rd s.stack ((s.stack.length : Int) - 1))).bind fun q => some q.1
 else if s.scan = true then some { s with ph := 2, scan := false }
 else if s.over = true then some { s with ph := 2, at_ := 0, over := false, again := false }
 else (pf s.marks).bind fun b => if b = true then some { s with ph := 2, at_ := 0, over := false, again := false } else some { s with ph := 3 }
def MS.scan_ (cf : List Bool → Int → Option (List Int)) (n : Nat) (room : Int) (s : MS) : Option MS :=
 if s.at_ < (n : Int) then
  (if 0 ≤ s.at_ ∧ s.at_ < (s.marks.length : Int) then
   (if rdOf false s.marks s.at_ = true then (MS.from_ cf room { s with at_ := s.at_ + 1 } s.at_).bind fun q => if q.2 = true then some { q.1 with again := true, scan := true, ph := 1 } else some q.1
    else some { s with at_ := s.at_ + 1 })
   else none)
 else if s.again = false ∧ s.over = false then some { s with ph := 3, at_ := 0, again := false, over := false }
 else some { s with at_ := 0, again := false, over := false }
def MS.unit (cf : List Bool → Int → Option (List Int)) (pf : List Bool → Option Bool) (n : Nat) (lr : List Int) (room : Int) (s : MS) : Option MS :=
 if s.ph = 0 then MS.roots lr room s else if s.ph = 1 then MS.drain cf pf room s else if s.ph = 2 then MS.scan_ cf n room s else some s
/-- What P names is as it was; nothing has gone. -/
structure Keeps (P : Nat → Prop) (w w1 : World) : Prop where
 os : w1.os = w.os
 tape : w1.tape = w.tape
 output : w1.output = w.output
 size : w.heap.size ≤ w1.heap.size
 block : ∀ k, k < w.heap.size → P k → w1.heap[k]? = w.heap[k]?
theorem Keeps.refl (P : Nat → Prop) (w : World) : Keeps P w w := ⟨rfl, rfl, rfl, Nat.le_refl _, fun _ _ _ => rfl⟩
theorem Keeps.trans {P : Nat → Prop} {w w1 w2 : World} (h : Keeps P w w1) (k : Keeps P w1 w2) : Keeps P w w2 :=
 ⟨k.os.trans h.os, k.tape.trans h.tape, k.output.trans h.output, Nat.le_trans h.size k.size, fun i hi hp => (k.block i (Nat.lt_of_lt_of_le hi h.size) hp).trans (h.block i hi hp)⟩
theorem Keeps.grown {P : Nat → Prop} {w w1 : World} {row : Option Nat} (h : w.grownBy w1 row) (hr : ∀ k, P k → some k ≠ row) : Keeps P w w1 := ⟨h.os, h.tape, h.output, h.size, fun k hk hp => h.block k hk (hr k hp)⟩
theorem Keeps.set {P : Nat → Prop} (w : World) (g j : Nat) (u : Value) (h : ¬ P g) : Keeps P w (w.setCell ⟨g, j, none⟩ u) :=
 ⟨rfl, rfl, rfl, by simp [World.setCell], fun k _ hp => Below.heap_setCell _ _ _ _ (fun e => h ((show k = g from e) ▸ hp))⟩
theorem Keeps.below {P : Nat → Prop} {w w1 : World} {B : Nat} (h : Keeps P w w1) (hP : ∀ k, k < B → P k) (hB : B ≤ w.heap.size) : Below B w w1 :=
 ⟨h.os, h.tape, h.output, h.size, fun k hk => h.block k (Nat.lt_of_lt_of_le hk hB) (hP k hk)⟩
theorem Keeps.of_below {P : Nat → Prop} {w w1 : World} (h : Below w.heap.size w w1) : Keeps P w w1 := ⟨h.os, h.tape, h.output, h.size, fun k hk _ => h.block k hk⟩
theorem Keeps.blk {P : Nat → Prop} {w w1 : World} {g : Nat} {o : Obj} (h : Keeps P w w1) (hb : w.heap[g]? = some o) (hP : P g) : w1.heap[g]? = some o := (h.block g (blk_lt hb) hP).trans hb
theorem Keeps.R {α : Type} {d : Kd α} {e base : Nat} {ok : Nat → Prop} {v : Value} {xs : List α} {P : Nat → Prop} {w w1 : World} (h : Keeps P w w1) (hr : d.R e w base ok v xs) (hP : ∀ k, ok k → P k) : d.R e w1 base ok v xs := Kd.R_step hr (fun k hk hlt => h.block k hlt (hP k hk))
/-- The cells of marking that is under way (type t, in front of them the cells 'pre'); its marks and its stack are its own. -/
structure Wk (t : Nat) (pre : List Value) (P : Nat → Prop) (w : World) (base g : Nat) (vm vs : Value) (x : MS) : Prop where
 blk : w.heap[g]? = some (.cells (pre ++ [.int .i64 x.ph, .int .i64 x.at_, vm, vs, .bool x.over, .bool x.again, .bool x.scan]).toArray t (0, 0))
 low : base ≤ g
 m : Kd.R Kd.bool 4 w base (fun k => ¬ P k) vm x.marks
 s : Kd.R (Kd.int .i64) 3 w base (fun k => ¬ P k) vs x.stack
 gP : ¬ P g
theorem Wk.gm {t : Nat} {pre : List Value} {P : Nat → Prop} {w : World} {base g : Nat} {vm vs : Value} {x : MS} (h : Wk t pre P w base g vm vs x) (ht : 4 ≠ t) : some g ≠ vm.ownBlock := Kd.R_ne h.m h.blk ht
theorem Wk.gs {t : Nat} {pre : List Value} {P : Nat → Prop} {w : World} {base g : Nat} {vm vs : Value} {x : MS} (h : Wk t pre P w base g vm vs x) (ht : 3 ≠ t) : some g ≠ vs.ownBlock := Kd.R_ne h.s h.blk ht
/-- A field has been written. -/
theorem Wk.put {t : Nat} {pre : List Value} {P : Nat → Prop} {w : World} {base g : Nat} {vm vs : Value} {x : MS} (h : Wk t pre P w base g vm vs x) (h4 : 4 ≠ t) (h3 : 3 ≠ t) (j : Nat) (u : Value) (x' : MS)
  (hm : x'.marks = x.marks) (hs : x'.stack = x.stack) (e : ((pre ++ [.int .i64 x.ph, .int .i64 x.at_, vm, vs, .bool x.over, .bool x.again, .bool x.scan]).set j u) = pre ++ [.int .i64 x'.ph, .int .i64 x'.at_, vm, vs, .bool x'.over, .bool x'.again, .bool x'.scan]) :
  Wk t pre P (w.setCell ⟨g, j, none⟩ u) base g vm vs x' :=
 ⟨blk_put h.blk j u (by rw [← e]; simp), h.low, by rw [hm]; exact Kd.R_set h.m h.blk (fun q hq => by rw [List.mem_singleton.1 hq]; exact h4) j u, by rw [hs]; exact Kd.R_set h.s h.blk (fun q hq => by rw [List.mem_singleton.1 hq]; exact h3) j u, h.gP⟩
theorem Keeps.drewN (P : Nat → Prop) (w : World) (n : Nat) : Keeps P w (w.drewN n) := ⟨rfl, rfl, rfl, Nat.le_refl _, fun _ _ _ => rfl⟩
theorem Wk.drewN {t : Nat} {pre : List Value} {P : Nat → Prop} {w : World} {base g : Nat} {vm vs : Value} {x : MS} (h : Wk t pre P w base g vm vs x) (n : Nat) : Wk t pre P (w.drewN n) base g vm vs x :=
 ⟨h.blk, h.low, Kd.R_drewN h.m _, Kd.R_drewN h.s _, h.gP⟩
theorem Keeps.drew (P : Nat → Prop) (w : World) : Keeps P w w.drew := ⟨rfl, rfl, rfl, Nat.le_refl _, fun _ _ _ => rfl⟩
theorem Wk.drew {t : Nat} {pre : List Value} {P : Nat → Prop} {w : World} {base g : Nat} {vm vs : Value} {x : MS} (h : Wk t pre P w base g vm vs x) : Wk t pre P w.drew base g vm vs x :=
 ⟨h.blk, h.low, Kd.R_drew h.m, Kd.R_drew h.s, h.gP⟩
theorem Wk.move {t : Nat} {pre : List Value} {P : Nat → Prop} {w w1 : World} {base g : Nat} {vm vs : Value} {x : MS} (h : Wk t pre P w base g vm vs x) (hb : Below w.heap.size w w1) : Wk t pre P w1 base g vm vs x :=
 ⟨blk_below h.blk hb, h.low, Kd.R_below h.m hb, Kd.R_below h.s hb, h.gP⟩
/-- A mark has been set (cell j of the marks' block). -/
theorem Wk.mark {t : Nat} {pre : List Value} {P : Nat → Prop} {w : World} {base g gm n c : Nat} {vs : Value} {x : MS} (h : Wk t pre P w base g (.slice (some ⟨gm, 0, none⟩) n c) vs x) (h4 : 4 ≠ t) (i : Int) :
  Wk t pre P (w.setCell ⟨gm, i.toNat, none⟩ (.bool true)) base g (.slice (some ⟨gm, 0, none⟩) n c) vs { x with marks := x.marks.set i.toNat true } ∧ Keeps P w (w.setCell ⟨gm, i.toNat, none⟩ (.bool true)) := by
 have hP : ¬ P gm := h.m.1 gm (by simp [Value.ownBlock])
 have hp := Kd.R_putg h.m i true
 obtain ⟨cells, hc⟩ := Kd.R_typed h.m gm (by simp [Value.ownBlock])
 have hg : gm ≠ g := fun e => by have := h.gm h4; simp [Value.ownBlock, e] at this
 exact ⟨⟨blk_far h.blk (p := ⟨gm, i.toNat, none⟩) (Ne.symm hg) _, h.low, hp.1, Kd.R_set h.s hc (fun q hq => by rw [List.mem_singleton.1 hq]; decide) _ _, h.gP⟩, Keeps.set _ _ _ _ hP⟩
/-- Something has been appended to the stack, and is stored. -/
theorem Wk.push {t : Nat} {pre : List Value} {P : Nat → Prop} {w w1 : World} {base g : Nat} {vm vs v1 : Value} {x : MS} {ys : List Int} (h : Wk t pre P w base g vm vs x) (h4 : 4 ≠ t) (h3 : 3 ≠ t) (hP : ∀ k, P k → k < w.heap.size)
  (ho : Kd.R (Kd.int .i64) 3 w1 base (fun _ => True) v1 ys) (hg : w.grownBy w1 vs.ownBlock) (hat : v1.ownBlock = vs.ownBlock ∨ ∃ b, v1.ownBlock = some b ∧ w.heap.size ≤ b) (j : Nat) (hj : j = pre.length + 3) :
  Wk t pre P (w1.setCell ⟨g, j, none⟩ v1) base g vm v1 { x with stack := ys } ∧ Keeps P w (w1.setCell ⟨g, j, none⟩ v1) := by
 have hb1 : w1.heap[g]? = some _ := blk_grown h.blk hg (h.gs h3)
 have hm1 : Kd.R Kd.bool 4 w1 base (fun k => ¬ P k) vm x.marks := Kd.R_over' h.m (Kd.R_typed h.s) (fun q hq => by rw [List.mem_singleton.1 hq]; decide) hg
 have hk : ∀ k, v1.ownBlock = some k → ¬ P k := fun k hk hp => by
  rcases hat with e | ⟨b, e, hb⟩
  ·exact h.s.1 k (e ▸ hk) hp
  ·rw [e] at hk; injection hk with hk; have := hP k hp; omega
 have hs1 : Kd.R (Kd.int .i64) 3 w1 base (fun k => ¬ P k) v1 ys := Kd.R_reok rfl ho hk
 refine ⟨⟨blk_put hb1 j v1 ?_, h.low, Kd.R_set hm1 hb1 (fun q hq => by rw [List.mem_singleton.1 hq]; exact h4) j _, Kd.R_set hs1 hb1 (fun q hq => by rw [List.mem_singleton.1 hq]; exact h3) j _, h.gP⟩, (Keeps.grown hg (fun k hp e => h.s.1 k e.symm hp)).trans (Keeps.set _ _ _ _ h.gP)⟩
 rw [hj]; simp [List.set_append]
theorem Wk.weaker {t : Nat} {pre : List Value} {P P' : Nat → Prop} {w : World} {base g : Nat} {vm vs : Value} {x : MS} (h : Wk t pre P' w base g vm vs x) (hP : ∀ k, P k → P' k) : Wk t pre P w base g vm vs x :=
 ⟨h.blk, h.low, Kd.R_mono h.m (fun k hk hp => hk (hP k hp)), Kd.R_mono h.s (fun k hk hp => hk (hP k hp)), fun hp => h.gP (hP g hp)⟩
theorem Keeps.weaker {P P' : Nat → Prop} {w w1 : World} (h : Keeps P' w w1) (hP : ∀ k, P k → P' k) : Keeps P w w1 := ⟨h.os, h.tape, h.output, h.size, fun k hk hp => h.block k hk (hP k hp)⟩
/-- One more row is kept: one that was made since. -/
theorem Wk.more {t : Nat} {pre : List Value} {P : Nat → Prop} {w w1 : World} {base g : Nat} {vm vs v : Value} {x : MS} (h : Wk t pre P w base g vm vs x) (hb : Below w.heap.size w w1) (hv : ∀ k, v.ownBlock = some k → w.heap.size ≤ k) :
  Wk t pre (fun k => P k ∨ some k = v.ownBlock) w1 base g vm vs x := by
 have hg := blk_lt h.blk
 have hm := Kd.R_lt h.m
 have hs := Kd.R_lt h.s
 refine ⟨blk_below h.blk hb, h.low, Kd.R_reok rfl (Kd.R_below h.m hb) (fun k hk hp => ?_), Kd.R_reok rfl (Kd.R_below h.s hb) (fun k hk hp => ?_), fun hp => ?_⟩
 ·rcases hp with hp | hp
  ·exact h.m.1 k hk hp
  ·have := hm k hk; have := hv k hp.symm; omega
 ·rcases hp with hp | hp
  ·exact h.s.1 k hk hp
  ·have := hs k hk; have := hv k hp.symm; omega
 ·rcases hp with hp | hp
  ·exact h.gP hp
  ·have := hv g hp.symm; omega
theorem Wk.setPh {t : Nat} {pre : List Value} {P : Nat → Prop} {w : World} {base g : Nat} {vm vs : Value} {x : MS} (h : Wk t pre P w base g vm vs x) (h4 : 4 ≠ t) (h3 : 3 ≠ t) (p : Int) (j : Nat) (hj : j = pre.length + 0) : Wk t pre P (w.setCell ⟨g, j, none⟩ (.int .i64 p)) base g vm vs { x with ph := p } :=
 h.put h4 h3 j _ _ rfl rfl (by subst hj; simp [List.set_append])
theorem Wk.setAt {t : Nat} {pre : List Value} {P : Nat → Prop} {w : World} {base g : Nat} {vm vs : Value} {x : MS} (h : Wk t pre P w base g vm vs x) (h4 : 4 ≠ t) (h3 : 3 ≠ t) (p : Int) (j : Nat) (hj : j = pre.length + 1) : Wk t pre P (w.setCell ⟨g, j, none⟩ (.int .i64 p)) base g vm vs { x with at_ := p } :=
 h.put h4 h3 j _ _ rfl rfl (by subst hj; simp [List.set_append])
theorem Wk.setOver {t : Nat} {pre : List Value} {P : Nat → Prop} {w : World} {base g : Nat} {vm vs : Value} {x : MS} (h : Wk t pre P w base g vm vs x) (h4 : 4 ≠ t) (h3 : 3 ≠ t) (p : Bool) (j : Nat) (hj : j = pre.length + 4) : Wk t pre P (w.setCell ⟨g, j, none⟩ (.bool p)) base g vm vs { x with over := p } :=
 h.put h4 h3 j _ _ rfl rfl (by subst hj; simp [List.set_append])
theorem Wk.setAgain {t : Nat} {pre : List Value} {P : Nat → Prop} {w : World} {base g : Nat} {vm vs : Value} {x : MS} (h : Wk t pre P w base g vm vs x) (h4 : 4 ≠ t) (h3 : 3 ≠ t) (p : Bool) (j : Nat) (hj : j = pre.length + 5) : Wk t pre P (w.setCell ⟨g, j, none⟩ (.bool p)) base g vm vs { x with again := p } :=
 h.put h4 h3 j _ _ rfl rfl (by subst hj; simp [List.set_append])
theorem Wk.setScan {t : Nat} {pre : List Value} {P : Nat → Prop} {w : World} {base g : Nat} {vm vs : Value} {x : MS} (h : Wk t pre P w base g vm vs x) (h4 : 4 ≠ t) (h3 : 3 ≠ t) (p : Bool) (j : Nat) (hj : j = pre.length + 6) : Wk t pre P (w.setCell ⟨g, j, none⟩ (.bool p)) base g vm vs { x with scan := p } :=
 h.put h4 h3 j _ _ rfl rfl (by subst hj; simp [List.set_append])
/-- The stack's last one is off. -/
theorem Wk.pop {t : Nat} {pre : List Value} {P : Nat → Prop} {w : World} {base g m n c : Nat} {A : Option Addr} {vm : Value} {x : MS} (h : Wk t pre P w base g vm (.slice A n c) x) (h4 : 4 ≠ t) (h3 : 3 ≠ t) (hm : m ≤ x.stack.length) (j : Nat) (hj : j = pre.length + 3) :
  Wk t pre P (w.setCell ⟨g, j, none⟩ (.slice A m c)) base g vm (.slice A m c) { x with stack := x.stack.take m } :=
 ⟨blk_put h.blk j _ (by subst hj; simp [List.set_append]), h.low, Kd.R_set h.m h.blk (fun q hq => by rw [List.mem_singleton.1 hq]; exact h4) j _, Kd.R_set (Kd.R_take h.s hm) h.blk (fun q hq => by rw [List.mem_singleton.1 hq]; exact h3) j _, h.gP⟩
def pairedL.go (lc : List S56) : List Bool → Nat → Bool
 | [], _ => false
 | b :: m, j => (b && decide ((rd_T56 lc (j : Int)).f0 = 3)) || pairedL.go lc m (j + 1)
/-- Is a pair marked. -/
def pairedL (lc : List S56) (m : List Bool) : Option Bool := if m.length ≤ lc.length then some (pairedL.go lc m 0) else none
/-! #### the methods of a walk -/
def wkPre (A0 : Option Addr) (n0 c0 : Nat) (A1 : Option Addr) (n1 c1 : Nat) (room : Int) : List Value := [.slice A0 n0 c0, .slice A1 n1 c1, .int .i64 room]
def TouchPost (t : Nat) (pre : List Value) (P : Nat → Prop) (w : World) (base g : Nat) (vm : Value) (x' : MS) (r : Bool) (e : Ending) (w1 : World) : Prop :=
 e = .returned (.bool r) ∧ ∃ vs', Wk t pre P w1 base g vm vs' x' ∧ Keeps P w w1
theorem wk_touch (A0 : Option Addr) (n0 c0 : Nat) (A1 : Option Addr) (n1 c1 : Nat) (room : Int) (P : Nat → Prop) (w : World) (base g : Nat) (vm vs : Value) (x x' : MS) (i : Int) (r : Bool)
  (hW : Wk 63 (wkPre A0 n0 c0 A1 n1 c1 room) P w base g vm vs x) (hP : ∀ k, P k → k < w.heap.size) (hb : base ≤ w.heap.size) (h : MS.touch room x i = some (x', r)) :
  Calls Try.prog 58 #[.pointer (some ⟨g, 0, none⟩), .int .i64 i] w (TouchPost 63 (wkPre A0 n0 c0 A1 n1 c1 room) P w base g vm x' r) := by
 unfold MS.touch at h
 by_cases h0 : 0 ≤ i ∧ i < (x.marks.length : Int) ∧ x.stack.length < 1000; rotate_left
 ·rw [if_neg h0] at h; cases h
 rw [if_pos h0] at h
 obtain ⟨h1, h2, h3⟩ := h0
 obtain ⟨gm, cm, rfl, hgm, _, _⟩ := Kd.R_form hW.m (by omega)
 obtain ⟨As, cs, rfl, hls, _⟩ := Kd.R_reads hW.s
 have HW := ak hW
 have HP := ak hP
 have HB := ak hb
 obtain ⟨k1, k2⟩ := Kd.R_cell false hW.m i h1 h2
 have c5 : w.cell? ⟨g, 5, none⟩ = some (.slice (some ⟨gm, 0, none⟩) x.marks.length cm) := (blk_cell hW.blk 5).trans rfl
 have c2 : w.cell? ⟨g, 2, none⟩ = some (.int .i64 room) := (blk_cell hW.blk 2).trans rfl
 have c6 : w.cell? ⟨g, 6, none⟩ = some (.slice As x.stack.length cs) := (blk_cell hW.blk 6).trans rfl
 have f6 := blk_frozen hW.blk 6
 have f7 := blk_frozen hW.blk 7
 have hml : x.marks.length ≤ 9223372036854775807 := (Kd.R_reads' hW.m).2.2.2.1
 have ne : gm ≠ g := fun e => by have := hW.gm (by decide); simp [Value.ownBlock, e] at this
 have ne' : g ≠ gm := Ne.symm ne
 clear hW hP hb
 replace h1 := eq_true h1
 replace h2 := eq_true h2
 cases hv : rdOf false x.marks i with
 | true =>
  rw [hv, if_pos rfl] at h
  cases h
  rw [hv] at k1
  clear hv
  go_enter Try.func58, Try.ntmps58
  go_wp2
  go_ret
  exact ⟨rfl, _, HW.out, Keeps.refl _ _⟩
 | false =>
  rw [hv, if_neg (by decide)] at h
  rw [hv] at k1
  clear hv
  by_cases h4 : (x.stack.length : Int) < room; rotate_left
  ·rw [if_neg h4] at h
   cases h
   have h4b : decide ((x.stack.length : Int) < room) = false := decide_eq_false h4
   clear h4
   go_enter Try.func58, Try.ntmps58
   go_wp2
   obtain ⟨hW1, hK1⟩ := HW.out.mark (by decide) i
   clear c5 c2 c6 f6 f7 k1 k2
   generalize w.setCell ⟨gm, i.toNat, none⟩ (.bool true) = w1 at hW1 hK1 ⊢
   have c2 : w1.cell? ⟨g, 2, none⟩ = some (.int .i64 room) := (blk_cell hW1.blk 2).trans rfl
   have c6 : w1.cell? ⟨g, 6, none⟩ = some (.slice As x.stack.length cs) := (blk_cell hW1.blk 6).trans rfl
   have c7 : w1.cell? ⟨g, 7, none⟩ = some (.bool x.over) := (blk_cell hW1.blk 7).trans rfl
   have f7 := blk_frozen hW1.blk 7
   have HW1 := ak hW1
   have HK1 := ak hK1
   clear hW1 hK1
   go_quiet ((fail))
   go_wp2
   go_ret
   exact ⟨rfl, _, (HW1.out.drewN _).put (by decide) (by decide) 7 _ _ rfl rfl rfl, HK1.out.trans ((Keeps.drewN _ _ _).trans (Keeps.set _ _ _ _ HW1.out.gP))⟩
  rw [if_pos h4] at h
  cases h
  have h4b : decide ((x.stack.length : Int) < room) = true := decide_eq_true h4
  clear h4
  go_enter Try.func58, Try.ntmps58
  go_wp2
  obtain ⟨hW1, hK1⟩ := HW.out.mark (by decide) i
  clear c5 c2 c6 f6 f7 k1 k2
  generalize w.setCell ⟨gm, i.toNat, none⟩ (.bool true) = w1 at hW1 hK1 ⊢
  have c2 : w1.cell? ⟨g, 2, none⟩ = some (.int .i64 room) := (blk_cell hW1.blk 2).trans rfl
  have c6 : w1.cell? ⟨g, 6, none⟩ = some (.slice As x.stack.length cs) := (blk_cell hW1.blk 6).trans rfl
  have f6 := blk_frozen hW1.blk 6
  have HW1 := ak hW1
  have HK1 := ak hK1
  clear hW1 hK1
  go_quiet ((fail))
  have hW2 := HW1.out.drewN nq
  have hK2 := HK1.out.trans (Keeps.drewN _ _ nq)
  clear c2 c6 f6 HW1 HK1
  generalize w1.drewN nq = w2 at hW2 hK2 ⊢
  have c6 : w2.cell? ⟨g, 6, none⟩ = some (.slice As x.stack.length cs) := (blk_cell hW2.blk 6).trans rfl
  have hF : ∀ k, w2.heap.size ≤ k → ¬ P k := fun k hk hp => by have h1 := HP.out k hp; have h2 := hK2.size; omega
  have HF := ak hF
  have HS := ak (Nat.le_trans HB.out hK2.size)
  have HW2 := ak hW2
  have HK2 := ak hK2
  clear hW2 hK2 hF
  go_wp2_with (first | ((with_reducible refine gate_builtin (b := .append) (xs := #[.tmp 36, .tmp 38]) rfl ?_); at_builtin; refine Kd.R_append (Kd.int .i64) (w0 := w2) base rfl (.tmp 36) (.tmp 38) 23 3 (.int .i64 0) 8 rfl Try.underlying23 int_info rfl (by decide) (by omega) (.slice As x.stack.length cs) x.stack i [.int .i64 i] (fun k => ¬ P k) (fun _ => False) rfl rfl ?aP (fun _ hk => hk.elim) ?aF ?aO ?aB ?aS ?aL ?_; (case aP => exact rfl); (case aF => exact HF.out); (case aO => exact HW2.out.s); (case aB => exact Below.refl _ _); (case aS => exact HS.out); (case aL => omega); intro v3 w3 ho hb2 hg hat; obtain ⟨A3, c3, rfl⟩ := Kd.R_slice ho; have HO := ak ho; have HG := ak hg; have HAT := ak hat; have c6b : w3.cell? ⟨g, 6, none⟩ = some (.slice As x.stack.length cs) := (blk_cell (blk_grown HW2.out.blk hg (HW2.out.gs (by decide))) 6).trans rfl; have f6b := blk_frozen (blk_grown HW2.out.blk hg (HW2.out.gs (by decide))) 6; clear ho hb2 hg hat))
  go_ret
  have hp := HW2.out.push (by decide) (by decide) (fun k hk => Nat.lt_of_lt_of_le (HP.out k hk) HK2.out.size) (Kd.R_mono HO.out (fun _ _ => trivial)) HG.out HAT.out 6 rfl
  rw [List.length_append, List.length_singleton] at hp
  exact ⟨rfl, _, hp.1, HK2.out.trans hp.2⟩
/-- Touches in a row keep what a walk is. -/
theorem wk_from (k : Nat) (A0 : Option Addr) (c0 : Nat) (lc : List S56) (A1 : Option Addr) (c1 : Nat) (lr : List Int) (room : Int) (P : Nat → Prop) (w : World) (base g : Nat) (vm vs : Value) (x x' : MS) (i : Int) (r : Bool)
  (hr0 : Kd.C k56 w A0 lc.length lc) (hc0 : lc.length ≤ c0) (hr1 : Kd.C (Kd.int .i64) w A1 lr.length lr) (hc1 : lr.length ≤ c1)
  (hW : Wk 63 (wkPre A0 lc.length c0 A1 lr.length c1 room) P w base g vm vs x) (hP : ∀ k, P k → k < w.heap.size) (hb : base ≤ w.heap.size) (h : MS.from_ (fun m j => mark_counts.f k lc lr m j) room x i = some (x', r)) :
  Calls Try.prog 59 #[.pointer (some ⟨g, 0, none⟩), .int .i64 i] w (TouchPost 63 (wkPre A0 lc.length c0 A1 lr.length c1 room) P w base g vm x' r) := by
 obtain ⟨l, hl, h⟩ := Option.bind_eq_some_iff.1 h
 obtain ⟨Am, cm, rfl, hlm, hrm⟩ := Kd.R_reads hW.m
 have hu25 := Try.underlying25
 have HC := ak (fun wd (hd : Below w.heap.size w wd) => mark_counts.calls k A0 c0 lc A1 c1 lr Am cm x.marks i l wd (Kd.C_below hr0 hd) hc0 (Kd.C_below hr1 hd) hc1 (Kd.C_below hrm hd) hlm hl)
 have d0 : w.cell? ⟨g, 0, none⟩ = some (.slice A0 lc.length c0) := (blk_cell hW.blk 0).trans rfl
 have d1 : w.cell? ⟨g, 1, none⟩ = some (.slice A1 lr.length c1) := (blk_cell hW.blk 1).trans rfl
 have d5 : w.cell? ⟨g, 5, none⟩ = some (.slice Am x.marks.length cm) := (blk_cell hW.blk 5).trans rfl
 have HW := ak hW
 have HP := ak hP
 have HB := ak hb
 have HH := ak h
 have HL := ak hl
 have HLm := ak hlm
 clear hW hP hb h hr0 hr1 hrm hl hlm hc0 hc1
 go_enter Try.func59, Try.ntmps59
 go_wp2
 go_region_held3 (fun w' => w'.cell? ⟨g, 0, none⟩ = some (.slice A0 lc.length c0) ∧ w'.cell? ⟨g, 1, none⟩ = some (.slice A1 lr.length c1) ∧ w'.cell? ⟨g, 5, none⟩ = some (.slice Am x.marks.length cm))
  (first | exact ⟨d0, d1, d5⟩ | exact ⟨e0, e1, e5⟩)
  (first | (go_at_call 45; (with_reducible refine (HC.out _ (below_drew (Below.refl _ _))).mono ?_); rintro e w2 ⟨v0, rfl, ho, hb⟩; obtain ⟨Al, cl, rfl⟩ := Kd.R_slice ho; have e0 := pw_cell_below hb (show w.drew.cell? _ = _ from d0); have e1 := pw_cell_below hb (show w.drew.cell? _ = _ from d1); have e5 := pw_cell_below hb (show w.drew.cell? _ = _ from d5); have HO := ak ho; have HB2 := ak hb; clear ho hb))
 have hb : Below w.heap.size w w2 := (below_drew (Below.refl _ _)).trans HB2.out
 have hown : ∀ k, (Value.slice Al l.length cl).ownBlock = some k → w.heap.size ≤ k := fun k hk => Kd.R_base HO.out k hk
 have hW2 := HW.out.more hb hown
 have hP2 : ∀ k, (P k ∨ some k = (Value.slice Al l.length cl).ownBlock) → k < w2.heap.size := fun k hk => by
  rcases hk with hk | hk
  ·exact Nat.lt_of_lt_of_le (HP.out k hk) hb.size
  ·exact Kd.R_lt HO.out k hk.symm
 have hl2 : Kd.R (Kd.int .i64) 3 w2 w.heap.size (fun k => some k = (Value.slice Al l.length cl).ownBlock) (.slice Al l.length cl) l := Kd.R_reok rfl HO.out (fun k hk => hk.symm)
 have HW2 := ak hW2
 have HP2 := ak hP2
 have HL2 := ak hl2
 have HBW := ak hb
 have hlen : l.length ≤ 9223372036854775807 := (Kd.R_reads' hl2).2.2.2.1
 clear hW2 hP2 hl2 hb hown d0 d1 d5 e0 e1 e5
 go_wp2
 go_loopw [5, 20] (fun v5 v20 wr => ∃ (j : Nat) (x1 : MS) (b : Bool) (vs1 : Value), j ≤ l.length ∧ v5 = .bool b ∧ v20 = .int .i64 j ∧ Aside0 (Wk 63 (wkPre A0 lc.length c0 A1 lr.length c1 room) (fun k => P k ∨ some k = (Value.slice Al l.length cl).ownBlock) wr base g (.slice Am x.marks.length cm) vs1 x1) ∧ Aside0 (Keeps (fun k => P k ∨ some k = (Value.slice Al l.length cl).ownBlock) w2 wr) ∧ Aside0 (MS.touches room (l.drop j) x1 b = some (x', r))) (fun _ v20 _ => l.length - (intOf v20).toNat)
 case atStart => exact ⟨0, x, false, vs, Nat.zero_le _, rfl, rfl, HW2, ⟨Keeps.refl _ _⟩, HH⟩
 case round =>
  obtain ⟨j, x1, b, vs1, hj, rfl, rfl, HX, HK, HT⟩ := hrel
  by_cases hlt : j < l.length; rotate_left
  ·have hj' : j = l.length := by omega
   have ht := HT.out
   rw [hj', List.drop_length] at ht
   cases ht
   have hltb : decide ((j : Int) < (l.length : Int)) = false := decide_eq_false (by omega)
   clear hj'
   go_wp2
   go_ret
   exact ⟨rfl, vs1, HX.out.weaker (fun k hk => .inl hk), (Keeps.of_below HBW.out).trans (HK.out.weaker (fun k hk => .inl hk))⟩
  have ht := HT.out
  rw [List.drop_eq_getElem_cons hlt] at ht
  obtain ⟨q, hq, ht⟩ := Option.bind_eq_some_iff.1 ht
  have hR := Kd.R_reads' (HK.out.R HL2.out (fun k hk => .inr hk))
  obtain ⟨ad, rfl, hc⟩ := Kd.at_int hR.2.2 (j : Int) (by omega) (by omega)
  rw [show rd l (j : Int) = l[j] from by simp [rd, hlt], Int.toNat_natCast] at hc
  have HX1 := ak (wk_touch A0 lc.length c0 A1 lr.length c1 room (fun k => P k ∨ some k = (Value.slice (some ad) l.length cl).ownBlock) wr base g _ vs1 x1 q.1 l[j] q.2 HX.out (fun k hk => Nat.lt_of_lt_of_le (HP2.out k hk) HK.out.size) (Nat.le_trans HB.out (Nat.le_trans HBW.out.size HK.out.size)) hq)
  have HT2 := ak ht
  have hlt' : ((j : Int) < (l.length : Int)) = True := eq_true (by omega)
  have hltb : decide ((j : Int) < (l.length : Int)) = true := decide_eq_true (by omega)
  clear ht hq hR HX HT
  obtain ⟨q1, q2⟩ := q
  cases q2 with
  | true =>
   go_wp2_with (first | (go_at_call 58; (with_reducible refine HX1.out.mono ?_); rintro e w3 ⟨rfl, vs3, h3, k3⟩; have H3 := ak h3; have K3 := ak k3; clear h3 k3))
   go_roundw
   case rel => exact ⟨j + 1, q1, true, vs3, by omega, rfl, by go_num, H3, ⟨HK.out.trans K3.out⟩, ⟨by have := HT2.out; simpa using this⟩⟩
   case measure => simp [intOf]; omega
  | false =>
   go_wp2_with (first | (go_at_call 58; (with_reducible refine HX1.out.mono ?_); rintro e w3 ⟨rfl, vs3, h3, k3⟩; have H3 := ak h3; have K3 := ak k3; clear h3 k3))
   go_roundw
   case rel => exact ⟨j + 1, q1, b, vs3, by omega, rfl, by go_num, H3, ⟨HK.out.trans K3.out⟩, ⟨by have := HT2.out; simpa using this⟩⟩
   case measure => simp [intOf]; omega
theorem wk_paired (A0 : Option Addr) (c0 : Nat) (lc : List S56) (A1 : Option Addr) (n1 c1 : Nat) (room : Int) (P : Nat → Prop) (w : World) (base g : Nat) (vm vs : Value) (x : MS) (r : Bool)
  (hr0 : Kd.C k56 w A0 lc.length lc) (hW : Wk 63 (wkPre A0 lc.length c0 A1 n1 c1 room) P w base g vm vs x) (h : pairedL lc x.marks = some r) :
  Calls Try.prog 60 #[.pointer (some ⟨g, 0, none⟩)] w fun e w1 => e = .returned (.bool r) ∧ w1 = w := by
 unfold pairedL at h
 by_cases hle : x.marks.length ≤ lc.length; rotate_left
 ·rw [if_neg hle] at h; cases h
 rw [if_pos hle] at h
 have h := Option.some.inj h
 obtain ⟨Am, cm, rfl, hlm, hrm⟩ := Kd.R_reads hW.m
 have hu25 := Try.underlying25
 have d0 : w.cell? ⟨g, 0, none⟩ = some (.slice A0 lc.length c0) := (blk_cell hW.blk 0).trans rfl
 have d5 : w.cell? ⟨g, 5, none⟩ = some (.slice Am x.marks.length cm) := (blk_cell hW.blk 5).trans rfl
 have HR0 := ak hr0
 have HRM := ak hrm
 have HLE := ak hle
 have HH := ak h
 have hml : x.marks.length ≤ 9223372036854775807 := hrm.2.1
 clear hr0 hrm hle h hW hlm
 go_enter Try.func60, Try.ntmps60
 go_wp2
 go_loopw [11] (fun v11 wr => ∃ j : Nat, j ≤ x.marks.length ∧ v11 = .int .i64 j ∧ Aside0 (pairedL.go lc (x.marks.drop j) j = r) ∧ w = wr) (fun v11 _ => x.marks.length - (intOf v11).toNat)
 case atStart => exact ⟨0, Nat.zero_le _, rfl, HH, rfl⟩
 case round =>
  obtain ⟨j, hj, rfl, HG, rfl⟩ := hrel
  by_cases hlt : j < x.marks.length; rotate_left
  ·have hj' : j = x.marks.length := by omega
   have hg := HG.out
   rw [hj', List.drop_length] at hg
   have hr : r = false := hg.symm
   have hltb : decide ((j : Int) < (x.marks.length : Int)) = false := decide_eq_false (by omega)
   clear hg hj' HG HH
   subst hr
   go_wp2
   go_ret
   exact ⟨rfl, rfl⟩
  have hg := HG.out
  rw [List.drop_eq_getElem_cons hlt] at hg
  unfold pairedL.go at hg
  obtain ⟨ad, rfl, hc⟩ := Kd.at_bool HRM.out (j : Int) (by omega) (by omega)
  obtain ⟨ae, A2, c2, rfl, hk, -⟩ := at_T56 HR0.out (j : Int) (by omega) (by have := HLE.out; omega)
  rw [show rdOf false x.marks (j : Int) = x.marks[j] from by simp [rdOf, hlt], Int.toNat_natCast] at hc
  rw [Int.toNat_natCast] at hk
  have hlt1 : ((j : Int) < (x.marks.length : Int)) = True := eq_true (by omega)
  have hlt2 : ((j : Int) < (lc.length : Int)) = True := eq_true (by have := HLE.out; omega)
  have hltb : decide ((j : Int) < (x.marks.length : Int)) = true := decide_eq_true (by omega)
  cases hb : x.marks[j] with
  | true =>
   rw [hb] at hc hg
   by_cases h3 : (rd_T56 lc (j : Int)).f0 = 3; rotate_left
   ·have h3b : ((rd_T56 lc (j : Int)).f0 == 3) = false := beq_eq_false_iff_ne.2 h3
    rw [decide_eq_false h3] at hg
    have HG2 : Aside0 (pairedL.go lc (x.marks.drop (j + 1)) (j + 1) = r) := ⟨by simpa using hg⟩
    clear hg h3 hb HG
    go_wp2
    go_roundw
    case rel => exact ⟨j + 1, by omega, by go_num, HG2, by first | rfl | trivial⟩
    case measure => simp [intOf]; omega
   have h3b : ((rd_T56 lc (j : Int)).f0 == 3) = true := beq_iff_eq.2 h3
   rw [decide_eq_true h3] at hg
   have hr : r = true := hg.symm
   clear hg h3 hb HG HH
   subst hr
   go_wp2
   go_ret
   exact ⟨rfl, rfl⟩
  | false =>
   rw [hb] at hc hg
   have HG2 : Aside0 (pairedL.go lc (x.marks.drop (j + 1)) (j + 1) = r) := ⟨by simpa using hg⟩
   clear hg hb HG
   go_wp2
   go_roundw
   case rel => exact ⟨j + 1, by omega, by go_num, HG2, by first | rfl | trivial⟩
   case measure => simp [intOf]; omega
def UnitPost (t : Nat) (pre : List Value) (P : Nat → Prop) (w : World) (base g : Nat) (x' : MS) (e : Ending) (w1 : World) : Prop :=
 (∃ v, e = .returned v) ∧ ∃ vm' vs', Wk t pre P w1 base g vm' vs' x' ∧ Keeps P w w1
theorem touch_at {room : Int} {x : MS} {i : Int} {q : MS × Bool} (hq : MS.touch room x i = some q) : q.1.at_ = x.at_ ∧ q.1.ph = x.ph := by
 unfold MS.touch at hq
 split at hq
 ·split at hq
  ·cases hq; exact ⟨rfl, rfl⟩
  ·split at hq <;> (cases hq; exact ⟨rfl, rfl⟩)
 ·cases hq
theorem wk_roots (w0 : World) (A0 : Option Addr) (n0 c0 : Nat) (A1 : Option Addr) (c1 : Nat) (lr : List Int) (room : Int) (P : Nat → Prop) (w : World) (base g : Nat) (vm vs : Value) (x x' : MS)
  (hr1 : Kd.C (Kd.int .i64) w0 A1 lr.length lr) (hB0 : Below w0.heap.size w0 w) (hPB : ∀ k, k < w0.heap.size → P k)
  (hW : Wk 63 (wkPre A0 n0 c0 A1 lr.length c1 room) P w base g vm vs x) (hP : ∀ k, P k → k < w.heap.size) (hb : base ≤ w.heap.size) (h : MS.roots lr room x = some x') :
  Calls Try.prog 53 #[.pointer (some ⟨g, 0, none⟩)] w (UnitPost 63 (wkPre A0 n0 c0 A1 lr.length c1 room) P w base g x') := by
 unfold MS.roots at h
 have hu25 := Try.underlying25
 have d1 : w.cell? ⟨g, 1, none⟩ = some (.slice A1 lr.length c1) := (blk_cell hW.blk 1).trans rfl
 have d4 : w.cell? ⟨g, 4, none⟩ = some (.int .i64 x.at_) := (blk_cell hW.blk 4).trans rfl
 have hll : lr.length ≤ 9223372036854775807 := hr1.2.1
 have HW := ak hW
 have HP := ak hP
 have HB := ak hb
 have HR1 := ak hr1
 have HB0 := ak hB0
 have HPB := ak hPB
 by_cases h0 : x.at_ = (lr.length : Int)
 ·rw [if_pos h0] at h
  cases h
  have h0b : (x.at_ == (lr.length : Int)) = true := beq_iff_eq.2 h0
  have d3 : w.cell? ⟨g, 3, none⟩ = some (.int .i64 x.ph) := (blk_cell hW.blk 3).trans rfl
  have f3 := blk_frozen hW.blk 3
  have f4 := blk_frozen hW.blk 4
  clear h0 hW hP hb hr1 hB0 hPB
  go_enter Try.func53, Try.ntmps53
  go_wp2
  go_quiet ((fail))
  go_wp2
  ((try simp only [Exit.inBlock, Exit.then]); refine bodyPost_ret (results_none rfl _ _ _) rfl ?_)
  exact ⟨⟨_, rfl⟩, _, _, ((HW.out.drewN nq).setPh (by decide) (by decide) 1 3 rfl).setAt (by decide) (by decide) 0 4 rfl, ((Keeps.drewN _ _ _).trans (Keeps.set _ _ _ _ HW.out.gP)).trans (Keeps.set _ _ _ _ HW.out.gP)⟩
 rw [if_neg h0] at h
 have h0b : (x.at_ == (lr.length : Int)) = false := beq_eq_false_iff_ne.2 h0
 by_cases h1 : 0 ≤ x.at_ ∧ x.at_ < (lr.length : Int); rotate_left
 ·rw [if_neg h1] at h; cases h
 rw [if_pos h1] at h
 obtain ⟨⟨q1, q2⟩, hq, h⟩ := Option.bind_eq_some_iff.1 h
 cases h
 obtain ⟨h1, h2⟩ := h1
 obtain ⟨ad, rfl, hc0⟩ := Kd.at_int hr1 x.at_ h1 h2
 have hc := pw_cell_below hB0 hc0
 have HC0 := ak hc0
 have HT := ak (fun (wd : World) (hd : Keeps (fun _ => True) w wd) (hw : Wk 63 (wkPre A0 n0 c0 (some ad) lr.length c1 room) P wd base g vm vs x) => wk_touch A0 n0 c0 (some ad) lr.length c1 room P wd base g vm vs x q1 (rd lr x.at_) q2 hw (fun k hk => Nat.lt_of_lt_of_le (HP.out k hk) hd.size) (Nat.le_trans HB.out hd.size) hq)
 have HA := ak (touch_at hq).1
 have hat : x.at_ ≤ 9223372036854775806 := by omega
 clear hq h0 hW hP hb hr1 hB0 hPB hc0
 have h1' := eq_true h1
 have h2' := eq_true h2
 go_enter Try.func53, Try.ntmps53
 go_wp2
 go_quiet ((fail))
 have dn1 : (w.drewN nq).cell? ⟨g, 1, none⟩ = some (.slice (some ad) lr.length c1) := d1
 have dn4 : (w.drewN nq).cell? ⟨g, 4, none⟩ = some (.int .i64 x.at_) := d4
 have dnc : (w.drewN nq).cell? (ad.add x.at_.toNat) = some (.int .i64 (rd lr x.at_)) := hc
 have HWn := ak (HW.out.drewN nq)
 have HKn := ak (Keeps.drewN (fun _ => True) w nq)
 have HBn := ak (pw_below_drewN HB0.out nq)
 clear d1 d4 hc
 generalize w.drewN nq = w1 at dn1 dn4 dnc HWn HKn HBn ⊢
 go_wp2
 go_region_held3 (fun w' => w'.cell? ⟨g, 1, none⟩ = some (.slice (some ad) lr.length c1) ∧ w'.cell? ⟨g, 4, none⟩ = some (.int .i64 x.at_) ∧ w'.cell? (ad.add x.at_.toNat) = some (.int .i64 (rd lr x.at_)))
  (first | exact ⟨dn1, dn4, dnc⟩ | exact ⟨e1, e4, ec⟩)
  (first | (go_at_call 58; (with_reducible refine (HT.out _ (HKn.out.trans (Keeps.drew _ _)) HWn.out.drew).mono ?_); rintro e w3 ⟨rfl, vs3, h3, k3⟩; have e1 : w3.cell? ⟨g, 1, none⟩ = some (.slice (some ad) lr.length c1) := (blk_cell h3.blk 1).trans rfl; have e4 : w3.cell? ⟨g, 4, none⟩ = some (.int .i64 x.at_) := (blk_cell h3.blk 4).trans (by rw [← HA.out]; rfl); have ec : w3.cell? (ad.add x.at_.toNat) = some (.int .i64 (rd lr x.at_)) := pw_cell_below ((below_drew HBn.out).trans ((k3.below HPB.out HBn.out.size))) HC0.out; have H3 := ak h3; have K3 := ak k3; clear h3 k3))
 have f4 := blk_frozen H3.out.blk 4
 clear dn1 dn4 dnc e1 ec
 go_wp2
 go_end0
 rw [HA.out]
 exact ⟨⟨_, rfl⟩, _, _, H3.out.setAt (by decide) (by decide) (x.at_ + 1) 4 rfl, (HKn.out.weaker (fun _ _ => trivial)).trans (((Keeps.drew _ _).trans K3.out).trans (Keeps.set _ _ _ _ H3.out.gP))⟩
theorem wk_drain (k : Nat) (w0 : World) (A0 : Option Addr) (c0 : Nat) (lc : List S56) (A1 : Option Addr) (c1 : Nat) (lr : List Int) (room : Int) (P : Nat → Prop) (w : World) (base g : Nat) (vm vs : Value) (x x' : MS)
  (hr0 : Kd.C k56 w A0 lc.length lc) (hc0 : lc.length ≤ c0) (hr1 : Kd.C (Kd.int .i64) w A1 lr.length lr) (hc1 : lr.length ≤ c1)
  (hro : ∀ wd, Keeps P w wd → Kd.C k56 wd A0 lc.length lc ∧ Kd.C (Kd.int .i64) wd A1 lr.length lr)
  (hW : Wk 63 (wkPre A0 lc.length c0 A1 lr.length c1 room) P w base g vm vs x) (hP : ∀ k, P k → k < w.heap.size) (hb : base ≤ w.heap.size)
  (h : MS.drain (fun m j => mark_counts.f k lc lr m j) (fun m => pairedL lc m) room x = some x') :
  Calls Try.prog 54 #[.pointer (some ⟨g, 0, none⟩)] w (UnitPost 63 (wkPre A0 lc.length c0 A1 lr.length c1 room) P w base g x') := by
 unfold MS.drain at h
 obtain ⟨As, cs, rfl, hls, hrs⟩ := Kd.R_reads hW.s
 have hu25 := Try.underlying25
 have d3 : w.cell? ⟨g, 3, none⟩ = some (.int .i64 x.ph) := (blk_cell hW.blk 3).trans rfl
 have d4 : w.cell? ⟨g, 4, none⟩ = some (.int .i64 x.at_) := (blk_cell hW.blk 4).trans rfl
 have d6 : w.cell? ⟨g, 6, none⟩ = some (.slice As x.stack.length cs) := (blk_cell hW.blk 6).trans rfl
 have d7 : w.cell? ⟨g, 7, none⟩ = some (.bool x.over) := (blk_cell hW.blk 7).trans rfl
 have d8 : w.cell? ⟨g, 8, none⟩ = some (.bool x.again) := (blk_cell hW.blk 8).trans rfl
 have d9 : w.cell? ⟨g, 9, none⟩ = some (.bool x.scan) := (blk_cell hW.blk 9).trans rfl
 have f3 := blk_frozen hW.blk 3
 have f4 := blk_frozen hW.blk 4
 have f6 := blk_frozen hW.blk 6
 have f7 := blk_frozen hW.blk 7
 have f8 := blk_frozen hW.blk 8
 have f9 := blk_frozen hW.blk 9
 have HW := ak hW
 have HP := ak hP
 have HB := ak hb
 have HRO := ak hro
 by_cases h0 : 0 < x.stack.length
 ·rw [if_pos h0] at h
  obtain ⟨q, hq, h⟩ := Option.bind_eq_some_iff.1 h
  cases h
  obtain ⟨m, hm⟩ : ∃ m, x.stack.length = m + 1 := ⟨x.stack.length - 1, by omega⟩
  obtain ⟨ad, rfl, hc⟩ := Kd.at_int hrs (m : Int) (by omega) (by omega)
  obtain ⟨i03, hi03, -⟩ := info_parts int_info
  have hcut := cut_to (P := Try.prog) 23 3 .i64 Try.underlying23 hi03 (some ad) (m + 1) cs (m : Int) (by omega) (by omega) (by omega)
  rw [Int.toNat_natCast] at hc hcut
  rw [hm] at d6 hq
  rw [show m + 1 - 1 = m from rfl, show (((m + 1 : Nat) : Int) - 1) = (m : Int) from by omega] at hq
  have hW1 := (hm ▸ HW.out).pop (m := m) (by decide) (by decide) (by omega) 6 rfl
  have HW1 := ak hW1
  have HK1 := ak (Keeps.set (P := P) w g 6 (.slice (some ad) m cs) HW.out.gP)
  have HF := ak (wk_from k A0 c0 lc A1 c1 lr room P _ base g vm _ _ q.1 (rd x.stack (m : Int)) q.2 (HRO.out _ HK1.out).1 hc0 (HRO.out _ HK1.out).2 hc1 HW1.out (fun k hk => Nat.lt_of_lt_of_le (HP.out k hk) HK1.out.size) (Nat.le_trans HB.out HK1.out.size) hq)
  have hmm : m ≤ 9223372036854775806 := by have := hrs.2.1; omega
  clear hq hW hP hb hro hr0 hr1 hrs hm hls hc0 hc1 hi03 h0 hW1
  go_enter Try.func54, Try.ntmps54
  go_wp2_with (first | (go_at_call 59; (with_reducible refine HF.out.mono ?_); rintro e w3 ⟨rfl, vs3, h3, k3⟩; have H3 := ak h3; have K3 := ak k3; clear h3 k3))
  go_end0
  exact ⟨⟨_, rfl⟩, _, vs3, H3.out, HK1.out.trans K3.out⟩
 rw [if_neg h0] at h
 have h00 : x.stack.length = 0 := by omega
 rw [h00] at d6
 clear hW hP hb hro hr1 hrs hls hc0 hc1 h0 h00
 by_cases h1 : x.scan = true
 ·rw [if_pos h1] at h
  cases h
  rw [h1] at d9
  clear h1 hr0
  go_enter Try.func54, Try.ntmps54
  go_wp2
  go_end0
  exact ⟨⟨_, rfl⟩, _, _, (HW.out.setPh (by decide) (by decide) 2 3 rfl).setScan (by decide) (by decide) false 9 rfl, (Keeps.set _ _ _ _ HW.out.gP).trans (Keeps.set _ _ _ _ HW.out.gP)⟩
 rw [if_neg h1] at h
 rw [Bool.eq_false_iff.2 h1] at d9
 clear h1
 by_cases h2 : x.over = true
 ·rw [if_pos h2] at h
  cases h
  rw [h2] at d7
  clear h2 hr0
  go_enter Try.func54, Try.ntmps54
  go_wp2
  go_end0
  exact ⟨⟨_, rfl⟩, _, _, (((HW.out.setPh (by decide) (by decide) 2 3 rfl).setAt (by decide) (by decide) 0 4 rfl).setOver (by decide) (by decide) false 7 rfl).setAgain (by decide) (by decide) false 8 rfl, (((Keeps.set _ _ _ _ HW.out.gP).trans (Keeps.set _ _ _ _ HW.out.gP)).trans (Keeps.set _ _ _ _ HW.out.gP)).trans (Keeps.set _ _ _ _ HW.out.gP)⟩
 rw [if_neg h2] at h
 rw [Bool.eq_false_iff.2 h2] at d7
 clear h2
 obtain ⟨b, hpb, h⟩ := Option.bind_eq_some_iff.1 h
 have HQ := ak (wk_paired A0 c0 lc A1 lr.length c1 room P w base g vm _ x b hr0 HW.out hpb)
 clear hr0 hpb
 cases b with
 | true =>
  rw [if_pos rfl] at h
  cases h
  go_enter Try.func54, Try.ntmps54
  go_wp2_with (first | (go_at_call 60; (with_reducible refine HQ.out.mono ?_); rintro e w3 ⟨rfl, rfl⟩))
  go_end0
  exact ⟨⟨_, rfl⟩, _, _, (((HW.out.setPh (by decide) (by decide) 2 3 rfl).setAt (by decide) (by decide) 0 4 rfl).setOver (by decide) (by decide) false 7 rfl).setAgain (by decide) (by decide) false 8 rfl, (((Keeps.set _ _ _ _ HW.out.gP).trans (Keeps.set _ _ _ _ HW.out.gP)).trans (Keeps.set _ _ _ _ HW.out.gP)).trans (Keeps.set _ _ _ _ HW.out.gP)⟩
 | false =>
  rw [if_neg (by decide)] at h
  cases h
  go_enter Try.func54, Try.ntmps54
  go_wp2_with (first | (go_at_call 60; (with_reducible refine HQ.out.mono ?_); rintro e w3 ⟨rfl, rfl⟩))
  go_end0
  exact ⟨⟨_, rfl⟩, _, _, HW.out.setPh (by decide) (by decide) 3 3 rfl, Keeps.set _ _ _ _ HW.out.gP⟩
theorem touches_at {room : Int} : ∀ {l : List Int} {x : MS} {b : Bool} {q : MS × Bool}, MS.touches room l x b = some q → q.1.at_ = x.at_ ∧ q.1.ph = x.ph
 | [], x, b, q, h => by cases h; exact ⟨rfl, rfl⟩
 | p :: l, x, b, q, h => by
  obtain ⟨q1, h1, h2⟩ := Option.bind_eq_some_iff.1 h
  have e1 := touch_at h1
  have e2 := touches_at h2
  exact ⟨e2.1.trans e1.1, e2.2.trans e1.2⟩
theorem wk_scan (k : Nat) (A0 : Option Addr) (c0 : Nat) (lc : List S56) (A1 : Option Addr) (c1 : Nat) (lr : List Int) (room : Int) (P : Nat → Prop) (w : World) (base g : Nat) (vm vs : Value) (x x' : MS)
  (hr0 : Kd.C k56 w A0 lc.length lc) (hc0 : lc.length ≤ c0) (hr1 : Kd.C (Kd.int .i64) w A1 lr.length lr) (hc1 : lr.length ≤ c1)
  (hro : ∀ wd, Keeps P w wd → Kd.C k56 wd A0 lc.length lc ∧ Kd.C (Kd.int .i64) wd A1 lr.length lr)
  (hW : Wk 63 (wkPre A0 lc.length c0 A1 lr.length c1 room) P w base g vm vs x) (hP : ∀ k, P k → k < w.heap.size) (hb : base ≤ w.heap.size)
  (h : MS.scan_ (fun m j => mark_counts.f k lc lr m j) lc.length room x = some x') :
  Calls Try.prog 55 #[.pointer (some ⟨g, 0, none⟩)] w (UnitPost 63 (wkPre A0 lc.length c0 A1 lr.length c1 room) P w base g x') := by
 unfold MS.scan_ at h
 obtain ⟨Am, cm, rfl, hlm, hrm⟩ := Kd.R_reads hW.m
 have hu25 := Try.underlying25
 have d0 : w.cell? ⟨g, 0, none⟩ = some (.slice A0 lc.length c0) := (blk_cell hW.blk 0).trans rfl
 have d3 : w.cell? ⟨g, 3, none⟩ = some (.int .i64 x.ph) := (blk_cell hW.blk 3).trans rfl
 have d4 : w.cell? ⟨g, 4, none⟩ = some (.int .i64 x.at_) := (blk_cell hW.blk 4).trans rfl
 have d5 : w.cell? ⟨g, 5, none⟩ = some (.slice Am x.marks.length cm) := (blk_cell hW.blk 5).trans rfl
 have d7 : w.cell? ⟨g, 7, none⟩ = some (.bool x.over) := (blk_cell hW.blk 7).trans rfl
 have d8 : w.cell? ⟨g, 8, none⟩ = some (.bool x.again) := (blk_cell hW.blk 8).trans rfl
 have d9 : w.cell? ⟨g, 9, none⟩ = some (.bool x.scan) := (blk_cell hW.blk 9).trans rfl
 have f3 := blk_frozen hW.blk 3
 have f4 := blk_frozen hW.blk 4
 have f7 := blk_frozen hW.blk 7
 have f8 := blk_frozen hW.blk 8
 have f9 := blk_frozen hW.blk 9
 have hml : x.marks.length ≤ 9223372036854775807 := hrm.2.1
 have hll : lc.length ≤ 9223372036854775807 := hr0.2.1
 have HW := ak hW
 have HP := ak hP
 have HB := ak hb
 have HRO := ak hro
 by_cases h0 : x.at_ < (lc.length : Int); rotate_left
 ·rw [if_neg h0] at h
  have h0b : decide (x.at_ < (lc.length : Int)) = false := decide_eq_false h0
  clear hW hP hb hro hr0 hr1 hrm hlm hc0 hc1 h0
  by_cases h1 : x.again = false ∧ x.over = false
  ·rw [if_pos h1] at h
   cases h
   rw [h1.1] at d8
   rw [h1.2] at d7
   clear h1
   go_enter Try.func55, Try.ntmps55
   go_wp2
   go_end0
   exact ⟨⟨_, rfl⟩, _, _, (((HW.out.setPh (by decide) (by decide) 3 3 rfl).setAt (by decide) (by decide) 0 4 rfl).setAgain (by decide) (by decide) false 8 rfl).setOver (by decide) (by decide) false 7 rfl, (((Keeps.set _ _ _ _ HW.out.gP).trans (Keeps.set _ _ _ _ HW.out.gP)).trans (Keeps.set _ _ _ _ HW.out.gP)).trans (Keeps.set _ _ _ _ HW.out.gP)⟩
  rw [if_neg h1] at h
  cases h
  have HE := ak (((HW.out.setAt (by decide) (by decide) 0 4 rfl).setAgain (by decide) (by decide) false 8 rfl).setOver (by decide) (by decide) false 7 rfl)
  have HKE := ak (((Keeps.set (P := P) w g 4 (.int .i64 0) HW.out.gP).trans (Keeps.set _ g 8 (.bool false) HW.out.gP)).trans (Keeps.set _ g 7 (.bool false) HW.out.gP))
  cases ha : x.again with
  | true =>
   rw [ha] at d8
   clear ha h1
   go_enter Try.func55, Try.ntmps55
   go_wp2
   go_end0
   exact ⟨⟨_, rfl⟩, _, _, HE.out, HKE.out⟩
  | false =>
   have ho : x.over = true := by cases ho : x.over with | true => rfl | false => exact absurd ⟨ha, ho⟩ h1
   rw [ha] at d8
   rw [ho] at d7
   clear ha ho h1
   go_enter Try.func55, Try.ntmps55
   go_wp2
   go_end0
   exact ⟨⟨_, rfl⟩, _, _, HE.out, HKE.out⟩
 rw [if_pos h0] at h
 have h0b : decide (x.at_ < (lc.length : Int)) = true := decide_eq_true h0
 by_cases h1 : 0 ≤ x.at_ ∧ x.at_ < (x.marks.length : Int); rotate_left
 ·rw [if_neg h1] at h; cases h
 rw [if_pos h1] at h
 obtain ⟨h1, h2⟩ := h1
 obtain ⟨ad, rfl, hc⟩ := Kd.at_bool hrm x.at_ h1 h2
 have hat : x.at_ ≤ 9223372036854775806 := by omega
 have h1' := eq_true h1
 have h2' := eq_true h2
 have ne : (ad.add x.at_.toNat).block ≠ g := by
  rw [add_block]
  have := hW.gm (by decide)
  intro e
  exact this (by simp [Value.ownBlock, e])
 cases hv : rdOf false x.marks x.at_ with
 | true =>
  rw [hv, if_pos rfl] at h
  rw [hv] at hc
  obtain ⟨⟨q1, q2⟩, hq, h⟩ := Option.bind_eq_some_iff.1 h
  have HW1 := ak (HW.out.setAt (by decide) (by decide) (x.at_ + 1) 4 rfl)
  have HK1 := ak (Keeps.set (P := P) w g 4 (.int .i64 (x.at_ + 1)) HW.out.gP)
  have HF := ak (wk_from k A0 c0 lc A1 c1 lr room P _ base g _ vs _ q1 x.at_ q2 (HRO.out _ HK1.out).1 hc0 (HRO.out _ HK1.out).2 hc1 HW1.out (fun k hk => Nat.lt_of_lt_of_le (HP.out k hk) HK1.out.size) (Nat.le_trans HB.out HK1.out.size) hq)
  have hc' : (w.setCell ⟨g, 4, none⟩ (.int .i64 (x.at_ + 1))).cell? (ad.add x.at_.toNat) = some (.bool true) := (cell_far (p := ⟨g, 4, none⟩) ne _).trans hc
  clear hq hW hP hb hro hr0 hr1 hrm hlm hc0 hc1 h0 hv ne
  cases q2 with
  | true =>
   rw [if_pos rfl] at h
   cases h
   go_enter Try.func55, Try.ntmps55
   go_wp2_with (first | (go_at_call 59; (with_reducible refine HF.out.mono ?_); rintro e w3 ⟨rfl, vs3, h3, k3⟩; have H3 := ak h3; have K3 := ak k3; have e8 : w3.cell? ⟨g, 8, none⟩ = some (.bool q1.again) := (blk_cell h3.blk 8).trans rfl; have e9 : w3.cell? ⟨g, 9, none⟩ = some (.bool q1.scan) := (blk_cell h3.blk 9).trans rfl; have e3 : w3.cell? ⟨g, 3, none⟩ = some (.int .i64 q1.ph) := (blk_cell h3.blk 3).trans rfl; have g3 := blk_frozen h3.blk 3; have g8 := blk_frozen h3.blk 8; have g9 := blk_frozen h3.blk 9; clear h3 k3))
   ((try simp only [Exit.inBlock, Exit.then]); refine bodyPost_ret (results_none rfl _ _ _) rfl ?_)
   exact ⟨⟨_, rfl⟩, _, vs3, (((H3.out.setAgain (by decide) (by decide) true 8 rfl).setScan (by decide) (by decide) true 9 rfl).setPh (by decide) (by decide) 1 3 rfl), (((HK1.out.trans K3.out).trans (Keeps.set _ _ _ _ H3.out.gP)).trans (Keeps.set _ _ _ _ H3.out.gP)).trans (Keeps.set _ _ _ _ H3.out.gP)⟩
  | false =>
   rw [if_neg (show ¬ ((q1, false).2 = true) from Bool.false_ne_true)] at h
   cases h
   go_enter Try.func55, Try.ntmps55
   go_wp2_with (first | (go_at_call 59; (with_reducible refine HF.out.mono ?_); rintro e w3 ⟨rfl, vs3, h3, k3⟩; have H3 := ak h3; have K3 := ak k3; clear h3 k3))
   ((try simp only [Exit.inBlock, Exit.then]); refine bodyPost_ret (results_none rfl _ _ _) rfl ?_)
   exact ⟨⟨_, rfl⟩, _, vs3, H3.out, HK1.out.trans K3.out⟩
 | false =>
  rw [hv, if_neg (by decide)] at h
  cases h
  rw [hv] at hc
  have hc' : (w.setCell ⟨g, 4, none⟩ (.int .i64 (x.at_ + 1))).cell? (ad.add x.at_.toNat) = some (.bool false) := (cell_far (p := ⟨g, 4, none⟩) ne _).trans hc
  clear hW hP hb hro hr0 hr1 hrm hlm hc0 hc1 h0 hv ne
  go_enter Try.func55, Try.ntmps55
  go_wp2
  ((try simp only [Exit.inBlock, Exit.then]); refine bodyPost_ret (results_none rfl _ _ _) rfl ?_)
  exact ⟨⟨_, rfl⟩, _, _, HW.out.setAt (by decide) (by decide) (x.at_ + 1) 4 rfl, Keeps.set _ _ _ _ HW.out.gP⟩
theorem wk_unit (k : Nat) (w0 : World) (A0 : Option Addr) (c0 : Nat) (lc : List S56) (A1 : Option Addr) (c1 : Nat) (lr : List Int) (room : Int) (P : Nat → Prop) (w : World) (base g : Nat) (vm vs : Value) (x x' : MS)
  (hr0 : Kd.C k56 w0 A0 lc.length lc) (hc0 : lc.length ≤ c0) (hr1 : Kd.C (Kd.int .i64) w0 A1 lr.length lr) (hc1 : lr.length ≤ c1) (hB0 : Below w0.heap.size w0 w) (hPB : ∀ k, k < w0.heap.size → P k)
  (hW : Wk 63 (wkPre A0 lc.length c0 A1 lr.length c1 room) P w base g vm vs x) (hP : ∀ k, P k → k < w.heap.size) (hb : base ≤ w.heap.size)
  (h : MS.unit (fun m j => mark_counts.f k lc lr m j) (fun m => pairedL lc m) lc.length lr room x = some x') :
  Calls Try.prog 37 #[.pointer (some ⟨g, 0, none⟩)] w (UnitPost 63 (wkPre A0 lc.length c0 A1 lr.length c1 room) P w base g x') := by
 have hro : ∀ wd, Keeps P w wd → Kd.C k56 wd A0 lc.length lc ∧ Kd.C (Kd.int .i64) wd A1 lr.length lr := fun wd hk => ⟨Kd.C_below hr0 (hB0.trans (hk.below hPB hB0.size)), Kd.C_below hr1 (hB0.trans (hk.below hPB hB0.size))⟩
 have hrw := hro w (Keeps.refl _ _)
 unfold MS.unit at h
 have d3 : w.cell? ⟨g, 3, none⟩ = some (.int .i64 x.ph) := (blk_cell hW.blk 3).trans rfl
 by_cases h0 : x.ph = 0
 ·rw [if_pos h0] at h
  have HX := ak (wk_roots w0 A0 lc.length c0 A1 c1 lr room P w base g vm vs x x' hr1 hB0 hPB hW hP hb h)
  have h0b : (x.ph == 0) = true := beq_iff_eq.2 h0
  clear hro hrw hr0 hr1 hB0 hPB hW hP hb h h0
  go_enter Try.func37, Try.ntmps37
  go_wp2_with (first | (go_at_call 53; (with_reducible refine HX.out.mono ?_); rintro e w3 ⟨⟨v, rfl⟩, hx⟩; have H3 := ak hx; clear hx))
  go_end0
  exact ⟨⟨_, rfl⟩, H3.out⟩
 rw [if_neg h0] at h
 have h0b : (x.ph == 0) = false := beq_eq_false_iff_ne.2 h0
 by_cases h1 : x.ph = 1
 ·rw [if_pos h1] at h
  have HX := ak (wk_drain k w0 A0 c0 lc A1 c1 lr room P w base g vm vs x x' hrw.1 hc0 hrw.2 hc1 hro hW hP hb h)
  have h1b : (x.ph == 1) = true := beq_iff_eq.2 h1
  clear hro hrw hr0 hr1 hB0 hPB hW hP hb h h0 h1
  go_enter Try.func37, Try.ntmps37
  go_wp2_with (first | (go_at_call 54; (with_reducible refine HX.out.mono ?_); rintro e w3 ⟨⟨v, rfl⟩, hx⟩; have H3 := ak hx; clear hx))
  go_end0
  exact ⟨⟨_, rfl⟩, H3.out⟩
 rw [if_neg h1] at h
 have h1b : (x.ph == 1) = false := beq_eq_false_iff_ne.2 h1
 by_cases h2 : x.ph = 2
 ·rw [if_pos h2] at h
  have HX := ak (wk_scan k A0 c0 lc A1 c1 lr room P w base g vm vs x x' hrw.1 hc0 hrw.2 hc1 hro hW hP hb h)
  have h2b : (x.ph == 2) = true := beq_iff_eq.2 h2
  clear hro hrw hr0 hr1 hB0 hPB hW hP hb h h0 h1 h2
  go_enter Try.func37, Try.ntmps37
  go_wp2_with (first | (go_at_call 55; (with_reducible refine HX.out.mono ?_); rintro e w3 ⟨⟨v, rfl⟩, hx⟩; have H3 := ak hx; clear hx))
  go_end0
  exact ⟨⟨_, rfl⟩, H3.out⟩
 rw [if_neg h2] at h
 cases h
 have h2b : (x.ph == 2) = false := beq_eq_false_iff_ne.2 h2
 have HW := ak hW
 clear hro hrw hr0 hr1 hB0 hPB hW hP hb h0 h1 h2
 go_enter Try.func37, Try.ntmps37
 go_wp2
 go_end0
 exact ⟨⟨_, rfl⟩, _, _, HW.out, Keeps.refl _ _⟩
def BegunPost (pre : List Value) (w : World) (x : MS) (b : Bool) (e : Ending) (w1 : World) : Prop :=
 ∃ (g : Nat) (vm vs : Value), e = .returned (.tuple #[.pointer (some ⟨g, 0, none⟩), .bool b]) ∧ Wk 63 pre (fun k => k < w.heap.size) w1 w.heap.size g vm vs x ∧ Below w.heap.size w w1
set_option maxHeartbeats 8000000 in
set_option maxRecDepth 100000 in
theorem wk_begun (k : Nat) (A0 : Option Addr) (c0 : Nat) (lc : List S56) (A1 : Option Addr) (c1 : Nat) (lr : List Int) (room ph at_ : Int) (A2 : Option Addr) (c2 : Nat) (m : List Bool) (A3 : Option Addr) (c3 : Nat) (st : List Int) (ov ag sc : Bool) (r : Int) (w : World)
  (hr0 : Kd.C k56 w A0 lc.length lc) (hc0 : lc.length ≤ c0) (hr1 : Kd.C (Kd.int .i64) w A1 lr.length lr) (hc1 : lr.length ≤ c1) (hr2 : Kd.C Kd.bool w A2 m.length m) (hc2 : m.length ≤ c2) (hr3 : Kd.C (Kd.int .i64) w A3 st.length st) (hc3 : st.length ≤ c3)
  (hb2 : m.length * 1 ≤ 140737488355328) (hb3 : st.length * 8 ≤ 140737488355328) (h : mark_Check.f k lc lr room ph at_ m st ov ag sc = some r) :
  Calls Try.prog 36 #[.agg #[.slice A0 lc.length c0, .slice A1 lr.length c1], .int .i64 room, .agg #[.int .i64 ph, .int .i64 at_, .slice A2 m.length c2, .slice A3 st.length c3, .bool ov, .bool ag, .bool sc]] w (BegunPost (wkPre A0 lc.length c0 A1 lr.length c1 room) w ⟨ph, at_, m, st, ov, ag, sc⟩ (r == 0)) := by
 have hu25 := Try.underlying25
 have hu28 := Try.underlying28
 have hu63 := Try.underlying63
 have HQ := ak (fun A2 c2 A3 c3 wd (hd : Below w.heap.size w wd) (h2 : Kd.C Kd.bool wd A2 m.length m) (hc2 : m.length ≤ c2) (h3 : Kd.C (Kd.int .i64) wd A3 st.length st) (hc3 : st.length ≤ c3) => mark_Check.calls k A0 c0 lc A1 c1 lr room ph at_ A2 c2 m A3 c3 st ov ag sc r wd (Kd.C_below hr0 hd) hc0 (Kd.C_below hr1 hd) hc1 h2 hc2 h3 hc3 h)
 have HCB := ak (fun wd (hd : Below w.heap.size w wd) => clone_bool.calls A2 c2 m m wd (Kd.C_below hr2 hd) hc2 (by unfold clone_bool.f; rw [if_pos hb2]))
 have HCI := ak (fun wd (hd : Below w.heap.size w wd) => clone_int.calls A3 c3 st st wd (Kd.C_below hr3 hd) hc3 (by unfold clone_int.f; rw [if_pos hb3]))
 have HB := ak (Below.refl w.heap.size w)
 clear hr0 hr1 hr2 hr3 hc0 hc1 hc2 hc3 hb2 hb3 h
 go_enter Try.func36, Try.ntmps36
 go_wp2_with (first | ((with_reducible refine gate_dst (N := 3) rfl ?_); refine box_event ?hg (N := 3) ?hd (cs := #[.slice A0 lc.length c0, .slice A1 lr.length c1]) (t := 25) ?hr ?_; (case hd => rfl); (case hg => rfl); (case hr => first | (go_simp; done) | (go_simp; rfl)); intro gb hg w1 hb1 hx1; have HB1 := ak hx1; have BK := ak hb1; have GB := ak (show w.heap.size ≤ gb from by rw [hg]; exact Nat.le_refl _); clear hg hb1 hx1) | ((with_reducible refine gate_dst (N := 5) rfl ?_); refine box_event ?hg (N := 5) ?hd (cs := #[.int .i64 ph, .int .i64 at_, .slice A2 m.length c2, .slice A3 st.length c3, .bool ov, .bool ag, .bool sc]) (t := 28) ?hr ?_; (case hd => rfl); (case hg => rfl); (case hr => first | (go_simp; done) | (go_simp; rfl)); intro gs hg w2 hb2 hx2; have HB2 := ak (HB1.out.trans (hx2.mono HB1.out.size)); have BK2 := ak (blk_below BK.out hx2); have BS2 := ak hb2; have GS := ak (show w.heap.size ≤ gs from by rw [hg]; exact HB1.out.size); clear hg hb2 hx2))
 clear HB HB1 BK
 refine start_ (n := 10) (S := fun w' => w'.cell? ⟨gs, 2, none⟩ = some (.slice A2 m.length c2) ∧ w'.cell? ⟨gs, 3, none⟩ = some (.slice A3 st.length c3)) (ds := [7, 9]) #[false, false, false, false, false, false, false, false, false, false] (by kernel_rfl) rfl rfl ⟨(blk_cell BS2.out 2).trans rfl, (blk_cell BS2.out 3).trans rfl⟩ (fun hHeld => ?_)
 have HB3 := ak (below_drew HB2.out)
 have BK3 := ak (blk_drew BK2.out)
 have BS3 := ak (blk_drew BS2.out)
 clear HB2 BK2 BS2
 generalize w2.drew = w3 at hHeld HB3 BK3 BS3 ⊢
 refine pure_ (i := 0) (N := some 8) (v := ?_) (a' := ?_) #[true, false, false, false, false, false, false, false, false, false] rfl rfl (by kernel_rfl) (fun _ _ _ h => h) (Or.inl ⟨by rfl, ?_⟩) ?_ ?_; rotate_left; (intro w'; go_simp; with_reducible rfl); rotate_left; (simp only [Act.put, sq0, sq1, sq2, sq3, sq4]; rfl)
 refine take_ (i := 1) (N := some 9) (v := ?_) (a' := ?_) #[true, true, false, false, false, false, false, false, false, false] rfl rfl (by kernel_rfl) (fun _ _ _ h => h) (Or.inl ⟨by rfl, ?_⟩) hHeld ?_ ?_; rotate_left; (rintro w' ⟨z0, z1⟩; go_simp; with_reducible rfl); rotate_left; (simp only [Act.put, sq0, sq1, sq2, sq3, sq4]; rfl)
 refine pure_ (i := 3) (N := some 11) (v := ?_) (a' := ?_) #[true, true, false, true, false, false, false, false, false, false] rfl rfl (by kernel_rfl) (fun _ _ _ h => h) (Or.inl ⟨by rfl, ?_⟩) ?_ ?_; rotate_left; (intro w'; go_simp; with_reducible rfl); rotate_left; (simp only [Act.put, sq0, sq1, sq2, sq3, sq4]; rfl)
 refine take_ (i := 4) (N := some 12) (v := ?_) (a' := ?_) #[true, true, false, true, true, false, false, false, false, false] rfl rfl (by kernel_rfl) (fun _ _ _ h => h) (Or.inl ⟨by rfl, ?_⟩) hHeld ?_ ?_; rotate_left; (rintro w' ⟨z0, z1⟩; go_simp; with_reducible rfl); rotate_left; (simp only [Act.put, sq0, sq1, sq2, sq3, sq4]; rfl)
 refine one_ (i := 2) (N := some 10) #[true, true, true, true, true, false, false, false, false, false] rfl rfl (by kernel_rfl) (by decide) (fun K hK => ?_)
 refine goes_ Try.func52 (by kernel_rfl) rfl #[.slice A2 m.length c2] (by rfl) rfl rfl (by simp only [List.map_toArray, List.map_cons, List.map_nil]; rfl) ?_
 refine (HCB.out _ HB3.out).mono ?_
 rintro e w4 ⟨vm, rfl, hm, hb⟩
 refine ⟨_, rfl, ?_⟩
 obtain ⟨Am, cm, rfl⟩ := Kd.R_slice hm
 have HB4 := ak (HB3.out.trans (hb.mono HB3.out.size))
 have BK4 := ak (blk_below BK3.out hb)
 have BS4 := ak (blk_below BS3.out hb)
 have HM4 := ak (Kd.R_lower hm HB3.out.size)
 clear HB3 BK3 BS3 hHeld hb hm
 refine hK.out _ _ ⟨(blk_cell BS4.out 2).trans rfl, (blk_cell BS4.out 3).trans rfl⟩ (fun hHeld => ?_)
 clear hK K
 refine norm_ (a' := ?_) ?_ ?_; rotate_left; (simp only [Act.put, sq0, sq1, sq2, sq3, sq4]; rfl)
 refine pure_ (i := 6) (N := some 14) (v := ?_) (a' := ?_) #[true, true, true, true, true, false, true, false, false, false] rfl rfl (by kernel_rfl) (fun _ _ _ h => h) (Or.inl ⟨by rfl, ?_⟩) ?_ ?_; rotate_left; (intro w'; go_simp; with_reducible rfl); rotate_left; (simp only [Act.put, sq0, sq1, sq2, sq3, sq4]; rfl)
 refine one_ (i := 5) (N := some 13) #[true, true, true, true, true, true, true, false, false, false] rfl rfl (by kernel_rfl) (by decide) (fun K hK => ?_)
 refine goes_ Try.func29 (by kernel_rfl) rfl #[.slice A3 st.length c3] (by rfl) rfl rfl (by simp only [List.map_toArray, List.map_cons, List.map_nil]; rfl) ?_
 refine (HCI.out _ HB4.out).mono ?_
 rintro e w5 ⟨vs, rfl, hs, hb⟩
 refine ⟨_, rfl, ?_⟩
 obtain ⟨As, cs, rfl⟩ := Kd.R_slice hs
 have HB5 := ak (HB4.out.trans (hb.mono HB4.out.size))
 have BK5 := ak (blk_below BK4.out hb)
 have BS5 := ak (blk_below BS4.out hb)
 have HM5 := ak (Kd.R_below HM4.out hb)
 have HS5 := ak (Kd.R_lower hs HB4.out.size)
 clear HB4 BK4 BS4 HM4 hHeld hb hs
 refine hK.out _ _ ⟨(blk_cell BS5.out 2).trans rfl, (blk_cell BS5.out 3).trans rfl⟩ (fun hHeld => ?_)
 clear hK K
 refine norm_ (a' := ?_) ?_ ?_; rotate_left; (simp only [Act.put, sq0, sq1, sq2, sq3, sq4]; rfl)
 refine last_ (i := 7) (N := none) #[true, true, true, true, true, true, true, true, false, false] rfl rfl (by kernel_rfl) (by decide) (fun K hK => ?_)
 have f2 := blk_frozen BS5.out 2
 have s2 : w5.cell? ⟨gs, 2, none⟩ = some (.slice A2 m.length c2) := hHeld.1
 refine skip_ (w1 := ?_) (by rfl) rfl ?_ ?_; rotate_left; (go_simp; rfl)
 refine hK.out _ _ ?_
 clear hK K
 refine pure_ (i := 8) (N := some 15) (v := ?_) (a' := ?_) #[true, true, true, true, true, true, true, true, true, false] rfl rfl (by kernel_rfl) (fun _ _ _ h => h) (Or.inl ⟨by rfl, ?_⟩) ?_ ?_; rotate_left; (intro w'; go_simp; with_reducible rfl); rotate_left; (simp only [Act.put, sq0, sq1, sq2, sq3, sq4]; rfl)
 refine last_ (i := 9) (N := none) #[true, true, true, true, true, true, true, true, true, true] rfl rfl (by kernel_rfl) (by decide) (fun K hK => ?_)
 have f3 := blk_frozen BS5.out 3
 have s3 : w5.cell? ⟨gs, 3, none⟩ = some (.slice A3 st.length c3) := hHeld.2
 refine skip_ (w1 := ?_) (by rfl) rfl ?_ ?_; rotate_left; (go_simp; rfl)
 refine hK.out _ _ ?_
 clear hK K
 refine done_ (by kernel_rfl) ?_
 have BSa := blk_put (cs' := #[.int .i64 ph, .int .i64 at_, .slice Am m.length cm, .slice A3 st.length c3, .bool ov, .bool ag, .bool sc]) BS5.out 2 (.slice Am m.length cm) rfl
 have BSb := ak (blk_put (cs' := #[.int .i64 ph, .int .i64 at_, .slice Am m.length cm, .slice As st.length cs, .bool ov, .bool ag, .bool sc]) BSa 3 (.slice As st.length cs) rfl)
 have ngs := blk_ne BK5.out BS5.out (by decide)
 have BKb := ak (blk_far (blk_far BK5.out (p := ⟨gs, 2, none⟩) ngs (.slice Am m.length cm)) (p := ⟨gs, 3, none⟩) ngs (.slice As st.length cs))
 have HMa := Kd.R_set HM5.out BS5.out (fun q hq => by rw [List.mem_singleton.1 hq]; decide) 2 (.slice Am m.length cm)
 have HMb := ak (Kd.R_set HMa BSa (fun q hq => by rw [List.mem_singleton.1 hq]; decide) 3 (.slice As st.length cs))
 have HSa := Kd.R_set HS5.out BS5.out (fun q hq => by rw [List.mem_singleton.1 hq]; decide) 2 (.slice Am m.length cm)
 have HSb := ak (Kd.R_set HSa BSa (fun q hq => by rw [List.mem_singleton.1 hq]; decide) 3 (.slice As st.length cs))
 have HBb := ak (below_set (below_set HB5.out GS.out (j := 2) (v := .slice Am m.length cm)) GS.out (j := 3) (v := .slice As st.length cs))
 clear BSa HMa HSa BS5 BK5 HM5 HS5 HB5 hHeld s2 s3 f2 f3 ngs
 generalize (w5.setCell ⟨gs, 2, none⟩ (.slice Am m.length cm)).setCell ⟨gs, 3, none⟩ (.slice As st.length cs) = w6 at BSb BKb HMb HSb HBb ⊢
 go_wp2
 refine start_ (n := 12) (S := fun w' => w'.cell? ⟨gb, 0, none⟩ = some (.slice A0 lc.length c0) ∧ w'.cell? ⟨gb, 1, none⟩ = some (.slice A1 lr.length c1) ∧ w'.cell? ⟨gs, 0, none⟩ = some (.int .i64 ph) ∧ w'.cell? ⟨gs, 1, none⟩ = some (.int .i64 at_) ∧ w'.cell? ⟨gs, 2, none⟩ = some (.slice Am m.length cm) ∧ w'.cell? ⟨gs, 3, none⟩ = some (.slice As st.length cs) ∧ w'.cell? ⟨gs, 4, none⟩ = some (.bool ov) ∧ w'.cell? ⟨gs, 5, none⟩ = some (.bool ag) ∧ w'.cell? ⟨gs, 6, none⟩ = some (.bool sc)) (ds := []) #[false, false, false, false, false, false, false, false, false, false, false, false] (by kernel_rfl) rfl rfl ⟨(blk_cell BKb.out 0).trans rfl, (blk_cell BKb.out 1).trans rfl, (blk_cell BSb.out 0).trans rfl, (blk_cell BSb.out 1).trans rfl, (blk_cell BSb.out 2).trans rfl, (blk_cell BSb.out 3).trans rfl, (blk_cell BSb.out 4).trans rfl, (blk_cell BSb.out 5).trans rfl, (blk_cell BSb.out 6).trans rfl⟩ (fun hHeld => ?_)
 have BS6 := ak (blk_drew BSb.out)
 have BK6 := ak (blk_drew BKb.out)
 have HM6 := ak (Kd.R_drew HMb.out)
 have HS6 := ak (Kd.R_drew HSb.out)
 have HB6 := ak (below_drew HBb.out)
 clear BSb BKb HMb HSb HBb
 generalize w6.drew = w7 at hHeld BS6 BK6 HM6 HS6 HB6 ⊢
 refine pure_ (i := 1) (N := some 17) (v := ?_) (a' := ?_) #[false, true, false, false, false, false, false, false, false, false, false, false] rfl rfl (by kernel_rfl) (fun _ _ _ h => h) (Or.inl ⟨by rfl, ?_⟩) ?_ ?_; rotate_left; (intro w'; go_simp; with_reducible rfl); rotate_left; (simp only [Act.put, sq0, sq1, sq2, sq3, sq4]; rfl)
 refine pure_ (i := 6) (N := some 22) (v := ?_) (a' := ?_) #[false, true, false, false, false, false, true, false, false, false, false, false] rfl rfl (by kernel_rfl) (fun _ _ _ h => h) (Or.inl ⟨by rfl, ?_⟩) ?_ ?_; rotate_left; (intro w'; go_simp; with_reducible rfl); rotate_left; (simp only [Act.put, sq0, sq1, sq2, sq3, sq4]; rfl)
 refine take_ (i := 0) (N := some 16) (v := ?_) (a' := ?_) #[true, true, false, false, false, false, true, false, false, false, false, false] rfl rfl (by kernel_rfl) (fun _ _ _ h => h) (Or.inl ⟨by rfl, ?_⟩) hHeld ?_ ?_; rotate_left; (rintro w' ⟨z0, z1, z2, z3, z4, z5, z6, z7, z8⟩; go_simp; with_reducible rfl); rotate_left; (simp only [Act.put, sq0, sq1, sq2, sq3, sq4]; rfl)
 refine take_ (i := 2) (N := some 18) (v := ?_) (a' := ?_) #[true, true, true, false, false, false, true, false, false, false, false, false] rfl rfl (by kernel_rfl) (fun _ _ _ h => h) (Or.inl ⟨by rfl, ?_⟩) hHeld ?_ ?_; rotate_left; (rintro w' ⟨z0, z1, z2, z3, z4, z5, z6, z7, z8⟩; go_simp; with_reducible rfl); rotate_left; (simp only [Act.put, sq0, sq1, sq2, sq3, sq4]; rfl)
 refine take_ (i := 5) (N := some 21) (v := ?_) (a' := ?_) #[true, true, true, false, false, true, true, false, false, false, false, false] rfl rfl (by kernel_rfl) (fun _ _ _ h => h) (Or.inl ⟨by rfl, ?_⟩) hHeld ?_ ?_; rotate_left; (rintro w' ⟨z0, z1, z2, z3, z4, z5, z6, z7, z8⟩; go_simp; with_reducible rfl); rotate_left; (simp only [Act.put, sq0, sq1, sq2, sq3, sq4]; rfl)
 refine take_ (i := 7) (N := some 23) (v := ?_) (a' := ?_) #[true, true, true, false, false, true, true, true, false, false, false, false] rfl rfl (by kernel_rfl) (fun _ _ _ h => h) (Or.inl ⟨by rfl, ?_⟩) hHeld ?_ ?_; rotate_left; (rintro w' ⟨z0, z1, z2, z3, z4, z5, z6, z7, z8⟩; go_simp; with_reducible rfl); rotate_left; (simp only [Act.put, sq0, sq1, sq2, sq3, sq4]; rfl)
 refine pure_ (i := 3) (N := some 19) (v := ?_) (a' := ?_) #[true, true, true, true, false, true, true, true, false, false, false, false] rfl rfl (by kernel_rfl) (fun _ _ _ h => h) (Or.inl ⟨by rfl, ?_⟩) ?_ ?_; rotate_left; (intro w'; go_simp; with_reducible rfl); rotate_left; (simp only [Act.put, sq0, sq1, sq2, sq3, sq4]; rfl)
 refine two_ (i := 4) (j := 8) (Ni := some 20) (Nj := some 24) #[true, true, true, true, true, true, true, true, false, false, false, false] #[true, true, true, true, false, true, true, true, true, false, false, false] rfl rfl rfl rfl (by kernel_rfl) (by decide) (by decide) (fun K hK => ?_) (fun K hK => ?_)
 ·skip
  have HM7 := HM6
  have HS7 := HS6
  have HB7 := HB6
  have BS7 := BS6
  have BK7 := BK6
  clear HM6 HS6 HB6 BS6 BK6
  refine box_step ?hg (N := 20) ?hd (cs := #[.slice A0 lc.length c0, .slice A1 lr.length c1, .int .i64 room, .int .i64 ph, .int .i64 at_, .slice Am m.length cm, .slice As st.length cs, .bool ov, .bool ag, .bool sc]) (t := 63) ?hr ?_; (case hd => rfl); (case hg => rfl); (case hr => first | (go_simp; done) | (go_simp; rfl))
  intro g hg w8 hbox hb
  have BS8 := ak (blk_below BS7.out hb)
  have BK8 := ak (blk_below BK7.out hb)
  have HM8 := ak (Kd.R_below HM7.out hb)
  have HS8 := ak (Kd.R_below HS7.out hb)
  have HB8 := ak (HB7.out.trans (hb.mono HB7.out.size))
  have GG := ak (show w.heap.size ≤ g from by rw [hg]; exact HB7.out.size)
  have BG8 := ak hbox
  clear BS7 BK7 HM7 HS7 HB7 hHeld hb hbox hg
  refine hK.out _ _ ⟨(blk_cell BK8.out 0).trans rfl, (blk_cell BK8.out 1).trans rfl, (blk_cell BS8.out 0).trans rfl, (blk_cell BS8.out 1).trans rfl, (blk_cell BS8.out 2).trans rfl, (blk_cell BS8.out 3).trans rfl, (blk_cell BS8.out 4).trans rfl, (blk_cell BS8.out 5).trans rfl, (blk_cell BS8.out 6).trans rfl⟩ (fun hHeld => ?_)
  clear hK K
  refine norm_ (a' := ?_) ?_ ?_; rotate_left; (simp only [Act.put, sq0, sq1, sq2, sq3, sq4]; rfl)
  refine one_ (i := 8) (N := some 24) #[true, true, true, true, true, true, true, true, true, false, false, false] rfl rfl (by kernel_rfl) (by decide) (fun K hK => ?_)
  refine goes_ Try.func18 (by kernel_rfl) rfl #[.agg #[.slice A0 lc.length c0, .slice A1 lr.length c1], .int .i64 room, .agg #[.int .i64 ph, .int .i64 at_, .slice Am m.length cm, .slice As st.length cs, .bool ov, .bool ag, .bool sc]] (by rfl) rfl rfl (by simp only [List.map_toArray, List.map_cons, List.map_nil]; rfl) ?_
  refine (HQ.out Am cm As cs _ HB8.out (Kd.R_reads' HM8.out).2.2 (Kd.R_reads' HM8.out).2.1 (Kd.R_reads' HS8.out).2.2 (Kd.R_reads' HS8.out).2.1).mono ?_
  rintro e w9 ⟨rfl, hb⟩
  refine ⟨_, rfl, ?_⟩
  have BS9 := ak (blk_below BS8.out hb)
  have BK9 := ak (blk_below BK8.out hb)
  have HM9 := ak (Kd.R_below HM8.out hb)
  have HS9 := ak (Kd.R_below HS8.out hb)
  have HB9 := ak (HB8.out.trans (hb.mono HB8.out.size))
  have BG9 := ak (blk_below BG8.out hb)
  clear BG8 BS8 BK8 HM8 HS8 HB8 hHeld hb
  refine hK.out _ _ ⟨(blk_cell BK9.out 0).trans rfl, (blk_cell BK9.out 1).trans rfl, (blk_cell BS9.out 0).trans rfl, (blk_cell BS9.out 1).trans rfl, (blk_cell BS9.out 2).trans rfl, (blk_cell BS9.out 3).trans rfl, (blk_cell BS9.out 4).trans rfl, (blk_cell BS9.out 5).trans rfl, (blk_cell BS9.out 6).trans rfl⟩ (fun hHeld => ?_)
  clear hK K
  refine norm_ (a' := ?_) ?_ ?_; rotate_left; (simp only [Act.put, sq0, sq1, sq2, sq3, sq4]; rfl)
  refine pure_ (i := 9) (N := some 25) (v := ?_) (a' := ?_) #[true, true, true, true, true, true, true, true, true, true, false, false] rfl rfl (by kernel_rfl) (fun _ _ _ h => h) (Or.inl ⟨by rfl, ?_⟩) ?_ ?_; rotate_left; (intro w'; go_simp; with_reducible rfl); rotate_left; (simp only [Act.put, sq0, sq1, sq2, sq3, sq4]; rfl)
  refine pure_ (i := 10) (N := some 6) (v := ?_) (a' := ?_) #[true, true, true, true, true, true, true, true, true, true, true, false] rfl rfl (by kernel_rfl) (fun _ _ _ h => h) (Or.inl ⟨by rfl, ?_⟩) ?_ ?_; rotate_left; (intro w'; go_simp; with_reducible rfl); rotate_left; (simp only [Act.put, sq0, sq1, sq2, sq3, sq4]; rfl)
  refine pure_ (i := 11) (N := some 7) (v := ?_) (a' := ?_) #[true, true, true, true, true, true, true, true, true, true, true, true] rfl rfl (by kernel_rfl) (fun _ _ _ h => h) (Or.inl ⟨by rfl, ?_⟩) ?_ ?_; rotate_left; (intro w'; go_simp; with_reducible rfl); rotate_left; (simp only [Act.put, sq0, sq1, sq2, sq3, sq4]; rfl)
  refine done_ (by kernel_rfl) ?_
  go_wp2
  go_ret2
  exact ⟨g, _, _, by first | rfl | (simp; done), ⟨BG9.out, GG.out, Kd.R_reok rfl HM9.out (fun k hk => Nat.not_lt.2 (Kd.R_base HM9.out k hk)), Kd.R_reok rfl HS9.out (fun k hk => Nat.not_lt.2 (Kd.R_base HS9.out k hk)), Nat.not_lt.2 GG.out⟩, HB9.out⟩
 ·skip
  have HM7 := HM6
  have HS7 := HS6
  have HB7 := HB6
  have BS7 := BS6
  have BK7 := BK6
  clear HM6 HS6 HB6 BS6 BK6
  refine goes_ Try.func18 (by kernel_rfl) rfl #[.agg #[.slice A0 lc.length c0, .slice A1 lr.length c1], .int .i64 room, .agg #[.int .i64 ph, .int .i64 at_, .slice Am m.length cm, .slice As st.length cs, .bool ov, .bool ag, .bool sc]] (by rfl) rfl rfl (by simp only [List.map_toArray, List.map_cons, List.map_nil]; rfl) ?_
  refine (HQ.out Am cm As cs _ HB7.out (Kd.R_reads' HM7.out).2.2 (Kd.R_reads' HM7.out).2.1 (Kd.R_reads' HS7.out).2.2 (Kd.R_reads' HS7.out).2.1).mono ?_
  rintro e w8 ⟨rfl, hb⟩
  refine ⟨_, rfl, ?_⟩
  have BS8 := ak (blk_below BS7.out hb)
  have BK8 := ak (blk_below BK7.out hb)
  have HM8 := ak (Kd.R_below HM7.out hb)
  have HS8 := ak (Kd.R_below HS7.out hb)
  have HB8 := ak (HB7.out.trans (hb.mono HB7.out.size))
  clear BS7 BK7 HM7 HS7 HB7 hHeld hb
  refine hK.out _ _ ⟨(blk_cell BK8.out 0).trans rfl, (blk_cell BK8.out 1).trans rfl, (blk_cell BS8.out 0).trans rfl, (blk_cell BS8.out 1).trans rfl, (blk_cell BS8.out 2).trans rfl, (blk_cell BS8.out 3).trans rfl, (blk_cell BS8.out 4).trans rfl, (blk_cell BS8.out 5).trans rfl, (blk_cell BS8.out 6).trans rfl⟩ (fun hHeld => ?_)
  clear hK K
  refine norm_ (a' := ?_) ?_ ?_; rotate_left; (simp only [Act.put, sq0, sq1, sq2, sq3, sq4]; rfl)
  refine pure_ (i := 9) (N := some 25) (v := ?_) (a' := ?_) #[true, true, true, true, false, true, true, true, true, true, false, false] rfl rfl (by kernel_rfl) (fun _ _ _ h => h) (Or.inl ⟨by rfl, ?_⟩) ?_ ?_; rotate_left; (intro w'; go_simp; with_reducible rfl); rotate_left; (simp only [Act.put, sq0, sq1, sq2, sq3, sq4]; rfl)
  refine one_ (i := 4) (N := some 20) #[true, true, true, true, true, true, true, true, true, true, false, false] rfl rfl (by kernel_rfl) (by decide) (fun K hK => ?_)
  refine box_step ?hg (N := 20) ?hd (cs := #[.slice A0 lc.length c0, .slice A1 lr.length c1, .int .i64 room, .int .i64 ph, .int .i64 at_, .slice Am m.length cm, .slice As st.length cs, .bool ov, .bool ag, .bool sc]) (t := 63) ?hr ?_; (case hd => rfl); (case hg => rfl); (case hr => first | (go_simp; done) | (go_simp; rfl))
  intro g hg w9 hbox hb
  have BS9 := ak (blk_below BS8.out hb)
  have BK9 := ak (blk_below BK8.out hb)
  have HM9 := ak (Kd.R_below HM8.out hb)
  have HS9 := ak (Kd.R_below HS8.out hb)
  have HB9 := ak (HB8.out.trans (hb.mono HB8.out.size))
  have GG := ak (show w.heap.size ≤ g from by rw [hg]; exact HB8.out.size)
  have BG9 := ak hbox
  clear BS8 BK8 HM8 HS8 HB8 hHeld hb hbox hg
  refine hK.out _ _ ⟨(blk_cell BK9.out 0).trans rfl, (blk_cell BK9.out 1).trans rfl, (blk_cell BS9.out 0).trans rfl, (blk_cell BS9.out 1).trans rfl, (blk_cell BS9.out 2).trans rfl, (blk_cell BS9.out 3).trans rfl, (blk_cell BS9.out 4).trans rfl, (blk_cell BS9.out 5).trans rfl, (blk_cell BS9.out 6).trans rfl⟩ (fun hHeld => ?_)
  clear hK K
  refine norm_ (a' := ?_) ?_ ?_; rotate_left; (simp only [Act.put, sq0, sq1, sq2, sq3, sq4]; rfl)
  refine pure_ (i := 10) (N := some 6) (v := ?_) (a' := ?_) #[true, true, true, true, true, true, true, true, true, true, true, false] rfl rfl (by kernel_rfl) (fun _ _ _ h => h) (Or.inl ⟨by rfl, ?_⟩) ?_ ?_; rotate_left; (intro w'; go_simp; with_reducible rfl); rotate_left; (simp only [Act.put, sq0, sq1, sq2, sq3, sq4]; rfl)
  refine pure_ (i := 11) (N := some 7) (v := ?_) (a' := ?_) #[true, true, true, true, true, true, true, true, true, true, true, true] rfl rfl (by kernel_rfl) (fun _ _ _ h => h) (Or.inl ⟨by rfl, ?_⟩) ?_ ?_; rotate_left; (intro w'; go_simp; with_reducible rfl); rotate_left; (simp only [Act.put, sq0, sq1, sq2, sq3, sq4]; rfl)
  refine done_ (by kernel_rfl) ?_
  go_wp2
  go_ret2
  exact ⟨g, _, _, by first | rfl | (simp; done), ⟨BG9.out, GG.out, Kd.R_reok rfl HM9.out (fun k hk => Nat.not_lt.2 (Kd.R_base HM9.out k hk)), Kd.R_reok rfl HS9.out (fun k hk => Nat.not_lt.2 (Kd.R_base HS9.out k hk)), Nat.not_lt.2 GG.out⟩, HB9.out⟩
def MS.tup {β : Type} (x : MS) (b : β) : Int × Int × List Bool × List Int × Bool × Bool × Bool × β := (x.ph, x.at_, x.marks, x.stack, x.over, x.again, x.scan, b)
def MS.run (cf : List Bool → Int → Option (List Int)) (pf : List Bool → Option Bool) (n : Nat) (lr : List Int) (room : Int) : Nat → MS → Int → Int → Option (MS × Int)
 | 0, _, _, _ => none
 | k + 1, s, u, c => if c < u then (if s.ph = 3 then some (s, c) else (MS.unit cf pf n lr room s).bind fun s' => MS.run cf pf n lr room k s' u (wrap64 (c + 1))) else some (s, c)
def mark_Run.f (k : Nat) (lc : List S56) (lr : List Int) (room ph at_ : Int) (m : List Bool) (st : List Int) (ov ag sc : Bool) (units : Int) : Option (Int × Int × List Bool × List Int × Bool × Bool × Bool × Int) :=
 if m.length * 1 ≤ 140737488355328 ∧ st.length * 8 ≤ 140737488355328 then
  (mark_Check.f k lc lr room ph at_ m st ov ag sc).bind fun e =>
   if e = 0 then (MS.run (fun m j => mark_counts.f k lc lr m j) (fun m => pairedL lc m) lc.length lr room k ⟨ph, at_, m, st, ov, ag, sc⟩ units 0).bind fun q => some (q.1.tup q.2)
   else some (MS.tup ⟨ph, at_, m, st, ov, ag, sc⟩ (0 : Int))
 else none
set_option maxHeartbeats 8000000 in
set_option maxRecDepth 100000 in
theorem mark_Run.calls (k : Nat) (A0 : Option Addr) (c0 : Nat) (lc : List S56) (A1 : Option Addr) (c1 : Nat) (lr : List Int) (room ph at_ : Int) (A2 : Option Addr) (c2 : Nat) (m : List Bool) (A3 : Option Addr) (c3 : Nat) (st : List Int) (ov ag sc : Bool) (units : Int) (r1 r2 : Int) (r3 : List Bool) (r4 : List Int) (r5 r6 r7 : Bool) (r8 : Int) (w : World)
  (hr0 : Kd.C k56 w A0 lc.length lc) (hc0 : lc.length ≤ c0) (hr1 : Kd.C (Kd.int .i64) w A1 lr.length lr) (hc1 : lr.length ≤ c1) (hr2 : Kd.C Kd.bool w A2 m.length m) (hc2 : m.length ≤ c2) (hr3 : Kd.C (Kd.int .i64) w A3 st.length st) (hc3 : st.length ≤ c3)
  (h : mark_Run.f k lc lr room ph at_ m st ov ag sc units = some (r1, r2, r3, r4, r5, r6, r7, r8)) :
  Calls Try.prog 12 #[.agg #[.slice A0 lc.length c0, .slice A1 lr.length c1], .int .i64 room, .agg #[.int .i64 ph, .int .i64 at_, .slice A2 m.length c2, .slice A3 st.length c3, .bool ov, .bool ag, .bool sc], .int .i64 units] w fun e w' => ∃ v2_ v3_ : Value, e = .returned (.tuple #[.agg #[.int .i64 r1, .int .i64 r2, v2_, v3_, .bool r5, .bool r6, .bool r7], .int .i64 r8]) ∧ Kd.R Kd.bool 4 w' w.heap.size (fun _ => True) v2_ r3 ∧ Kd.R (Kd.int .i64) 3 w' w.heap.size (fun _ => True) v3_ r4 ∧ Below w.heap.size w w' := by
 have hu25 := Try.underlying25
 have hu28 := Try.underlying28
 have hu63 := Try.underlying63
 unfold mark_Run.f at h
 by_cases hbd : m.length * 1 ≤ 140737488355328 ∧ st.length * 8 ≤ 140737488355328
 case neg => rw [if_neg hbd] at h; cases h
 rw [if_pos hbd] at h
 obtain ⟨e0, he0, h⟩ := Option.bind_eq_some_iff.1 h
 have HBG := ak (fun wd (hd : Below w.heap.size w wd) => wk_begun k A0 c0 lc A1 c1 lr room ph at_ A2 c2 m A3 c3 st ov ag sc e0 wd (Kd.C_below hr0 hd) hc0 (Kd.C_below hr1 hd) hc1 (Kd.C_below hr2 hd) hc2 (Kd.C_below hr3 hd) hc3 hbd.1 hbd.2 he0)
 have HR0 := ak hr0
 have HR1 := ak hr1
 have HC0 := ak hc0
 have HC1 := ak hc1
 have HH := ak h
 clear hr0 hr1 hr2 hr3 hc0 hc1 hc2 hc3 hbd he0 h
 by_cases hz : e0 = 0; rotate_left
 ·have hh := HH.out
  rw [if_neg hz] at hh
  have hh := Option.some.inj hh
  unfold MS.tup at hh
  simp only [Prod.mk.injEq] at hh
  obtain ⟨rfl, rfl, rfl, rfl, rfl, rfl, rfl, rfl⟩ := hh
  have hzb : (e0 == 0) = false := beq_eq_false_iff_ne.2 hz
  rw [hzb] at HBG
  clear HH hz hzb
  go_enter Try.func12, Try.ntmps12
  go_wp2_with (first | ((with_reducible refine gate_dst (N := 4) rfl ?_); refine box_event ?hg (N := 4) ?hd (cs := #[.slice A0 lc.length c0, .slice A1 lr.length c1]) (t := 25) ?hr ?_; (case hd => rfl); (case hg => rfl); (case hr => first | (go_simp; done) | (go_simp; rfl)); intro gb hg w1 hb1 hx1; have HB1 := ak hx1; have BK := ak hb1; clear hg hb1 hx1; have q0 : w1.cell? ⟨gb, 0, none⟩ = some (.slice A0 lc.length c0) := (blk_cell BK.out 0).trans rfl; have q1 : w1.cell? ⟨gb, 1, none⟩ = some (.slice A1 lr.length c1) := (blk_cell BK.out 1).trans rfl) | ((with_reducible refine gate_dst (N := 6) rfl ?_); refine box_event ?hg (N := 6) ?hd (cs := #[.int .i64 ph, .int .i64 at_, .slice A2 m.length c2, .slice A3 st.length c3, .bool ov, .bool ag, .bool sc]) (t := 28) ?hr ?_; (case hd => rfl); (case hg => rfl); (case hr => first | (go_simp; done) | (go_simp; rfl)); intro gs hg w2 hb2 hx2; have HB2 := ak (HB1.out.trans (hx2.mono HB1.out.size)); have BK2 := ak (blk_below BK.out hx2); have BS2 := ak hb2; clear hg hb2 hx2 q0 q1) | ((with_reducible refine gate_dst (N := 8) rfl ?_); refine box_event ?hg (N := 8) ?hd (cs := #[.int .i64 0, .int .i64 0, .slice none 0 0, .slice none 0 0, .bool false, .bool false, .bool false]) (t := 28) ?hr ?_; (case hd => rfl); (case hg => rfl); (case hr => first | (go_simp; done) | (go_simp; rfl)); intro gr hg w3 hb3 hx3; have HB3 := ak (HB2.out.trans (hx3.mono HB2.out.size)); have BK3 := ak (blk_below BK2.out hx3); have BS3 := ak (blk_below BS2.out hx3); have BR3 := ak hb3; have GR := ak (show w.heap.size ≤ gr from by rw [hg]; exact HB2.out.size); clear hg hb3 hx3 HB1 BK HB2 BK2 BS2; have q0 : w3.cell? ⟨gb, 0, none⟩ = some (.slice A0 lc.length c0) := (blk_cell BK3.out 0).trans rfl; have q1 : w3.cell? ⟨gb, 1, none⟩ = some (.slice A1 lr.length c1) := (blk_cell BK3.out 1).trans rfl; have s0 : w3.cell? ⟨gs, 0, none⟩ = some (.int .i64 ph) := (blk_cell BS3.out 0).trans rfl; have s1 : w3.cell? ⟨gs, 1, none⟩ = some (.int .i64 at_) := (blk_cell BS3.out 1).trans rfl; have s2 : w3.cell? ⟨gs, 2, none⟩ = some (.slice A2 m.length c2) := (blk_cell BS3.out 2).trans rfl; have s3 : w3.cell? ⟨gs, 3, none⟩ = some (.slice A3 st.length c3) := (blk_cell BS3.out 3).trans rfl; have s4 : w3.cell? ⟨gs, 4, none⟩ = some (.bool ov) := (blk_cell BS3.out 4).trans rfl; have s5 : w3.cell? ⟨gs, 5, none⟩ = some (.bool ag) := (blk_cell BS3.out 5).trans rfl; have s6 : w3.cell? ⟨gs, 6, none⟩ = some (.bool sc) := (blk_cell BS3.out 6).trans rfl) | (go_at_call 36; (with_reducible refine (HBG.out _ HB3.out).mono ?_); rintro e w4 ⟨g, vm, vs, rfl, hw4, hb4⟩; have HB4 := ak (HB3.out.trans (hb4.mono HB3.out.size)); have HV := ak hb4; have BR4 := ak (blk_below BR3.out hb4); have HW4 := ak hw4; have GL := ak (blk_lt BR3.out); clear q0 q1 s0 s1 s2 s3 s4 s5 s6 hw4 hb4))
  go_loopw [12] (fun v12 wr => v12 = .int .i64 0 ∧ w4 = wr) (fun _ _ => 0)
  case atStart => exact ⟨rfl, rfl⟩
  case round =>
   obtain ⟨rfl, rfl⟩ := hrel
   obtain ⟨Am, cm, rfl⟩ := Kd.R_slice HW4.out.m
   obtain ⟨As, cs, rfl⟩ := Kd.R_slice HW4.out.s
   have c3_ : w4.cell? ⟨g, 3, none⟩ = some (.int .i64 ph) := (blk_cell HW4.out.blk 3).trans rfl
   have c4_ : w4.cell? ⟨g, 4, none⟩ = some (.int .i64 at_) := (blk_cell HW4.out.blk 4).trans rfl
   have c5_ : w4.cell? ⟨g, 5, none⟩ = some (.slice Am m.length cm) := (blk_cell HW4.out.blk 5).trans rfl
   have c6_ : w4.cell? ⟨g, 6, none⟩ = some (.slice As st.length cs) := (blk_cell HW4.out.blk 6).trans rfl
   have c7_ : w4.cell? ⟨g, 7, none⟩ = some (.bool ov) := (blk_cell HW4.out.blk 7).trans rfl
   have c8_ : w4.cell? ⟨g, 8, none⟩ = some (.bool ag) := (blk_cell HW4.out.blk 8).trans rfl
   have c9_ : w4.cell? ⟨g, 9, none⟩ = some (.bool sc) := (blk_cell HW4.out.blk 9).trans rfl
   have y0 : w4.cell? ⟨gr, 0, none⟩ = some (.int .i64 0) := (blk_cell BR4.out 0).trans rfl
   have fy0 := blk_frozen BR4.out 0
   have y1 : w4.cell? ⟨gr, 1, none⟩ = some (.int .i64 0) := (blk_cell BR4.out 1).trans rfl
   have fy1 := blk_frozen BR4.out 1
   have y2 : w4.cell? ⟨gr, 2, none⟩ = some (.slice none 0 0) := (blk_cell BR4.out 2).trans rfl
   have fy2 := blk_frozen BR4.out 2
   have y3 : w4.cell? ⟨gr, 3, none⟩ = some (.slice none 0 0) := (blk_cell BR4.out 3).trans rfl
   have fy3 := blk_frozen BR4.out 3
   have y4 : w4.cell? ⟨gr, 4, none⟩ = some (.bool false) := (blk_cell BR4.out 4).trans rfl
   have fy4 := blk_frozen BR4.out 4
   have y5 : w4.cell? ⟨gr, 5, none⟩ = some (.bool false) := (blk_cell BR4.out 5).trans rfl
   have fy5 := blk_frozen BR4.out 5
   have y6 : w4.cell? ⟨gr, 6, none⟩ = some (.bool false) := (blk_cell BR4.out 6).trans rfl
   have fy6 := blk_frozen BR4.out 6
   have ngr := blk_ne HW4.out.blk BR4.out (by decide)
   have ngr' := Ne.symm ngr
   go_wp2
   clear c3_ c4_ c5_ c6_ c7_ c8_ c9_ y0 fy0 y1 fy1 y2 fy2 y3 fy3 y4 fy4 y5 fy5 y6 fy6
   have br0 := blk_put (cs' := #[.int .i64 ph, .int .i64 0, .slice none 0 0, .slice none 0 0, .bool false, .bool false, .bool false]) BR4.out 0 (.int .i64 ph) rfl
   have hm0 := Kd.R_set HW4.out.m BR4.out (fun q hq => by rw [List.mem_singleton.1 hq]; decide) 0 (.int .i64 ph)
   have hs0 := Kd.R_set HW4.out.s BR4.out (fun q hq => by rw [List.mem_singleton.1 hq]; decide) 0 (.int .i64 ph)
   have hb0 := below_set HB4.out GR.out (j := 0) (v := .int .i64 ph)
   have br1 := blk_put (cs' := #[.int .i64 ph, .int .i64 at_, .slice none 0 0, .slice none 0 0, .bool false, .bool false, .bool false]) br0 1 (.int .i64 at_) rfl
   have hm1 := Kd.R_set hm0 br0 (fun q hq => by rw [List.mem_singleton.1 hq]; decide) 1 (.int .i64 at_)
   have hs1 := Kd.R_set hs0 br0 (fun q hq => by rw [List.mem_singleton.1 hq]; decide) 1 (.int .i64 at_)
   have hb1 := below_set hb0 GR.out (j := 1) (v := .int .i64 at_)
   have br2 := blk_put (cs' := #[.int .i64 ph, .int .i64 at_, .slice Am m.length cm, .slice none 0 0, .bool false, .bool false, .bool false]) br1 2 (.slice Am m.length cm) rfl
   have hm2 := Kd.R_set hm1 br1 (fun q hq => by rw [List.mem_singleton.1 hq]; decide) 2 (.slice Am m.length cm)
   have hs2 := Kd.R_set hs1 br1 (fun q hq => by rw [List.mem_singleton.1 hq]; decide) 2 (.slice Am m.length cm)
   have hb2 := below_set hb1 GR.out (j := 2) (v := .slice Am m.length cm)
   have br3 := blk_put (cs' := #[.int .i64 ph, .int .i64 at_, .slice Am m.length cm, .slice As st.length cs, .bool false, .bool false, .bool false]) br2 3 (.slice As st.length cs) rfl
   have hm3 := Kd.R_set hm2 br2 (fun q hq => by rw [List.mem_singleton.1 hq]; decide) 3 (.slice As st.length cs)
   have hs3 := Kd.R_set hs2 br2 (fun q hq => by rw [List.mem_singleton.1 hq]; decide) 3 (.slice As st.length cs)
   have hb3 := below_set hb2 GR.out (j := 3) (v := .slice As st.length cs)
   have br4 := blk_put (cs' := #[.int .i64 ph, .int .i64 at_, .slice Am m.length cm, .slice As st.length cs, .bool ov, .bool false, .bool false]) br3 4 (.bool ov) rfl
   have hm4 := Kd.R_set hm3 br3 (fun q hq => by rw [List.mem_singleton.1 hq]; decide) 4 (.bool ov)
   have hs4 := Kd.R_set hs3 br3 (fun q hq => by rw [List.mem_singleton.1 hq]; decide) 4 (.bool ov)
   have hb4 := below_set hb3 GR.out (j := 4) (v := .bool ov)
   have br5 := blk_put (cs' := #[.int .i64 ph, .int .i64 at_, .slice Am m.length cm, .slice As st.length cs, .bool ov, .bool ag, .bool false]) br4 5 (.bool ag) rfl
   have hm5 := Kd.R_set hm4 br4 (fun q hq => by rw [List.mem_singleton.1 hq]; decide) 5 (.bool ag)
   have hs5 := Kd.R_set hs4 br4 (fun q hq => by rw [List.mem_singleton.1 hq]; decide) 5 (.bool ag)
   have hb5 := below_set hb4 GR.out (j := 5) (v := .bool ag)
   have br6 := blk_put (cs' := #[.int .i64 ph, .int .i64 at_, .slice Am m.length cm, .slice As st.length cs, .bool ov, .bool ag, .bool sc]) br5 6 (.bool sc) rfl
   have hm6 := Kd.R_set hm5 br5 (fun q hq => by rw [List.mem_singleton.1 hq]; decide) 6 (.bool sc)
   have hs6 := Kd.R_set hs5 br5 (fun q hq => by rw [List.mem_singleton.1 hq]; decide) 6 (.bool sc)
   have hb6 := below_set hb5 GR.out (j := 6) (v := .bool sc)
   refine bodyPost_ret (results_ct rfl _ _ gr 28 #[.int .i64 ph, .int .i64 at_, .slice Am m.length cm, .slice As st.length cs, .bool ov, .bool ag, .bool sc] (0, 0) _ rfl br6 Try.underlying28 rfl (by kernel_rfl)) rfl ?_
   exact ⟨_, _, by first | rfl | (simp; done), Kd.R_lower (Kd.R_mono hm6 (fun _ _ => trivial)) HB3.out.size, Kd.R_lower (Kd.R_mono hs6 (fun _ _ => trivial)) HB3.out.size, hb6⟩
 have hh := HH.out
 rw [if_pos hz] at hh
 obtain ⟨q, hu, hh⟩ := Option.bind_eq_some_iff.1 hh
 have hh := Option.some.inj hh
 unfold MS.tup at hh
 simp only [Prod.mk.injEq] at hh
 obtain ⟨rfl, rfl, rfl, rfl, rfl, rfl, rfl, rfl⟩ := hh
 subst hz
 have HU0 := ak hu
 clear hu HH
 go_enter Try.func12, Try.ntmps12
 go_wp2_with (first | ((with_reducible refine gate_dst (N := 4) rfl ?_); refine box_event ?hg (N := 4) ?hd (cs := #[.slice A0 lc.length c0, .slice A1 lr.length c1]) (t := 25) ?hr ?_; (case hd => rfl); (case hg => rfl); (case hr => first | (go_simp; done) | (go_simp; rfl)); intro gb hg w1 hb1 hx1; have HB1 := ak hx1; have BK := ak hb1; clear hg hb1 hx1; have q0 : w1.cell? ⟨gb, 0, none⟩ = some (.slice A0 lc.length c0) := (blk_cell BK.out 0).trans rfl; have q1 : w1.cell? ⟨gb, 1, none⟩ = some (.slice A1 lr.length c1) := (blk_cell BK.out 1).trans rfl) | ((with_reducible refine gate_dst (N := 6) rfl ?_); refine box_event ?hg (N := 6) ?hd (cs := #[.int .i64 ph, .int .i64 at_, .slice A2 m.length c2, .slice A3 st.length c3, .bool ov, .bool ag, .bool sc]) (t := 28) ?hr ?_; (case hd => rfl); (case hg => rfl); (case hr => first | (go_simp; done) | (go_simp; rfl)); intro gs hg w2 hb2 hx2; have HB2 := ak (HB1.out.trans (hx2.mono HB1.out.size)); have BK2 := ak (blk_below BK.out hx2); have BS2 := ak hb2; clear hg hb2 hx2 q0 q1) | ((with_reducible refine gate_dst (N := 8) rfl ?_); refine box_event ?hg (N := 8) ?hd (cs := #[.int .i64 0, .int .i64 0, .slice none 0 0, .slice none 0 0, .bool false, .bool false, .bool false]) (t := 28) ?hr ?_; (case hd => rfl); (case hg => rfl); (case hr => first | (go_simp; done) | (go_simp; rfl)); intro gr hg w3 hb3 hx3; have HB3 := ak (HB2.out.trans (hx3.mono HB2.out.size)); have BK3 := ak (blk_below BK2.out hx3); have BS3 := ak (blk_below BS2.out hx3); have BR3 := ak hb3; have GR := ak (show w.heap.size ≤ gr from by rw [hg]; exact HB2.out.size); clear hg hb3 hx3 HB1 BK HB2 BK2 BS2; have q0 : w3.cell? ⟨gb, 0, none⟩ = some (.slice A0 lc.length c0) := (blk_cell BK3.out 0).trans rfl; have q1 : w3.cell? ⟨gb, 1, none⟩ = some (.slice A1 lr.length c1) := (blk_cell BK3.out 1).trans rfl; have s0 : w3.cell? ⟨gs, 0, none⟩ = some (.int .i64 ph) := (blk_cell BS3.out 0).trans rfl; have s1 : w3.cell? ⟨gs, 1, none⟩ = some (.int .i64 at_) := (blk_cell BS3.out 1).trans rfl; have s2 : w3.cell? ⟨gs, 2, none⟩ = some (.slice A2 m.length c2) := (blk_cell BS3.out 2).trans rfl; have s3 : w3.cell? ⟨gs, 3, none⟩ = some (.slice A3 st.length c3) := (blk_cell BS3.out 3).trans rfl; have s4 : w3.cell? ⟨gs, 4, none⟩ = some (.bool ov) := (blk_cell BS3.out 4).trans rfl; have s5 : w3.cell? ⟨gs, 5, none⟩ = some (.bool ag) := (blk_cell BS3.out 5).trans rfl; have s6 : w3.cell? ⟨gs, 6, none⟩ = some (.bool sc) := (blk_cell BS3.out 6).trans rfl) | (go_at_call 36; (with_reducible refine (HBG.out _ HB3.out).mono ?_); rintro e w4 ⟨g, vm, vs, rfl, hw4, hb4⟩; have HB4 := ak (HB3.out.trans (hb4.mono HB3.out.size)); have HV := ak hb4; have BR4 := ak (blk_below BR3.out hb4); have HW4 := ak hw4; have GL := ak (blk_lt BR3.out); clear q0 q1 s0 s1 s2 s3 s4 s5 s6 hw4 hb4))
 go_loopg [12] k (fun kq v12 wr => ∃ (c : Int) (x1 : MS) (vm1 vs1 : Value), v12 = .int .i64 c ∧ Aside0 (Wk 63 (wkPre A0 lc.length c0 A1 lr.length c1 room) (fun k => k < w3.heap.size) wr w3.heap.size g vm1 vs1 x1) ∧ Aside0 (Below w3.heap.size w3 wr) ∧ Aside0 (MS.run (fun m j => mark_counts.f k lc lr m j) (fun m => pairedL lc m) lc.length lr room kq x1 units c = some q) ∧ Aside0 (kq ≤ k))
 case atStart => exact ⟨0, _, vm, vs, rfl, HW4, HV, HU0, ⟨Nat.le_refl _⟩⟩
 case round =>
  obtain ⟨c, x1, vm1, vs1, rfl, HX, HY, HA, HK1⟩ := hrel
  have hBR := ak (blk_below BR3.out HY.out)
  have hBB := ak (HB3.out.trans (HY.out.mono HB3.out.size))
  have d3 : wr.cell? ⟨g, 3, none⟩ = some (.int .i64 x1.ph) := (blk_cell HX.out.blk 3).trans rfl
  cases gk with
  | zero => exact absurd HA.out (by simp [MS.run])
  | succ k1 =>
   have H := HA.out
   clear HA
   simp only [MS.run] at H
   by_cases hlt : c < units; rotate_left
   ·rw [if_neg hlt] at H
    obtain rfl := Option.some.inj H
    have b1 : decide (c < units) = false := decide_eq_false hlt
    clear hlt H HU0 d3
    obtain ⟨Am, cm, rfl⟩ := Kd.R_slice HX.out.m
    obtain ⟨As, cs, rfl⟩ := Kd.R_slice HX.out.s
    have c3_ : wr.cell? ⟨g, 3, none⟩ = some (.int .i64 x1.ph) := (blk_cell HX.out.blk 3).trans rfl
    have c4_ : wr.cell? ⟨g, 4, none⟩ = some (.int .i64 x1.at_) := (blk_cell HX.out.blk 4).trans rfl
    have c5_ : wr.cell? ⟨g, 5, none⟩ = some (.slice Am x1.marks.length cm) := (blk_cell HX.out.blk 5).trans rfl
    have c6_ : wr.cell? ⟨g, 6, none⟩ = some (.slice As x1.stack.length cs) := (blk_cell HX.out.blk 6).trans rfl
    have c7_ : wr.cell? ⟨g, 7, none⟩ = some (.bool x1.over) := (blk_cell HX.out.blk 7).trans rfl
    have c8_ : wr.cell? ⟨g, 8, none⟩ = some (.bool x1.again) := (blk_cell HX.out.blk 8).trans rfl
    have c9_ : wr.cell? ⟨g, 9, none⟩ = some (.bool x1.scan) := (blk_cell HX.out.blk 9).trans rfl
    have y0 : wr.cell? ⟨gr, 0, none⟩ = some (.int .i64 0) := (blk_cell hBR.out 0).trans rfl
    have fy0 := blk_frozen hBR.out 0
    have y1 : wr.cell? ⟨gr, 1, none⟩ = some (.int .i64 0) := (blk_cell hBR.out 1).trans rfl
    have fy1 := blk_frozen hBR.out 1
    have y2 : wr.cell? ⟨gr, 2, none⟩ = some (.slice none 0 0) := (blk_cell hBR.out 2).trans rfl
    have fy2 := blk_frozen hBR.out 2
    have y3 : wr.cell? ⟨gr, 3, none⟩ = some (.slice none 0 0) := (blk_cell hBR.out 3).trans rfl
    have fy3 := blk_frozen hBR.out 3
    have y4 : wr.cell? ⟨gr, 4, none⟩ = some (.bool false) := (blk_cell hBR.out 4).trans rfl
    have fy4 := blk_frozen hBR.out 4
    have y5 : wr.cell? ⟨gr, 5, none⟩ = some (.bool false) := (blk_cell hBR.out 5).trans rfl
    have fy5 := blk_frozen hBR.out 5
    have y6 : wr.cell? ⟨gr, 6, none⟩ = some (.bool false) := (blk_cell hBR.out 6).trans rfl
    have fy6 := blk_frozen hBR.out 6
    have ngr := blk_ne HX.out.blk hBR.out (by decide)
    have ngr' := Ne.symm ngr
    go_wp2
    clear c3_ c4_ c5_ c6_ c7_ c8_ c9_ y0 fy0 y1 fy1 y2 fy2 y3 fy3 y4 fy4 y5 fy5 y6 fy6
    have br0 := blk_put (cs' := #[.int .i64 x1.ph, .int .i64 0, .slice none 0 0, .slice none 0 0, .bool false, .bool false, .bool false]) hBR.out 0 (.int .i64 x1.ph) rfl
    have hm0 := Kd.R_set HX.out.m hBR.out (fun q hq => by rw [List.mem_singleton.1 hq]; decide) 0 (.int .i64 x1.ph)
    have hs0 := Kd.R_set HX.out.s hBR.out (fun q hq => by rw [List.mem_singleton.1 hq]; decide) 0 (.int .i64 x1.ph)
    have hb0 := below_set hBB.out GR.out (j := 0) (v := .int .i64 x1.ph)
    have br1 := blk_put (cs' := #[.int .i64 x1.ph, .int .i64 x1.at_, .slice none 0 0, .slice none 0 0, .bool false, .bool false, .bool false]) br0 1 (.int .i64 x1.at_) rfl
    have hm1 := Kd.R_set hm0 br0 (fun q hq => by rw [List.mem_singleton.1 hq]; decide) 1 (.int .i64 x1.at_)
    have hs1 := Kd.R_set hs0 br0 (fun q hq => by rw [List.mem_singleton.1 hq]; decide) 1 (.int .i64 x1.at_)
    have hb1 := below_set hb0 GR.out (j := 1) (v := .int .i64 x1.at_)
    have br2 := blk_put (cs' := #[.int .i64 x1.ph, .int .i64 x1.at_, .slice Am x1.marks.length cm, .slice none 0 0, .bool false, .bool false, .bool false]) br1 2 (.slice Am x1.marks.length cm) rfl
    have hm2 := Kd.R_set hm1 br1 (fun q hq => by rw [List.mem_singleton.1 hq]; decide) 2 (.slice Am x1.marks.length cm)
    have hs2 := Kd.R_set hs1 br1 (fun q hq => by rw [List.mem_singleton.1 hq]; decide) 2 (.slice Am x1.marks.length cm)
    have hb2 := below_set hb1 GR.out (j := 2) (v := .slice Am x1.marks.length cm)
    have br3 := blk_put (cs' := #[.int .i64 x1.ph, .int .i64 x1.at_, .slice Am x1.marks.length cm, .slice As x1.stack.length cs, .bool false, .bool false, .bool false]) br2 3 (.slice As x1.stack.length cs) rfl
    have hm3 := Kd.R_set hm2 br2 (fun q hq => by rw [List.mem_singleton.1 hq]; decide) 3 (.slice As x1.stack.length cs)
    have hs3 := Kd.R_set hs2 br2 (fun q hq => by rw [List.mem_singleton.1 hq]; decide) 3 (.slice As x1.stack.length cs)
    have hb3 := below_set hb2 GR.out (j := 3) (v := .slice As x1.stack.length cs)
    have br4 := blk_put (cs' := #[.int .i64 x1.ph, .int .i64 x1.at_, .slice Am x1.marks.length cm, .slice As x1.stack.length cs, .bool x1.over, .bool false, .bool false]) br3 4 (.bool x1.over) rfl
    have hm4 := Kd.R_set hm3 br3 (fun q hq => by rw [List.mem_singleton.1 hq]; decide) 4 (.bool x1.over)
    have hs4 := Kd.R_set hs3 br3 (fun q hq => by rw [List.mem_singleton.1 hq]; decide) 4 (.bool x1.over)
    have hb4 := below_set hb3 GR.out (j := 4) (v := .bool x1.over)
    have br5 := blk_put (cs' := #[.int .i64 x1.ph, .int .i64 x1.at_, .slice Am x1.marks.length cm, .slice As x1.stack.length cs, .bool x1.over, .bool x1.again, .bool false]) br4 5 (.bool x1.again) rfl
    have hm5 := Kd.R_set hm4 br4 (fun q hq => by rw [List.mem_singleton.1 hq]; decide) 5 (.bool x1.again)
    have hs5 := Kd.R_set hs4 br4 (fun q hq => by rw [List.mem_singleton.1 hq]; decide) 5 (.bool x1.again)
    have hb5 := below_set hb4 GR.out (j := 5) (v := .bool x1.again)
    have br6 := blk_put (cs' := #[.int .i64 x1.ph, .int .i64 x1.at_, .slice Am x1.marks.length cm, .slice As x1.stack.length cs, .bool x1.over, .bool x1.again, .bool x1.scan]) br5 6 (.bool x1.scan) rfl
    have hm6 := Kd.R_set hm5 br5 (fun q hq => by rw [List.mem_singleton.1 hq]; decide) 6 (.bool x1.scan)
    have hs6 := Kd.R_set hs5 br5 (fun q hq => by rw [List.mem_singleton.1 hq]; decide) 6 (.bool x1.scan)
    have hb6 := below_set hb5 GR.out (j := 6) (v := .bool x1.scan)
    refine bodyPost_ret (results_ct rfl _ _ gr 28 #[.int .i64 x1.ph, .int .i64 x1.at_, .slice Am x1.marks.length cm, .slice As x1.stack.length cs, .bool x1.over, .bool x1.again, .bool x1.scan] (0, 0) _ rfl br6 Try.underlying28 rfl (by kernel_rfl)) rfl ?_
    exact ⟨_, _, by first | rfl | (simp; done), Kd.R_lower (Kd.R_mono hm6 (fun _ _ => trivial)) HB3.out.size, Kd.R_lower (Kd.R_mono hs6 (fun _ _ => trivial)) HB3.out.size, hb6⟩
   rw [if_pos hlt] at H
   have b1 : decide (c < units) = true := decide_eq_true hlt
   by_cases h3 : x1.ph = 3; rotate_left
   ·rw [if_neg h3] at H
    have b3 : (x1.ph == 3) = false := beq_eq_false_iff_ne.2 h3
    have b3' : (x1.ph != 3) = true := bne_iff_ne.2 h3
    obtain ⟨x2, hu, H⟩ := Option.bind_eq_some_iff.1 H
    have HN := ak H
    have HT := ak (wk_unit k w3 A0 c0 lc A1 c1 lr room (fun k => k < w3.heap.size) wr w3.heap.size g vm1 vs1 x1 x2 (Kd.C_below HR0.out HB3.out) HC0.out (Kd.C_below HR1.out HB3.out) HC1.out HY.out (fun _ hk => hk) HX.out (fun _ hk => Nat.lt_of_lt_of_le hk HY.out.size) HY.out.size hu)
    clear h3 hlt H hu HU0
    go_wp2_with (first | (go_at_call 37; (with_reducible refine HT.out.mono ?_); rintro e w5 ⟨⟨v, rfl⟩, vm5, vs5, hw5, hk5⟩; have HV5 := ak (HY.out.trans (hk5.below (fun _ hk => hk) HY.out.size)); have HW5 := ak hw5; clear hw5 hk5))
    go_roundg k1
    case measure => have := HK1.out; omega
    case rel => exact ⟨_, x2, vm5, vs5, rfl, HW5, HV5, HN, ⟨by have := HK1.out; omega⟩⟩
   rw [if_pos h3] at H
   obtain rfl := Option.some.inj H
   have b3 : (x1.ph == 3) = true := beq_iff_eq.2 h3
   have b3' : (x1.ph != 3) = false := bne_eq_false_iff_eq.2 h3
   clear h3 hlt H HU0 d3
   obtain ⟨Am, cm, rfl⟩ := Kd.R_slice HX.out.m
   obtain ⟨As, cs, rfl⟩ := Kd.R_slice HX.out.s
   have c3_ : wr.cell? ⟨g, 3, none⟩ = some (.int .i64 x1.ph) := (blk_cell HX.out.blk 3).trans rfl
   have c4_ : wr.cell? ⟨g, 4, none⟩ = some (.int .i64 x1.at_) := (blk_cell HX.out.blk 4).trans rfl
   have c5_ : wr.cell? ⟨g, 5, none⟩ = some (.slice Am x1.marks.length cm) := (blk_cell HX.out.blk 5).trans rfl
   have c6_ : wr.cell? ⟨g, 6, none⟩ = some (.slice As x1.stack.length cs) := (blk_cell HX.out.blk 6).trans rfl
   have c7_ : wr.cell? ⟨g, 7, none⟩ = some (.bool x1.over) := (blk_cell HX.out.blk 7).trans rfl
   have c8_ : wr.cell? ⟨g, 8, none⟩ = some (.bool x1.again) := (blk_cell HX.out.blk 8).trans rfl
   have c9_ : wr.cell? ⟨g, 9, none⟩ = some (.bool x1.scan) := (blk_cell HX.out.blk 9).trans rfl
   have y0 : wr.cell? ⟨gr, 0, none⟩ = some (.int .i64 0) := (blk_cell hBR.out 0).trans rfl
   have fy0 := blk_frozen hBR.out 0
   have y1 : wr.cell? ⟨gr, 1, none⟩ = some (.int .i64 0) := (blk_cell hBR.out 1).trans rfl
   have fy1 := blk_frozen hBR.out 1
   have y2 : wr.cell? ⟨gr, 2, none⟩ = some (.slice none 0 0) := (blk_cell hBR.out 2).trans rfl
   have fy2 := blk_frozen hBR.out 2
   have y3 : wr.cell? ⟨gr, 3, none⟩ = some (.slice none 0 0) := (blk_cell hBR.out 3).trans rfl
   have fy3 := blk_frozen hBR.out 3
   have y4 : wr.cell? ⟨gr, 4, none⟩ = some (.bool false) := (blk_cell hBR.out 4).trans rfl
   have fy4 := blk_frozen hBR.out 4
   have y5 : wr.cell? ⟨gr, 5, none⟩ = some (.bool false) := (blk_cell hBR.out 5).trans rfl
   have fy5 := blk_frozen hBR.out 5
   have y6 : wr.cell? ⟨gr, 6, none⟩ = some (.bool false) := (blk_cell hBR.out 6).trans rfl
   have fy6 := blk_frozen hBR.out 6
   have ngr := blk_ne HX.out.blk hBR.out (by decide)
   have ngr' := Ne.symm ngr
   go_wp2
   clear c3_ c4_ c5_ c6_ c7_ c8_ c9_ y0 fy0 y1 fy1 y2 fy2 y3 fy3 y4 fy4 y5 fy5 y6 fy6
   have br0 := blk_put (cs' := #[.int .i64 x1.ph, .int .i64 0, .slice none 0 0, .slice none 0 0, .bool false, .bool false, .bool false]) hBR.out 0 (.int .i64 x1.ph) rfl
   have hm0 := Kd.R_set HX.out.m hBR.out (fun q hq => by rw [List.mem_singleton.1 hq]; decide) 0 (.int .i64 x1.ph)
   have hs0 := Kd.R_set HX.out.s hBR.out (fun q hq => by rw [List.mem_singleton.1 hq]; decide) 0 (.int .i64 x1.ph)
   have hb0 := below_set hBB.out GR.out (j := 0) (v := .int .i64 x1.ph)
   have br1 := blk_put (cs' := #[.int .i64 x1.ph, .int .i64 x1.at_, .slice none 0 0, .slice none 0 0, .bool false, .bool false, .bool false]) br0 1 (.int .i64 x1.at_) rfl
   have hm1 := Kd.R_set hm0 br0 (fun q hq => by rw [List.mem_singleton.1 hq]; decide) 1 (.int .i64 x1.at_)
   have hs1 := Kd.R_set hs0 br0 (fun q hq => by rw [List.mem_singleton.1 hq]; decide) 1 (.int .i64 x1.at_)
   have hb1 := below_set hb0 GR.out (j := 1) (v := .int .i64 x1.at_)
   have br2 := blk_put (cs' := #[.int .i64 x1.ph, .int .i64 x1.at_, .slice Am x1.marks.length cm, .slice none 0 0, .bool false, .bool false, .bool false]) br1 2 (.slice Am x1.marks.length cm) rfl
   have hm2 := Kd.R_set hm1 br1 (fun q hq => by rw [List.mem_singleton.1 hq]; decide) 2 (.slice Am x1.marks.length cm)
   have hs2 := Kd.R_set hs1 br1 (fun q hq => by rw [List.mem_singleton.1 hq]; decide) 2 (.slice Am x1.marks.length cm)
   have hb2 := below_set hb1 GR.out (j := 2) (v := .slice Am x1.marks.length cm)
   have br3 := blk_put (cs' := #[.int .i64 x1.ph, .int .i64 x1.at_, .slice Am x1.marks.length cm, .slice As x1.stack.length cs, .bool false, .bool false, .bool false]) br2 3 (.slice As x1.stack.length cs) rfl
   have hm3 := Kd.R_set hm2 br2 (fun q hq => by rw [List.mem_singleton.1 hq]; decide) 3 (.slice As x1.stack.length cs)
   have hs3 := Kd.R_set hs2 br2 (fun q hq => by rw [List.mem_singleton.1 hq]; decide) 3 (.slice As x1.stack.length cs)
   have hb3 := below_set hb2 GR.out (j := 3) (v := .slice As x1.stack.length cs)
   have br4 := blk_put (cs' := #[.int .i64 x1.ph, .int .i64 x1.at_, .slice Am x1.marks.length cm, .slice As x1.stack.length cs, .bool x1.over, .bool false, .bool false]) br3 4 (.bool x1.over) rfl
   have hm4 := Kd.R_set hm3 br3 (fun q hq => by rw [List.mem_singleton.1 hq]; decide) 4 (.bool x1.over)
   have hs4 := Kd.R_set hs3 br3 (fun q hq => by rw [List.mem_singleton.1 hq]; decide) 4 (.bool x1.over)
   have hb4 := below_set hb3 GR.out (j := 4) (v := .bool x1.over)
   have br5 := blk_put (cs' := #[.int .i64 x1.ph, .int .i64 x1.at_, .slice Am x1.marks.length cm, .slice As x1.stack.length cs, .bool x1.over, .bool x1.again, .bool false]) br4 5 (.bool x1.again) rfl
   have hm5 := Kd.R_set hm4 br4 (fun q hq => by rw [List.mem_singleton.1 hq]; decide) 5 (.bool x1.again)
   have hs5 := Kd.R_set hs4 br4 (fun q hq => by rw [List.mem_singleton.1 hq]; decide) 5 (.bool x1.again)
   have hb5 := below_set hb4 GR.out (j := 5) (v := .bool x1.again)
   have br6 := blk_put (cs' := #[.int .i64 x1.ph, .int .i64 x1.at_, .slice Am x1.marks.length cm, .slice As x1.stack.length cs, .bool x1.over, .bool x1.again, .bool x1.scan]) br5 6 (.bool x1.scan) rfl
   have hm6 := Kd.R_set hm5 br5 (fun q hq => by rw [List.mem_singleton.1 hq]; decide) 6 (.bool x1.scan)
   have hs6 := Kd.R_set hs5 br5 (fun q hq => by rw [List.mem_singleton.1 hq]; decide) 6 (.bool x1.scan)
   have hb6 := below_set hb5 GR.out (j := 6) (v := .bool x1.scan)
   refine bodyPost_ret (results_ct rfl _ _ gr 28 #[.int .i64 x1.ph, .int .i64 x1.at_, .slice Am x1.marks.length cm, .slice As x1.stack.length cs, .bool x1.over, .bool x1.again, .bool x1.scan] (0, 0) _ rfl br6 Try.underlying28 rfl (by kernel_rfl)) rfl ?_
   exact ⟨_, _, by first | rfl | (simp; done), Kd.R_lower (Kd.R_mono hm6 (fun _ _ => trivial)) HB3.out.size, Kd.R_lower (Kd.R_mono hs6 (fun _ _ => trivial)) HB3.out.size, hb6⟩
section
variable {cf cf' : List Bool → Int → Option (List Int)} {pf : List Bool → Option Bool}
theorem MS.from_mono (h : ∀ m i, LeO (cf m i) (cf' m i)) (room : Int) (s : MS) (i : Int) : LeO (MS.from_ cf room s i) (MS.from_ cf' room s i) := LeO.bind (h _ _) (fun _ => LeO.refl _)
theorem MS.unit_mono (h : ∀ m i, LeO (cf m i) (cf' m i)) (n : Nat) (lr : List Int) (room : Int) (s : MS) : LeO (MS.unit cf pf n lr room s) (MS.unit cf' pf n lr room s) := by
 unfold MS.unit
 refine LeO.ite (LeO.refl _) (LeO.ite ?_ (LeO.ite ?_ (LeO.refl _)))
 ·unfold MS.drain
  exact LeO.ite (LeO.bind (MS.from_mono h _ _ _) (fun _ => LeO.refl _)) (LeO.refl _)
 ·unfold MS.scan_
  exact LeO.ite (LeO.ite (LeO.ite (LeO.bind (MS.from_mono h _ _ _) (fun _ => LeO.refl _)) (LeO.refl _)) (LeO.refl _)) (LeO.refl _)
theorem MS.run_mono (h : ∀ m i, LeO (cf m i) (cf' m i)) (n : Nat) (lr : List Int) (room : Int) : ∀ (k : Nat) (s : MS) (u c : Int), LeO (MS.run cf pf n lr room k s u c) (MS.run cf' pf n lr room (k + 1) s u c)
 | 0, s, u, c => fun r hr => by simp [MS.run] at hr
 | k + 1, s, u, c => by
  rw [MS.run, MS.run]
  exact LeO.ite (LeO.ite (LeO.refl _) (LeO.bind (MS.unit_mono h n lr room s) (fun s' => MS.run_mono h n lr room k s' u _))) (LeO.refl _)
end
theorem mark_Run.mono : ∀ a0 a1 a2 a3 a4 a5 a6 a7 a8 a9 a10 k, LeO (mark_Run.f k a0 a1 a2 a3 a4 a5 a6 a7 a8 a9 a10) (mark_Run.f (k + 1) a0 a1 a2 a3 a4 a5 a6 a7 a8 a9 a10) :=
 fun a0 a1 a2 a3 a4 a5 a6 a7 a8 a9 a10 k => LeO.ite (LeO.bind (mark_Check.mono _ _ _ _ _ _ _ _ _ _ k) (fun _ => LeO.ite (LeO.bind (MS.run_mono (fun _ _ => mark_counts.mono _ _ _ _ k) _ _ _ k _ _ _) (fun _ => LeO.refl _)) (LeO.refl _))) (LeO.refl _)
/-! ### slices_Equal_int_int: function 23 -/
def slices_Equal_int_int.l0 : Nat → List Int → List Int → Int → Int → Option (Bool)
 | 0, _, _, _, _ => none
 | k + 1, x0, x1, x12, x13 => if x13 < x12 then (if 0 ≤ x13 then (if x13 < (x0.length : Int) then (if x13 < (x1.length : Int) then (if (rd x0 x13) = (rd x1 x13) then (slices_Equal_int_int.l0 k x0 x1 x12 (wrap64 (x13 + 1))) else (some false)) else (none)) else (none)) else (none)) else (some true)
def slices_Equal_int_int.f (k : Nat) (l0 : List Int) (l1 : List Int) : Option (Bool) := if (l0.length : Int) = (l1.length : Int) then (slices_Equal_int_int.l0 k l0 l1 (l0.length : Int) 0) else (some false)
theorem slices_Equal_int_int.mono_l : ∀ k, (∀ y0 y1 y2 y3, LeO (slices_Equal_int_int.l0 k y0 y1 y2 y3) (slices_Equal_int_int.l0 (k + 1) y0 y1 y2 y3))
 | 0 => fun _ _ _ _ r h => by simp [slices_Equal_int_int.l0] at h
 | k + 1 => by
  have ih0 := slices_Equal_int_int.mono_l k
  ·intro y0 y1 y2 y3
   unfold slices_Equal_int_int.l0
   repeat' first | (with_reducible first | exact ih0 _ _ _ _ | exact LeO.refl _ | exact LeO.none _ | refine LeO.ite ?_ ?_ | refine LeO.bind ?_ (fun _ => ?_)) | exact ih0 _ _ _ _ | exact LeO.none _ | refine LeO.ite ?_ ?_ | refine LeO.bind ?_ (fun _ => ?_)
theorem slices_Equal_int_int.mono : ∀ a0 a1 k, LeO (slices_Equal_int_int.f k a0 a1) (slices_Equal_int_int.f (k + 1) a0 a1) := by
 intro a0 a1 k
 have ih0 := slices_Equal_int_int.mono_l k
 unfold slices_Equal_int_int.f
 repeat' first | (with_reducible first | exact ih0 _ _ _ _ | exact LeO.refl _ | exact LeO.none _ | refine LeO.ite ?_ ?_ | refine LeO.bind ?_ (fun _ => ?_)) | exact ih0 _ _ _ _ | exact LeO.none _ | refine LeO.ite ?_ ?_ | refine LeO.bind ?_ (fun _ => ?_)
set_option maxHeartbeats 8000000 in
set_option maxRecDepth 100000 in
theorem slices_Equal_int_int.calls (k : Nat) (A0 : Option Addr) (c0 : Nat) (l0 : List Int) (A1 : Option Addr) (c1 : Nat) (l1 : List Int) (r : Bool) (w : World) (hr0 : Kd.C (Kd.int .i64) w A0 l0.length l0) (hc0 : l0.length ≤ c0) (hr1 : Kd.C (Kd.int .i64) w A1 l1.length l1) (hc1 : l1.length ≤ c1) (h : slices_Equal_int_int.f k l0 l1 = some r) :
  Calls Try.prog 23 #[.slice A0 l0.length c0, .slice A1 l1.length c1] w fun e w' => e = .returned (.bool r) ∧ Drawn0 w w' := by
 have HR0 := ak hr0
 have HC0 := ak hc0
 clear hr0 hc0
 have HR1 := ak hr1
 have HC1 := ak hc1
 clear hr1 hc1
 have H : (if (l0.length : Int) = (l1.length : Int) then (slices_Equal_int_int.l0 k l0 l1 (l0.length : Int) 0) else (some false)) = some r := h
 clear h
 by_cases c3 : (l0.length : Int) = (l1.length : Int); rotate_left
 ·rw [if_neg c3] at H
  have c3b0 : ((l0.length : Int) == (l1.length : Int)) = false := beq_eq_false_iff_ne.mpr c3
  have c3b1 : ((l0.length : Int) != (l1.length : Int)) = true := bne_iff_ne.mpr c3
  have c3b2 : (l0.length == l1.length) = false := by first | simpa using c3 | (simp at c3 ⊢; omega)
  obtain rfl := Option.some.inj H
  go_enter Try.func23, Try.ntmps23
  go_wp2
  repeat (go_quiet (fail); try go_wp2)
  go_ret
  exact ⟨by first | rfl | (simp; done) | (simp [*]; done) | (simp [Int.tdiv_eq_ediv_of_nonneg]; done), by repeat (first | exact Drawn0.refl _ | apply Drawn0.step)⟩
 rw [if_pos c3] at H
 have c3b0 : ((l0.length : Int) == (l1.length : Int)) = true := beq_iff_eq.mpr c3
 have c3b1 : ((l0.length : Int) != (l1.length : Int)) = false := bne_eq_false_iff_eq.mpr c3
 have c3b2 : (l0.length == l1.length) = true := by first | simpa using c3 | (simp at c3 ⊢; omega)
 clear c3
 have H' := ak H
 clear H
 go_enter Try.func23, Try.ntmps23
 go_wp2
 repeat (go_quiet (fail); try go_wp2)
 go_loopg [13] k (fun kq v13 w' => ∃ (x13_1 : Int), v13 = .int .i64 x13_1 ∧ Aside0 (slices_Equal_int_int.l0 kq l0 l1 (l0.length : Int) x13_1 = some r) ∧ Aside0 (kq ≤ k) ∧ Drawn0 w w')
 case atStart => exact ⟨(0), (by first | rfl | (simp; done) | (simp [*]; done) | (simp [Int.tdiv_eq_ediv_of_nonneg]; done)), H', ⟨Nat.le_refl _⟩, by repeat (first | exact Drawn0.refl _ | apply Drawn0.step)⟩
 case round =>
  clear H'
  (try clear c1); (try clear c2); (try clear p2); (try clear c3); (try clear c3b0); (try clear c3b1); (try clear c3b2)
  obtain ⟨x13_1, rfl, HA, HK1, ⟨m1, rfl⟩⟩ := hrel
  cases gk with
  | zero => exact absurd HA.out (by simp [slices_Equal_int_int.l0])
  | succ k1 =>
   have H := HA.out
   clear HA
   simp only [slices_Equal_int_int.l0] at H
   by_cases c4 : x13_1 < (l0.length : Int); rotate_left
   ·rw [if_neg c4] at H
    have c4b0 : decide (x13_1 < (l0.length : Int)) = false := decide_eq_false c4
    clear c4
    obtain rfl := Option.some.inj H
    go_wp2
    repeat (go_quiet (fail); try go_wp2)
    go_ret
    exact ⟨by first | rfl | (simp; done) | (simp [*]; done) | (simp [Int.tdiv_eq_ediv_of_nonneg]; done), by repeat (first | exact Drawn0.refl _ | apply Drawn0.step)⟩
   rw [if_pos c4] at H
   have c4b0 : decide (x13_1 < (l0.length : Int)) = true := decide_eq_true c4
   clear c4
   by_cases c5 : 0 ≤ x13_1; rotate_left
   ·rw [if_neg c5] at H
    exact absurd H (by simp)
   rw [if_pos c5] at H
   have c5b0 : decide (0 ≤ x13_1) = true := decide_eq_true c5
   clear c5
   by_cases c6 : x13_1 < (l0.length : Int); rotate_left
   ·rw [if_neg c6] at H
    exact absurd H (by simp)
   rw [if_pos c6] at H
   have c6b0 : decide (x13_1 < (l0.length : Int)) = true := decide_eq_true c6
   clear c6
   by_cases c7 : x13_1 < (l1.length : Int); rotate_left
   ·rw [if_neg c7] at H
    exact absurd H (by simp)
   rw [if_pos c7] at H
   have c7b0 : decide (x13_1 < (l1.length : Int)) = true := decide_eq_true c7
   clear c7
   by_cases c8 : (rd l0 x13_1) = (rd l1 x13_1); rotate_left
   ·rw [if_neg c8] at H
    have c8b0 : ((rd l0 x13_1) == (rd l1 x13_1)) = false := beq_eq_false_iff_ne.mpr c8
    have c8b1 : ((rd l0 x13_1) != (rd l1 x13_1)) = true := bne_iff_ne.mpr c8
    obtain rfl := Option.some.inj H
    have p143 : 0 ≤ (x13_1 : Int) := of_decide_eq_true (by first | (with_reducible assumption) | assumption)
    have q143 : x13_1 < (l0.length : Int) := of_decide_eq_true (by first | (with_reducible assumption) | assumption)
    obtain ⟨ad143, e143, hx143_0⟩ := Kd.at_int HR0.out x13_1 p143 q143
    cases e143
    replace p143 := eq_true p143
    replace q143 := eq_true q143
    have p144 : 0 ≤ (x13_1 : Int) := of_decide_eq_true (by first | (with_reducible assumption) | assumption)
    have q144 : x13_1 < (l1.length : Int) := of_decide_eq_true (by first | (with_reducible assumption) | assumption)
    obtain ⟨ad144, e144, hx144_0⟩ := Kd.at_int HR1.out x13_1 p144 q144
    cases e144
    replace p144 := eq_true p144
    replace q144 := eq_true q144
    go_wp2
    repeat (go_quiet (fail); try go_wp2)
    go_ret
    exact ⟨by first | rfl | (simp; done) | (simp [*]; done) | (simp [Int.tdiv_eq_ediv_of_nonneg]; done), by repeat (first | exact Drawn0.refl _ | apply Drawn0.step)⟩
   rw [if_pos c8] at H
   have c8b0 : ((rd l0 x13_1) == (rd l1 x13_1)) = true := beq_iff_eq.mpr c8
   have c8b1 : ((rd l0 x13_1) != (rd l1 x13_1)) = false := bne_eq_false_iff_eq.mpr c8
   clear c8
   have H' := ak H
   clear H
   have p143 : 0 ≤ (x13_1 : Int) := of_decide_eq_true (by first | (with_reducible assumption) | assumption)
   have q143 : x13_1 < (l0.length : Int) := of_decide_eq_true (by first | (with_reducible assumption) | assumption)
   obtain ⟨ad143, e143, hx143_0⟩ := Kd.at_int HR0.out x13_1 p143 q143
   cases e143
   replace p143 := eq_true p143
   replace q143 := eq_true q143
   have p144 : 0 ≤ (x13_1 : Int) := of_decide_eq_true (by first | (with_reducible assumption) | assumption)
   have q144 : x13_1 < (l1.length : Int) := of_decide_eq_true (by first | (with_reducible assumption) | assumption)
   obtain ⟨ad144, e144, hx144_0⟩ := Kd.at_int HR1.out x13_1 p144 q144
   cases e144
   replace p144 := eq_true p144
   replace q144 := eq_true q144
   go_wp2
   repeat (go_quiet (fail); try go_wp2)
   go_roundg k1
   case measure => have := HK1.out; omega
   case rel => exact ⟨(wrap64 (x13_1 + 1)), (by first | rfl | (simp; done) | (simp [*]; done) | (simp [Int.tdiv_eq_ediv_of_nonneg]; done)), H', ⟨by have := HK1.out; omega⟩, by repeat (first | exact Drawn0.refl _ | apply Drawn0.step)⟩
/-! ### slices_Equal_bool_bool: function 31 -/
def slices_Equal_bool_bool.l0 : Nat → List Bool → List Bool → Int → Int → Option (Bool)
 | 0, _, _, _, _ => none
 | k + 1, x0, x1, x12, x13 => if x13 < x12 then (if 0 ≤ x13 then (if x13 < (x0.length : Int) then (if x13 < (x1.length : Int) then (if ((rdOf false x0 x13) != (rdOf false x1 x13)) = true then (some false) else (slices_Equal_bool_bool.l0 k x0 x1 x12 (wrap64 (x13 + 1)))) else (none)) else (none)) else (none)) else (some true)
def slices_Equal_bool_bool.f (k : Nat) (l0 : List Bool) (l1 : List Bool) : Option (Bool) := if (l0.length : Int) = (l1.length : Int) then (slices_Equal_bool_bool.l0 k l0 l1 (l0.length : Int) 0) else (some false)
theorem slices_Equal_bool_bool.mono_l : ∀ k, (∀ y0 y1 y2 y3, LeO (slices_Equal_bool_bool.l0 k y0 y1 y2 y3) (slices_Equal_bool_bool.l0 (k + 1) y0 y1 y2 y3))
 | 0 => fun _ _ _ _ r h => by simp [slices_Equal_bool_bool.l0] at h
 | k + 1 => by
  have ih0 := slices_Equal_bool_bool.mono_l k
  ·intro y0 y1 y2 y3
   unfold slices_Equal_bool_bool.l0
   repeat' first | (with_reducible first | exact ih0 _ _ _ _ | exact LeO.refl _ | exact LeO.none _ | refine LeO.ite ?_ ?_ | refine LeO.bind ?_ (fun _ => ?_)) | exact ih0 _ _ _ _ | exact LeO.none _ | refine LeO.ite ?_ ?_ | refine LeO.bind ?_ (fun _ => ?_)
theorem slices_Equal_bool_bool.mono : ∀ a0 a1 k, LeO (slices_Equal_bool_bool.f k a0 a1) (slices_Equal_bool_bool.f (k + 1) a0 a1) := by
 intro a0 a1 k
 have ih0 := slices_Equal_bool_bool.mono_l k
 unfold slices_Equal_bool_bool.f
 repeat' first | (with_reducible first | exact ih0 _ _ _ _ | exact LeO.refl _ | exact LeO.none _ | refine LeO.ite ?_ ?_ | refine LeO.bind ?_ (fun _ => ?_)) | exact ih0 _ _ _ _ | exact LeO.none _ | refine LeO.ite ?_ ?_ | refine LeO.bind ?_ (fun _ => ?_)
set_option maxHeartbeats 8000000 in
set_option maxRecDepth 100000 in
theorem slices_Equal_bool_bool.calls (k : Nat) (A0 : Option Addr) (c0 : Nat) (l0 : List Bool) (A1 : Option Addr) (c1 : Nat) (l1 : List Bool) (r : Bool) (w : World) (hr0 : Kd.C Kd.bool w A0 l0.length l0) (hc0 : l0.length ≤ c0) (hr1 : Kd.C Kd.bool w A1 l1.length l1) (hc1 : l1.length ≤ c1) (h : slices_Equal_bool_bool.f k l0 l1 = some r) :
  Calls Try.prog 31 #[.slice A0 l0.length c0, .slice A1 l1.length c1] w fun e w' => e = .returned (.bool r) ∧ Drawn0 w w' := by
 have HR0 := ak hr0
 have HC0 := ak hc0
 clear hr0 hc0
 have HR1 := ak hr1
 have HC1 := ak hc1
 clear hr1 hc1
 have H : (if (l0.length : Int) = (l1.length : Int) then (slices_Equal_bool_bool.l0 k l0 l1 (l0.length : Int) 0) else (some false)) = some r := h
 clear h
 by_cases c3 : (l0.length : Int) = (l1.length : Int); rotate_left
 ·rw [if_neg c3] at H
  have c3b0 : ((l0.length : Int) == (l1.length : Int)) = false := beq_eq_false_iff_ne.mpr c3
  have c3b1 : ((l0.length : Int) != (l1.length : Int)) = true := bne_iff_ne.mpr c3
  have c3b2 : (l0.length == l1.length) = false := by first | simpa using c3 | (simp at c3 ⊢; omega)
  obtain rfl := Option.some.inj H
  go_enter Try.func31, Try.ntmps31
  go_wp2
  repeat (go_quiet (fail); try go_wp2)
  go_ret
  exact ⟨by first | rfl | (simp; done) | (simp [*]; done) | (simp [Int.tdiv_eq_ediv_of_nonneg]; done), by repeat (first | exact Drawn0.refl _ | apply Drawn0.step)⟩
 rw [if_pos c3] at H
 have c3b0 : ((l0.length : Int) == (l1.length : Int)) = true := beq_iff_eq.mpr c3
 have c3b1 : ((l0.length : Int) != (l1.length : Int)) = false := bne_eq_false_iff_eq.mpr c3
 have c3b2 : (l0.length == l1.length) = true := by first | simpa using c3 | (simp at c3 ⊢; omega)
 clear c3
 have H' := ak H
 clear H
 go_enter Try.func31, Try.ntmps31
 go_wp2
 repeat (go_quiet (fail); try go_wp2)
 go_loopg [13] k (fun kq v13 w' => ∃ (x13_1 : Int), v13 = .int .i64 x13_1 ∧ Aside0 (slices_Equal_bool_bool.l0 kq l0 l1 (l0.length : Int) x13_1 = some r) ∧ Aside0 (kq ≤ k) ∧ Drawn0 w w')
 case atStart => exact ⟨(0), (by first | rfl | (simp; done) | (simp [*]; done) | (simp [Int.tdiv_eq_ediv_of_nonneg]; done)), H', ⟨Nat.le_refl _⟩, by repeat (first | exact Drawn0.refl _ | apply Drawn0.step)⟩
 case round =>
  clear H'
  (try clear c1); (try clear p2); (try clear c3); (try clear c3b0); (try clear c3b1); (try clear c3b2)
  obtain ⟨x13_1, rfl, HA, HK1, ⟨m1, rfl⟩⟩ := hrel
  cases gk with
  | zero => exact absurd HA.out (by simp [slices_Equal_bool_bool.l0])
  | succ k1 =>
   have H := HA.out
   clear HA
   simp only [slices_Equal_bool_bool.l0] at H
   by_cases c4 : x13_1 < (l0.length : Int); rotate_left
   ·rw [if_neg c4] at H
    have c4b0 : decide (x13_1 < (l0.length : Int)) = false := decide_eq_false c4
    clear c4
    obtain rfl := Option.some.inj H
    go_wp2
    repeat (go_quiet (fail); try go_wp2)
    go_ret
    exact ⟨by first | rfl | (simp; done) | (simp [*]; done) | (simp [Int.tdiv_eq_ediv_of_nonneg]; done), by repeat (first | exact Drawn0.refl _ | apply Drawn0.step)⟩
   rw [if_pos c4] at H
   have c4b0 : decide (x13_1 < (l0.length : Int)) = true := decide_eq_true c4
   clear c4
   by_cases c5 : 0 ≤ x13_1; rotate_left
   ·rw [if_neg c5] at H
    exact absurd H (by simp)
   rw [if_pos c5] at H
   have c5b0 : decide (0 ≤ x13_1) = true := decide_eq_true c5
   clear c5
   by_cases c6 : x13_1 < (l0.length : Int); rotate_left
   ·rw [if_neg c6] at H
    exact absurd H (by simp)
   rw [if_pos c6] at H
   have c6b0 : decide (x13_1 < (l0.length : Int)) = true := decide_eq_true c6
   clear c6
   by_cases c7 : x13_1 < (l1.length : Int); rotate_left
   ·rw [if_neg c7] at H
    exact absurd H (by simp)
   rw [if_pos c7] at H
   have c7b0 : decide (x13_1 < (l1.length : Int)) = true := decide_eq_true c7
   clear c7
   by_cases c8 : ((rdOf false l0 x13_1) != (rdOf false l1 x13_1)) = true
   ·rw [if_pos c8] at H
    have c8b0 : ((rdOf false l0 x13_1) != (rdOf false l1 x13_1)) = true := c8
    (try (have c8b1 : decide ((rdOf false l0 x13_1) = (rdOf false l1 x13_1)) = false := by simpa using c8))
    (try (have c8b2 : ((rdOf false l0 x13_1) == (rdOf false l1 x13_1)) = false := by simpa using c8))
    (try (have c8b3 : ¬ ((rdOf false l0 x13_1) = (rdOf false l1 x13_1)) := by simpa using c8))
    clear c8
    obtain rfl := Option.some.inj H
    have p145 : 0 ≤ (x13_1 : Int) := of_decide_eq_true (by first | (with_reducible assumption) | assumption)
    have q145 : x13_1 < (l0.length : Int) := of_decide_eq_true (by first | (with_reducible assumption) | assumption)
    obtain ⟨ad145, e145, hx145_0⟩ := Kd.at_bool HR0.out x13_1 p145 q145
    cases e145
    replace p145 := eq_true p145
    replace q145 := eq_true q145
    have p146 : 0 ≤ (x13_1 : Int) := of_decide_eq_true (by first | (with_reducible assumption) | assumption)
    have q146 : x13_1 < (l1.length : Int) := of_decide_eq_true (by first | (with_reducible assumption) | assumption)
    obtain ⟨ad146, e146, hx146_0⟩ := Kd.at_bool HR1.out x13_1 p146 q146
    cases e146
    replace p146 := eq_true p146
    replace q146 := eq_true q146
    go_wp2
    repeat (go_quiet (fail); try go_wp2)
    go_ret
    exact ⟨by first | rfl | (simp; done) | (simp [*]; done) | (simp [Int.tdiv_eq_ediv_of_nonneg]; done), by repeat (first | exact Drawn0.refl _ | apply Drawn0.step)⟩
   rw [if_neg c8] at H
   have c8b0 : ((rdOf false l0 x13_1) != (rdOf false l1 x13_1)) = false := by simpa using c8
   (try (have c8b1 : decide ((rdOf false l0 x13_1) = (rdOf false l1 x13_1)) = true := by simpa using c8))
   (try (have c8b2 : ((rdOf false l0 x13_1) == (rdOf false l1 x13_1)) = true := by simpa using c8))
   clear c8
   have H' := ak H
   clear H
   have p145 : 0 ≤ (x13_1 : Int) := of_decide_eq_true (by first | (with_reducible assumption) | assumption)
   have q145 : x13_1 < (l0.length : Int) := of_decide_eq_true (by first | (with_reducible assumption) | assumption)
   obtain ⟨ad145, e145, hx145_0⟩ := Kd.at_bool HR0.out x13_1 p145 q145
   cases e145
   replace p145 := eq_true p145
   replace q145 := eq_true q145
   have p146 : 0 ≤ (x13_1 : Int) := of_decide_eq_true (by first | (with_reducible assumption) | assumption)
   have q146 : x13_1 < (l1.length : Int) := of_decide_eq_true (by first | (with_reducible assumption) | assumption)
   obtain ⟨ad146, e146, hx146_0⟩ := Kd.at_bool HR1.out x13_1 p146 q146
   cases e146
   replace p146 := eq_true p146
   replace q146 := eq_true q146
   go_wp2
   repeat (go_quiet (fail); try go_wp2)
   go_roundg k1
   case measure => have := HK1.out; omega
   case rel => exact ⟨(wrap64 (x13_1 + 1)), (by first | rfl | (simp; done) | (simp [*]; done) | (simp [Int.tdiv_eq_ediv_of_nonneg]; done)), H', ⟨by have := HK1.out; omega⟩, by repeat (first | exact Drawn0.refl _ | apply Drawn0.step)⟩
/-! ### mark_Same: function 13 -/
theorem eqB_dec (l l' : List Bool) (hl : l.length ≤ 9223372036854775807) : slices_Equal_bool_bool.f (l.length + 1) l l' = some (decide (l = l')) := by
 have key : ∀ (d j k : Nat), l.length = l'.length → j + d = l.length → d < k → (∀ i, i < j → l[i]? = l'[i]?) → slices_Equal_bool_bool.l0 k l l' (l.length : Int) (j : Int) = some (decide (l = l')) := by
  intro d
  induction d with
  | zero =>
   intro j k hll hj hk hi
   obtain ⟨k, rfl⟩ : ∃ k', k = k' + 1 := ⟨k - 1, by omega⟩
   rw [slices_Equal_bool_bool.l0, if_neg (by omega), decide_eq_true]
   refine List.ext_getElem? fun i => ?_
   by_cases h : i < j; rotate_left
   ·rw [List.getElem?_eq_none (by omega), List.getElem?_eq_none (by omega)]
   exact hi i h
  | succ d ih =>
   intro j k hll hj hk hi
   obtain ⟨k, rfl⟩ : ∃ k', k = k' + 1 := ⟨k - 1, by omega⟩
   have h1 : j < l.length := by omega
   have h2 : j < l'.length := by omega
   rw [slices_Equal_bool_bool.l0, if_pos (by omega), if_pos (by omega), if_pos (by omega), if_pos (by omega), show rdOf false l (j : Int) = l[j] from by simp [rdOf, h1], show rdOf false l' (j : Int) = l'[j] from by simp [rdOf, h2]]
   by_cases he : l[j] = l'[j]; rotate_left
   ·rw [if_pos (bne_iff_ne.2 he), decide_eq_false]
    intro e; subst e; exact he rfl
   rw [he, bne_self_eq_false, if_neg Bool.false_ne_true, show wrap64 ((j : Int) + 1) = ((j + 1 : Nat) : Int) from by unfold wrap64; omega]
   refine ih (j + 1) k hll (by omega) (by omega) fun i h => ?_
   by_cases e : i = j; rotate_left
   ·exact hi i (by omega)
   subst e; rw [List.getElem?_eq_getElem h1, List.getElem?_eq_getElem h2, he]
 unfold slices_Equal_bool_bool.f
 by_cases hll : l.length = l'.length; rotate_left
 ·rw [if_neg (by omega), decide_eq_false fun e => hll (by rw [e])]
 rw [if_pos (by omega), show (0 : Int) = ((0 : Nat) : Int) from rfl]
 exact key l.length 0 _ hll (by omega) (by omega) fun i h => absurd h (Nat.not_lt_zero _)
theorem eqI_dec (l l' : List Int) (hl : l.length ≤ 9223372036854775807) : slices_Equal_int_int.f (l.length + 1) l l' = some (decide (l = l')) := by
 have key : ∀ (d j k : Nat), l.length = l'.length → j + d = l.length → d < k → (∀ i, i < j → l[i]? = l'[i]?) → slices_Equal_int_int.l0 k l l' (l.length : Int) (j : Int) = some (decide (l = l')) := by
  intro d
  induction d with
  | zero =>
   intro j k hll hj hk hi
   obtain ⟨k, rfl⟩ : ∃ k', k = k' + 1 := ⟨k - 1, by omega⟩
   rw [slices_Equal_int_int.l0, if_neg (by omega), decide_eq_true]
   refine List.ext_getElem? fun i => ?_
   by_cases h : i < j; rotate_left
   ·rw [List.getElem?_eq_none (by omega), List.getElem?_eq_none (by omega)]
   exact hi i h
  | succ d ih =>
   intro j k hll hj hk hi
   obtain ⟨k, rfl⟩ : ∃ k', k = k' + 1 := ⟨k - 1, by omega⟩
   have h1 : j < l.length := by omega
   have h2 : j < l'.length := by omega
   rw [slices_Equal_int_int.l0, if_pos (by omega), if_pos (by omega), if_pos (by omega), if_pos (by omega), show rd l (j : Int) = l[j] from by simp [rd, h1], show rd l' (j : Int) = l'[j] from by simp [rd, h2]]
   by_cases he : l[j] = l'[j]; rotate_left
   ·rw [if_neg he, decide_eq_false]
    intro e; subst e; exact he rfl
   rw [if_pos he, show wrap64 ((j : Int) + 1) = ((j + 1 : Nat) : Int) from by unfold wrap64; omega]
   refine ih (j + 1) k hll (by omega) (by omega) fun i h => ?_
   by_cases e : i = j; rotate_left
   ·exact hi i (by omega)
   subst e; rw [List.getElem?_eq_getElem h1, List.getElem?_eq_getElem h2, he]
 unfold slices_Equal_int_int.f
 by_cases hll : l.length = l'.length; rotate_left
 ·rw [if_neg (by omega), decide_eq_false fun e => hll (by rw [e])]
 rw [if_pos (by omega), show (0 : Int) = ((0 : Nat) : Int) from rfl]
 exact key l.length 0 _ hll (by omega) (by omega) fun i h => absurd h (Nat.not_lt_zero _)
def mark_Same.f (a0_0 : Int) (a0_1 : Int) (l0_2 : List Bool) (l0_3 : List Int) (a0_4 : Bool) (a0_5 : Bool) (a0_6 : Bool) (a1_0 : Int) (a1_1 : Int) (l1_2 : List Bool) (l1_3 : List Int) (a1_4 : Bool) (a1_5 : Bool) (a1_6 : Bool) : Option Bool := some (decide (a0_0 = a1_0 ∧ a0_1 = a1_1 ∧ l0_2 = l1_2 ∧ l0_3 = l1_3 ∧ a0_4 = a1_4 ∧ a0_5 = a1_5 ∧ a0_6 = a1_6))
set_option maxHeartbeats 4000000 in
set_option maxRecDepth 100000 in
theorem mark_Same.calls (a0_0 : Int) (a0_1 : Int) (A0_2 : Option Addr) (c0_2 : Nat) (l0_2 : List Bool) (A0_3 : Option Addr) (c0_3 : Nat) (l0_3 : List Int) (a0_4 : Bool) (a0_5 : Bool) (a0_6 : Bool) (a1_0 : Int) (a1_1 : Int) (A1_2 : Option Addr) (c1_2 : Nat) (l1_2 : List Bool) (A1_3 : Option Addr) (c1_3 : Nat) (l1_3 : List Int) (a1_4 : Bool) (a1_5 : Bool) (a1_6 : Bool) (r : Bool) (w : World) (hr0_2 : Kd.C Kd.bool w A0_2 l0_2.length l0_2) (hc0_2 : l0_2.length ≤ c0_2) (hr0_3 : Kd.C (Kd.int .i64) w A0_3 l0_3.length l0_3) (hc0_3 : l0_3.length ≤ c0_3) (hr1_2 : Kd.C Kd.bool w A1_2 l1_2.length l1_2) (hc1_2 : l1_2.length ≤ c1_2) (hr1_3 : Kd.C (Kd.int .i64) w A1_3 l1_3.length l1_3) (hc1_3 : l1_3.length ≤ c1_3) (h : mark_Same.f a0_0 a0_1 l0_2 l0_3 a0_4 a0_5 a0_6 a1_0 a1_1 l1_2 l1_3 a1_4 a1_5 a1_6 = some r) :
  Calls Try.prog 13 #[.agg #[.int .i64 a0_0, .int .i64 a0_1, .slice A0_2 l0_2.length c0_2, .slice A0_3 l0_3.length c0_3, .bool a0_4, .bool a0_5, .bool a0_6], .agg #[.int .i64 a1_0, .int .i64 a1_1, .slice A1_2 l1_2.length c1_2, .slice A1_3 l1_3.length c1_3, .bool a1_4, .bool a1_5, .bool a1_6]] w fun e w' => e = .returned (.bool r) ∧ Below w.heap.size w w' := by
 have hu28 := Try.underlying28
 have HR := ak (Option.some.inj h).symm
 have HQB := ak (fun wd (hd : Below w.heap.size w wd) => slices_Equal_bool_bool.calls (l0_2.length + 1) A0_2 c0_2 l0_2 A1_2 c1_2 l1_2 (decide (l0_2 = l1_2)) wd (Kd.C_below hr0_2 hd) hc0_2 (Kd.C_below hr1_2 hd) hc1_2 (eqB_dec l0_2 l1_2 hr0_2.2.1))
 have HQI := ak (fun wd (hd : Below w.heap.size w wd) => slices_Equal_int_int.calls (l0_3.length + 1) A0_3 c0_3 l0_3 A1_3 c1_3 l1_3 (decide (l0_3 = l1_3)) wd (Kd.C_below hr0_3 hd) hc0_3 (Kd.C_below hr1_3 hd) hc1_3 (eqI_dec l0_3 l1_3 hr0_3.2.1))
 clear h hr0_2 hr0_3 hr1_2 hr1_3
 go_enter Try.func13, Try.ntmps13
 go_upto_region 1 with (first | ((with_reducible refine gate_dst (N := 2) rfl ?_); refine box_event ?hg (N := 2) ?hd (cs := #[.int .i64 a0_0, .int .i64 a0_1, .slice A0_2 l0_2.length c0_2, .slice A0_3 l0_3.length c0_3, .bool a0_4, .bool a0_5, .bool a0_6]) (t := 28) ?hr ?_; (case hd => rfl); (case hg => rfl); (case hr => first | (go_simp; done) | (go_simp; rfl)); intro ga hg w1 hb_ hx_; have HB1 := ak hx_; have BA1 := ak hb_; clear hg hb_ hx_) | ((with_reducible refine gate_dst (N := 3) rfl ?_); refine box_event ?hg (N := 3) ?hd (cs := #[.int .i64 a1_0, .int .i64 a1_1, .slice A1_2 l1_2.length c1_2, .slice A1_3 l1_3.length c1_3, .bool a1_4, .bool a1_5, .bool a1_6]) (t := 28) ?hr ?_; (case hd => rfl); (case hg => rfl); (case hr => first | (go_simp; done) | (go_simp; rfl)); intro gb hg w2 hb_ hx_; have HB := ak (HB1.out.trans (hx_.mono HB1.out.size)); have BA := ak (blk_below BA1.out hx_); have BB := ak hb_; clear hg hb_ hx_ HB1 BA1; have x0 : w2.cell? ⟨ga, 0, none⟩ = some (.int .i64 a0_0) := (blk_cell BA.out 0).trans rfl; have y0 : w2.cell? ⟨gb, 0, none⟩ = some (.int .i64 a1_0) := (blk_cell BB.out 0).trans rfl; have x1 : w2.cell? ⟨ga, 1, none⟩ = some (.int .i64 a0_1) := (blk_cell BA.out 1).trans rfl; have y1 : w2.cell? ⟨gb, 1, none⟩ = some (.int .i64 a1_1) := (blk_cell BB.out 1).trans rfl; have x2 : w2.cell? ⟨ga, 2, none⟩ = some (.slice A0_2 l0_2.length c0_2) := (blk_cell BA.out 2).trans rfl; have y2 : w2.cell? ⟨gb, 2, none⟩ = some (.slice A1_2 l1_2.length c1_2) := (blk_cell BB.out 2).trans rfl; have x3 : w2.cell? ⟨ga, 3, none⟩ = some (.slice A0_3 l0_3.length c0_3) := (blk_cell BA.out 3).trans rfl; have y3 : w2.cell? ⟨gb, 3, none⟩ = some (.slice A1_3 l1_3.length c1_3) := (blk_cell BB.out 3).trans rfl; have x4 : w2.cell? ⟨ga, 4, none⟩ = some (.bool a0_4) := (blk_cell BA.out 4).trans rfl; have y4 : w2.cell? ⟨gb, 4, none⟩ = some (.bool a1_4) := (blk_cell BB.out 4).trans rfl; have x5 : w2.cell? ⟨ga, 5, none⟩ = some (.bool a0_5) := (blk_cell BA.out 5).trans rfl; have y5 : w2.cell? ⟨gb, 5, none⟩ = some (.bool a1_5) := (blk_cell BB.out 5).trans rfl; have x6 : w2.cell? ⟨ga, 6, none⟩ = some (.bool a0_6) := (blk_cell BA.out 6).trans rfl; have y6 : w2.cell? ⟨gb, 6, none⟩ = some (.bool a1_6) := (blk_cell BB.out 6).trans rfl))
 by_cases e1 : a0_0 = a1_0; rotate_left
 ·have b : (a0_0 == a1_0) = false := beq_eq_false_iff_ne.2 e1
  have hr : r = false := HR.out.trans (decide_eq_false (fun h => e1 h.1))
  clear e1 HR
  subst hr
  go_wp2
  go_ret
  exact ⟨rfl, HB.out⟩
 subst e1
 have b1 : (a0_0 == a0_0) = true := beq_iff_eq.2 rfl
 by_cases e2 : a0_1 = a1_1; rotate_left
 ·have b : (a0_1 == a1_1) = false := beq_eq_false_iff_ne.2 e2
  have hr : r = false := HR.out.trans (decide_eq_false (fun h => e2 h.2.1))
  clear e2 HR
  subst hr
  go_wp2
  go_ret
  exact ⟨rfl, HB.out⟩
 subst e2
 have b2 : (a0_1 == a0_1) = true := beq_iff_eq.2 rfl
 by_cases e5 : a0_4 = a1_4; rotate_left
 ·have hr : r = false := HR.out.trans (decide_eq_false (fun h => e5 h.2.2.2.2.1))
  clear HR
  subst hr
  cases a0_4 <;> cases a1_4 <;> first | exact absurd rfl e5 | (clear e5; go_wp2; go_ret; exact ⟨rfl, HB.out⟩)
 subst e5
 by_cases e6 : a0_5 = a1_5; rotate_left
 ·have hr : r = false := HR.out.trans (decide_eq_false (fun h => e6 h.2.2.2.2.2.1))
  clear HR
  subst hr
  cases a0_5 <;> cases a1_5 <;> first | exact absurd rfl e6 | (clear e6; go_wp2; go_ret; exact ⟨rfl, HB.out⟩)
 subst e6
 by_cases e7 : a0_6 = a1_6; rotate_left
 ·have hr : r = false := HR.out.trans (decide_eq_false (fun h => e7 h.2.2.2.2.2.2))
  clear HR
  subst hr
  cases a0_6 <;> cases a1_6 <;> first | exact absurd rfl e7 | (clear e7; go_wp2; go_ret; exact ⟨rfl, HB.out⟩)
 subst e7
 by_cases e3 : l0_2 = l1_2; rotate_left
 ·have hr : r = false := HR.out.trans (decide_eq_false (fun h => e3 h.2.2.1))
  have HQB2 := HQB
  rw [decide_eq_false e3] at HQB2
  clear HR HQB e3
  subst hr
  go_wp2_with (first | (go_at_call 31; (with_reducible refine (HQB2.out _ HB.out).mono ?_); rintro e w' ⟨rfl, ⟨nd, rfl⟩⟩))
  go_ret
  exact ⟨rfl, pw_below_drewN HB.out _⟩
 rw [decide_eq_true e3] at HQB
 have hr : r = decide (l0_3 = l1_3) := HR.out.trans (by rw [decide_eq_decide]; exact ⟨fun h => h.2.2.2.1, fun h => ⟨rfl, rfl, e3, h, rfl, rfl, rfl⟩⟩)
 clear HR e3
 subst hr
 go_wp2_with (first | (go_at_call 31; (with_reducible refine (HQB.out _ HB.out).mono ?_); rintro e w' ⟨rfl, ⟨nd, rfl⟩⟩) | (go_at_call 23; (with_reducible refine (HQI.out _ (pw_below_drewN HB.out _)).mono ?_); rintro e w' ⟨rfl, ⟨nd2, rfl⟩⟩))
 go_ret
 exact ⟨rfl, pw_below_drewN HB.out _⟩
/-! ### atticlaw19_plain: function 35 -/
def atticlaw19_plain.f  : Option ((List (S56)) × List Int) := some ((([(⟨1, (([1] : List Int))⟩ : S56), (⟨1, (([0] : List Int))⟩ : S56), (⟨1, ([] : List Int)⟩ : S56)] : List (S56))), (([0] : List Int)))
set_option maxHeartbeats 8000000 in
set_option maxRecDepth 100000 in
theorem atticlaw19_plain.calls  (r1 : List (S56)) (r2 : List Int) (w : World) (h : atticlaw19_plain.f  = some (r1, r2)) :
  Calls Try.prog 35 #[] w fun e w' => ∃ v0_ v1_ : Value, e = .returned (.agg #[v0_, v1_]) ∧ Kd.N k56 56 w' w.heap.size (fun k_ => (w.heap.size ≤ k_) ∧ some k_ ≠ (v1_ : Value).ownBlock) v0_ r1 ∧ Kd.R (Kd.int .i64) 3 w' w.heap.size (fun k_ => (w.heap.size ≤ k_)) v1_ r2 ∧ Below w.heap.size w w' := by
 have hu25 := Try.underlying25
 have hu56 := Try.underlying56
 have HB := ak (Below.refl w.heap.size w)
 have H : (some ((([(⟨1, (([1] : List Int))⟩ : S56), (⟨1, (([0] : List Int))⟩ : S56), (⟨1, ([] : List Int)⟩ : S56)] : List (S56))), (([0] : List Int)))) = some (r1, r2) := h
 clear h
 obtain ⟨y148, hy148⟩ : ∃ y_ : List Int, y_ = (([1] : List Int)) := ⟨_, rfl⟩
 replace H : (some ((([(⟨1, y148⟩ : S56), (⟨1, (([0] : List Int))⟩ : S56), (⟨1, ([] : List Int)⟩ : S56)] : List (S56))), (([0] : List Int)))) = some (r1, r2) := by first | (rw [hy148]; with_reducible exact H) | (have H2_ := (Option.bind_some _ _).symm.trans H; rw [hy148]; with_reducible exact H2_) | (have H2_ := (Option.bind_some _ _).symm.trans H; with_reducible exact H2_) | with_reducible exact H | (rw [hy148]; exact H) | exact H
 have Ny148 := ak hy148
 clear hy148
 obtain ⟨y151, hy151⟩ : ∃ y_ : List Int, y_ = (([0] : List Int)) := ⟨_, rfl⟩
 replace H : (some ((([(⟨1, y148⟩ : S56), (⟨1, y151⟩ : S56), (⟨1, ([] : List Int)⟩ : S56)] : List (S56))), (([0] : List Int)))) = some (r1, r2) := by first | (rw [hy151]; with_reducible exact H) | (have H2_ := (Option.bind_some _ _).symm.trans H; rw [hy151]; with_reducible exact H2_) | (have H2_ := (Option.bind_some _ _).symm.trans H; with_reducible exact H2_) | with_reducible exact H | (rw [hy151]; exact H) | exact H
 have Ny151 := ak hy151
 clear hy151
 obtain ⟨y154, hy154⟩ : ∃ y_ : List (S56), y_ = (([(⟨1, y148⟩ : S56), (⟨1, y151⟩ : S56), (⟨1, ([] : List Int)⟩ : S56)] : List (S56))) := ⟨_, rfl⟩
 replace H : (some (y154, (([0] : List Int)))) = some (r1, r2) := by first | (rw [hy154]; with_reducible exact H) | (have H2_ := (Option.bind_some _ _).symm.trans H; rw [hy154]; with_reducible exact H2_) | (have H2_ := (Option.bind_some _ _).symm.trans H; with_reducible exact H2_) | with_reducible exact H | (rw [hy154]; exact H) | exact H
 have Ny154 := ak hy154
 clear hy154
 obtain ⟨y157, hy157⟩ : ∃ y_ : List Int, y_ = (([0] : List Int)) := ⟨_, rfl⟩
 replace H : (some (y154, y157)) = some (r1, r2) := by first | (rw [hy157]; with_reducible exact H) | (have H2_ := (Option.bind_some _ _).symm.trans H; rw [hy157]; with_reducible exact H2_) | (have H2_ := (Option.bind_some _ _).symm.trans H; with_reducible exact H2_) | with_reducible exact H | (rw [hy157]; exact H) | exact H
 have Ny157 := ak hy157
 clear hy157
 simp only [Option.some.injEq, Prod.mk.injEq] at H
 obtain ⟨rfl, rfl⟩ := H
 go_enter Try.func35, Try.ntmps35
 go_wp2_with (first | ((with_reducible refine gate_dst (N := 0) rfl ?_); refine box_event ?hg (N := 0) ?hd (cs := #[.slice none 0 0, .slice none 0 0]) (t := 25) ?hr ?_; (case hd => rfl); (case hg => rfl); (case hr => first | (go_simp; done) | (go_simp; rfl)); intro gb147 hg w1 hbox hb; have n0_ := ak (below_step (by repeat (first | (with_reducible first | exact HB.out | apply ba_ | apply bn_ | apply b1_) | exact HB.out)) hb); have n1_ := ak (hbox); have n2_ := ak ((by rw [hg]; exact (below_size (by repeat (first | (with_reducible first | exact HB.out | apply ba_ | apply bn_ | apply b1_) | exact HB.out))) : w.heap.size ≤ gb147)); have n3_ := n2_; clear HB; have HB := n0_; have BK147 := n1_; have GW147 := n2_; have GE147 := n3_; clear n0_ n1_ n2_ n3_ hb hbox hg) | ((with_reducible refine gate_dst (N := 1) rfl ?_); refine Kd.R_lit (Kd.int .i64) _ 3 ?hg (N := 1) ?hd (xs := ([1] : List Int)) (inner := [.int .i64 1]) (ok := fun _ => True) (okp := fun _ => True) ?hr ?hp (fun _ hk => hk) trivial (Below.refl _ _) (Nat.le_refl _) (by simp) ?_; (case hd => rfl); (case hg => rfl); (case hr => first | (go_simp; done) | (go_simp; rfl)); (case hp => exact (Reps.one (show Kd.M (Kd.int .i64) _ _ _ 1 [.int .i64 1] from rfl) (Reps.none _ _))); intro v149 w2 ho3 hb hg_ hnew_; clear hg_ hnew_; (first | rw [← Ny148.out] at ho3 | (simp only [Int.reduceToNat] at ho3; rw [← Ny148.out] at ho3)); have n0_ := ak (Kd.R_lower (Kd.R_newM (M := fun k_ => (w.heap.size ≤ k_)) ho3 (below_size (by repeat (first | (with_reducible first | exact HB.out | apply ba_ | apply bn_ | apply b1_ | refine bs_ ?_ GE147.out) | exact HB.out))) (fun k_ h_ => h_)) (below_size (by repeat (first | (with_reducible first | exact HB.out | apply ba_ | apply bn_ | apply b1_ | refine bs_ ?_ GE147.out) | exact HB.out)))); have n1_ := ak (blk_below (by (with_reducible repeat first | apply kn_ | apply kd_ | apply ka_); exact BK147.out) hb); have n2_ := ak (below_step (by repeat (first | (with_reducible first | exact HB.out | apply ba_ | apply bn_ | apply b1_ | refine bs_ ?_ GE147.out) | exact HB.out)) hb); clear BK147 HB; have HO150 := n0_; have BK147 := n1_; have HB := n2_; clear n0_ n1_ n2_ hb ho3; obtain ⟨Ao4, co4, eo4⟩ := Kd.R_slice HO150.out; subst eo4) | ((with_reducible refine gate_dst (N := 3) rfl ?_); refine Kd.R_lit (Kd.int .i64) _ 3 ?hg (N := 3) ?hd (xs := ([0] : List Int)) (inner := [.int .i64 0]) (ok := fun _ => True) (okp := fun _ => True) ?hr ?hp (fun _ hk => hk) trivial (Below.refl _ _) (Nat.le_refl _) (by simp) ?_; (case hd => rfl); (case hg => rfl); (case hr => first | (go_simp; done) | (go_simp; rfl)); (case hp => exact (Reps.one (show Kd.M (Kd.int .i64) _ _ _ 0 [.int .i64 0] from rfl) (Reps.none _ _))); intro v152 w5 ho6 hb hg_ hnew_; clear hg_ hnew_; (first | rw [← Ny151.out] at ho6 | (simp only [Int.reduceToNat] at ho6; rw [← Ny151.out] at ho6)); have n0_ := ak (Kd.R_elder' (by (with_reducible repeat (first | apply Kd.R_alloc | apply Kd.R_drewN | apply Kd.R_drew)); exact HO150.out) (Kd.R_base ho6) hb); have n1_ := ak (Kd.R_lower (Kd.R_new' (Kd.R_newM (M := fun k_ => (w.heap.size ≤ k_)) ho6 (below_size (by repeat (first | (with_reducible first | exact HB.out | apply ba_ | apply bn_ | apply b1_ | refine bs_ ?_ GE147.out) | exact HB.out))) (fun k_ h_ => h_)) (Kd.R_lt (by (with_reducible repeat (first | apply Kd.R_alloc | apply Kd.R_drewN | apply Kd.R_drew)); exact HO150.out))) (below_size (by repeat (first | (with_reducible first | exact HB.out | apply ba_ | apply bn_ | apply b1_ | refine bs_ ?_ GE147.out) | exact HB.out)))); have n2_ := ak (blk_below (by (with_reducible repeat first | apply kn_ | apply kd_ | apply ka_); exact BK147.out) hb); have n3_ := ak (below_step (by repeat (first | (with_reducible first | exact HB.out | apply ba_ | apply bn_ | apply b1_ | refine bs_ ?_ GE147.out) | exact HB.out)) hb); clear HO150 BK147 HB; have HO150 := n0_; have HO153 := n1_; have BK147 := n2_; have HB := n3_; clear n0_ n1_ n2_ n3_ hb ho6; obtain ⟨Ao7, co7, eo7⟩ := Kd.R_slice HO153.out; subst eo7) | ((with_reducible refine gate_dst (N := 6) rfl ?_); refine Kd.N_lit k56 _ 56 ?hg (N' := 6) ?hd (xs := ([(⟨1, y148⟩ : S56), (⟨1, y151⟩ : S56), (⟨1, ([] : List Int)⟩ : S56)] : List (S56))) (inner := [.int .i64 1, .slice Ao4 y148.length co4, .int .i64 1, .slice Ao7 y151.length co7, .int .i64 1, .slice none 0 0]) (ok := (fun k_ => (w.heap.size ≤ k_) ∧ k_ ≠ gb147)) (okp := (fun k_ => (w.heap.size ≤ k_) ∧ k_ ≠ gb147)) ?hr ?hp (fun _ hk => hk) ((show ∀ k_, w5.heap.size ≤ k_ → (fun k_ => (w.heap.size ≤ k_) ∧ k_ ≠ gb147) k_ from fun k_ hk => ⟨(Nat.le_trans (below_size (by repeat (first | (with_reducible first | exact HB.out | apply ba_ | apply bn_ | apply b1_ | refine bs_ ?_ GE147.out) | exact HB.out))) hk), Kd.freshB (g := gb147) (o := .cells #[.slice none 0 0, .slice none 0 0] 25 (0, 0)) (by (with_reducible repeat first | apply kn_ | apply kd_ | apply ka_); exact BK147.out) k_ hk⟩) _ (Nat.le_refl _)) (Below.refl _ _) (Nat.le_refl _) (by simp) ?_; (case hd => rfl); (case hg => rfl); (case hr => first | (go_simp; done) | (go_simp; rfl)); (case hp => exact (Reps.c2 (show Kd.FK k56 _ _ (⟨1, y148⟩ : S56) [.int .i64 1, .slice Ao4 y148.length co4] from (k56_mkF _ _ (⟨1, y148⟩ : S56) (Kd.R_reads' (Kd.R_mono (ok' := (fun k_ => (w.heap.size ≤ k_) ∧ k_ ≠ gb147)) (Kd.R_types (HO150.out) BK147.out (by decide)) (fun k_ hk => ⟨hk.1.1.1, hk.2⟩))).2.1 (Kd.R_F (Kd.R_mono (ok' := (fun k_ => (w.heap.size ≤ k_) ∧ k_ ≠ gb147)) (Kd.R_types (HO150.out) BK147.out (by decide)) (fun k_ hk => ⟨hk.1.1.1, hk.2⟩))))) (Reps.c2 (show Kd.FK k56 _ _ (⟨1, y151⟩ : S56) [.int .i64 1, .slice Ao7 y151.length co7] from (k56_mkF _ _ (⟨1, y151⟩ : S56) (Kd.R_reads' (Kd.R_mono (ok' := (fun k_ => (w.heap.size ≤ k_) ∧ k_ ≠ gb147)) (Kd.R_types (HO153.out) BK147.out (by decide)) (fun k_ hk => ⟨hk.1.1.1, hk.2⟩))).2.1 (Kd.R_F (Kd.R_mono (ok' := (fun k_ => (w.heap.size ≤ k_) ∧ k_ ≠ gb147)) (Kd.R_types (HO153.out) BK147.out (by decide)) (fun k_ hk => ⟨hk.1.1.1, hk.2⟩))))) (Reps.c2 (show Kd.FK k56 _ _ (⟨1, ([] : List Int)⟩ : S56) [.int .i64 1, .slice none 0 0] from (k56_mkF _ _ (⟨1, ([] : List Int)⟩ : S56) (Nat.le_refl _) (Kd.F_nil _ _ _))) (Reps.none _ _))))); intro v155 w8 ho9 hb hg_ hnew_; clear hg_ hnew_; (first | rw [← Ny154.out] at ho9 | (simp only [Int.reduceToNat] at ho9; rw [← Ny154.out] at ho9)); have n0_ := ak (Kd.N_lower ho9 (below_size (by repeat (first | (with_reducible first | exact HB.out | apply ba_ | apply bn_ | apply b1_ | refine bs_ ?_ GE147.out) | exact HB.out)))); have n1_ := ak (blk_below (by (with_reducible repeat first | apply kn_ | apply kd_ | apply ka_); exact BK147.out) hb); have n2_ := ak (below_step (by repeat (first | (with_reducible first | exact HB.out | apply ba_ | apply bn_ | apply b1_ | refine bs_ ?_ GE147.out) | exact HB.out)) hb); clear BK147 HB HO150 HO153; have HO156 := n0_; have BK147 := n1_; have HB := n2_; clear n0_ n1_ n2_ hb ho9) | ((with_reducible refine gate_dst (N := 7) rfl ?_); refine Kd.R_lit (Kd.int .i64) _ 3 ?hg (N := 7) ?hd (xs := ([0] : List Int)) (inner := [.int .i64 0]) (ok := fun _ => True) (okp := fun _ => True) ?hr ?hp (fun _ hk => hk) trivial (Below.refl _ _) (Nat.le_refl _) (by simp) ?_; (case hd => rfl); (case hg => rfl); (case hr => first | (go_simp; done) | (go_simp; rfl)); (case hp => exact (Reps.one (show Kd.M (Kd.int .i64) _ _ _ 0 [.int .i64 0] from rfl) (Reps.none _ _))); intro v158 w10 ho11 hb hg_ hnew_; clear hg_ hnew_; (first | rw [← Ny157.out] at ho11 | (simp only [Int.reduceToNat] at ho11; rw [← Ny157.out] at ho11)); have n0_ := ak (Kd.N_elder' (by (with_reducible repeat (first | apply Kd.N_alloc | apply Kd.N_drewN | apply Kd.N_drew)); exact HO156.out) (Kd.R_base ho11) hb); have n1_ := ak (Kd.R_lower (Kd.R_newM (M := fun k_ => (w.heap.size ≤ k_)) ho11 (below_size (by repeat (first | (with_reducible first | exact HB.out | apply ba_ | apply bn_ | apply b1_ | refine bs_ ?_ GE147.out) | exact HB.out))) (fun k_ h_ => h_)) (below_size (by repeat (first | (with_reducible first | exact HB.out | apply ba_ | apply bn_ | apply b1_ | refine bs_ ?_ GE147.out) | exact HB.out)))); have n2_ := ak (blk_below (by (with_reducible repeat first | apply kn_ | apply kd_ | apply ka_); exact BK147.out) hb); have n3_ := ak (below_step (by repeat (first | (with_reducible first | exact HB.out | apply ba_ | apply bn_ | apply b1_ | refine bs_ ?_ GE147.out) | exact HB.out)) hb); clear HO156 BK147 HB; have HO156 := n0_; have HO159 := n1_; have BK147 := n2_; have HB := n3_; clear n0_ n1_ n2_ n3_ hb ho11; obtain ⟨Ao12, co12, eo12⟩ := Kd.R_slice HO159.out; subst eo12; obtain ⟨Ao13, co13, eo13⟩ := Kd.N_slice HO156.out; subst eo13; obtain ⟨z14_0, z14_1, f14_0, f14_1⟩ := kk2 BK147.out))
 refine bodyPost_ret (results_cell_row rfl _ _ gb147 25 #[.slice Ao13 y154.length co13, .slice Ao12 y157.length co12] (0, 0) _ rfl (by (with_reducible repeat first | apply kn_ | apply kd_ | apply ka_); refine blk_put (cs := #[.slice Ao13 y154.length co13, .slice none 0 0]) ?_ 1 _ rfl; (with_reducible repeat first | apply kn_ | apply kd_ | apply ka_); refine blk_put (cs := #[.slice none 0 0, .slice none 0 0]) ?_ 0 _ rfl; (with_reducible repeat first | apply kn_ | apply kd_ | apply ka_); exact BK147.out) Try.underlying25 rfl (by kernel_rfl)) rfl ?_
 exact ⟨_, _, by first | rfl | (simp [errW_none, errW_some] <;> rfl) | (simp [*, errW_none, errW_some] <;> rfl) | (simp [Int.tdiv_eq_ediv_of_nonneg]; done), by (with_reducible repeat (first | apply Kd.N_alloc | apply Kd.N_drewN | apply Kd.N_drew)); exact Kd.N_mono (Kd.N_far (p := ⟨gb147, 1, none⟩) (Kd.N_far (p := ⟨gb147, 0, none⟩) (Kd.N_mono HO156.out (fun k_ hk => (⟨hk, hk.1.2⟩ : _ ∧ k_ ≠ gb147))) (fun _ hk => hk.2) (.slice Ao13 y154.length co13)) (fun _ hk => hk.2) (.slice Ao12 y157.length co12)) (fun _ hk => ⟨hk.1.1.1, hk.1.2⟩), by (with_reducible repeat (first | apply Kd.R_alloc | apply Kd.R_drewN | apply Kd.R_drew)); exact Kd.R_mono (Kd.R_far (p := ⟨gb147, 1, none⟩) (Kd.R_far (p := ⟨gb147, 0, none⟩) (Kd.R_types HO159.out BK147.out (by decide)) (fun _ hk => hk.2) (.slice Ao13 y154.length co13)) (fun _ hk => hk.2) (.slice Ao12 y157.length co12)) (fun _ hk => hk.1.1), by repeat (first | (with_reducible first | exact HB.out | apply ba_ | apply bn_ | apply b1_ | refine bs_ ?_ GE147.out) | exact HB.out)⟩
/-! ### atticlaw19_live: function 10 -/
def atticlaw19_live.f (k : Nat)  : Option (Bool) := (atticlaw19_plain.f).bind fun bt160 => ((mark_New.f k bt160.1 bt160.2 4).bind fun bt166 => (if bt166.2.2.2.2.2.2.2 = 0 then ((atticlaw19_plain.f).bind fun bt179 => ((mark_Run.f k bt179.1 bt179.2 4 bt166.1 bt166.2.1 bt166.2.2.1 bt166.2.2.2.1 bt166.2.2.2.2.1 bt166.2.2.2.2.2.1 bt166.2.2.2.2.2.2.1 99).bind fun bt185 => (if bt185.2.2.2.2.2.2.2 = 5 then (if bt185.1 = 3 then ((slices_Equal_bool_bool.f k bt185.2.2.1 (([true, true, false] : List Bool))).bind fun t201 => (if t201 = true then ((mark_Same.f bt166.1 bt166.2.1 bt166.2.2.1 bt166.2.2.2.1 bt166.2.2.2.2.1 bt166.2.2.2.2.2.1 bt166.2.2.2.2.2.2.1 bt185.1 bt185.2.1 bt185.2.2.1 bt185.2.2.2.1 bt185.2.2.2.2.1 bt185.2.2.2.2.2.1 bt185.2.2.2.2.2.2.1).bind fun t202 => (if t202 = true then (none) else ((mark_Same.f bt185.1 bt185.2.1 bt185.2.2.1 bt185.2.2.2.1 bt185.2.2.2.2.1 bt185.2.2.2.2.2.1 bt185.2.2.2.2.2.2.1 bt185.1 bt185.2.1 bt185.2.2.1 bt185.2.2.2.1 bt185.2.2.2.2.1 bt185.2.2.2.2.2.1 bt185.2.2.2.2.2.2.1).bind fun t203 => (if t203 = true then (some t203) else (none))))) else (none))) else (none)) else (none)))) else (none)))
theorem atticlaw19_live.mono : ∀ k, LeO (atticlaw19_live.f k ) (atticlaw19_live.f (k + 1) ) := by
 intro  k
 unfold atticlaw19_live.f
 repeat' first | (with_reducible first | exact mark_New.mono _ _ _ _ | exact mark_Run.mono _ _ _ _ _ _ _ _ _ _ _ _ | exact slices_Equal_bool_bool.mono _ _ _ | exact LeO.refl _ | exact LeO.none _ | refine LeO.ite ?_ ?_ | refine LeO.bind ?_ (fun _ => ?_)) | exact mark_New.mono _ _ _ _ | exact mark_Run.mono _ _ _ _ _ _ _ _ _ _ _ _ | exact slices_Equal_bool_bool.mono _ _ _ | exact LeO.none _ | refine LeO.ite ?_ ?_ | refine LeO.bind ?_ (fun _ => ?_)
def atticlaw19_live.T4 : Bool × List (List Nat × List Nat) := (true, [([], []), ([], []), ([0, 1, 0], [0, 1]), ([2], [2]), ([3], [3]), ([3], [3]), ([], []), ([6, 4, 2, 0, 1, 2, 3, 4, 6], [4, 6]), ([5, 7, 0, 1, 2, 3, 4, 5, 6, 7], [5])])
def atticlaw19_live.B4 : List Nat := [0, 0, 3, 7, 15, 15, 0, 95, 255]
theorem atticlaw19_live.tab4 : rtab .any (opsOf Try.f10 4) = atticlaw19_live.T4 := by kernel_rfl
theorem atticlaw19_live.bits4 : waitsOk atticlaw19_live.T4.2 atticlaw19_live.B4 = true := by kernel_rfl
set_option maxHeartbeats 8000000 in
set_option maxRecDepth 100000 in
theorem atticlaw19_live.calls (k : Nat)  (r : Bool) (w : World) (h : atticlaw19_live.f k  = some r) :
  Calls Try.prog 10 #[] w fun e w' => e = .returned (.bool r) ∧ Below w.heap.size w w' := by
 have hu28 := Try.underlying28
 have HB := ak (Below.refl w.heap.size w)
 have H : ((atticlaw19_plain.f).bind fun bt160 => ((mark_New.f k bt160.1 bt160.2 4).bind fun bt166 => (if bt166.2.2.2.2.2.2.2 = 0 then ((atticlaw19_plain.f).bind fun bt179 => ((mark_Run.f k bt179.1 bt179.2 4 bt166.1 bt166.2.1 bt166.2.2.1 bt166.2.2.2.1 bt166.2.2.2.2.1 bt166.2.2.2.2.2.1 bt166.2.2.2.2.2.2.1 99).bind fun bt185 => (if bt185.2.2.2.2.2.2.2 = 5 then (if bt185.1 = 3 then ((slices_Equal_bool_bool.f k bt185.2.2.1 (([true, true, false] : List Bool))).bind fun t201 => (if t201 = true then ((mark_Same.f bt166.1 bt166.2.1 bt166.2.2.1 bt166.2.2.2.1 bt166.2.2.2.2.1 bt166.2.2.2.2.2.1 bt166.2.2.2.2.2.2.1 bt185.1 bt185.2.1 bt185.2.2.1 bt185.2.2.2.1 bt185.2.2.2.2.1 bt185.2.2.2.2.2.1 bt185.2.2.2.2.2.2.1).bind fun t202 => (if t202 = true then (none) else ((mark_Same.f bt185.1 bt185.2.1 bt185.2.2.1 bt185.2.2.2.1 bt185.2.2.2.2.1 bt185.2.2.2.2.2.1 bt185.2.2.2.2.2.2.1 bt185.1 bt185.2.1 bt185.2.2.1 bt185.2.2.2.1 bt185.2.2.2.2.1 bt185.2.2.2.2.2.1 bt185.2.2.2.2.2.2.1).bind fun t203 => (if t203 = true then (some t203) else (none))))) else (none))) else (none)) else (none)))) else (none)))) = some r := h
 clear h
 replace H := Option.bind_eq_some_iff.mp H
 obtain ⟨⟨t160, t163⟩, A10, H⟩ := H
 replace H : ((mark_New.f k t160 t163 4).bind fun bt166 => (if bt166.2.2.2.2.2.2.2 = 0 then ((atticlaw19_plain.f).bind fun bt179 => ((mark_Run.f k bt179.1 bt179.2 4 bt166.1 bt166.2.1 bt166.2.2.1 bt166.2.2.2.1 bt166.2.2.2.2.1 bt166.2.2.2.2.2.1 bt166.2.2.2.2.2.2.1 99).bind fun bt185 => (if bt185.2.2.2.2.2.2.2 = 5 then (if bt185.1 = 3 then ((slices_Equal_bool_bool.f k bt185.2.2.1 (([true, true, false] : List Bool))).bind fun t201 => (if t201 = true then ((mark_Same.f bt166.1 bt166.2.1 bt166.2.2.1 bt166.2.2.2.1 bt166.2.2.2.2.1 bt166.2.2.2.2.2.1 bt166.2.2.2.2.2.2.1 bt185.1 bt185.2.1 bt185.2.2.1 bt185.2.2.2.1 bt185.2.2.2.2.1 bt185.2.2.2.2.2.1 bt185.2.2.2.2.2.2.1).bind fun t202 => (if t202 = true then (none) else ((mark_Same.f bt185.1 bt185.2.1 bt185.2.2.1 bt185.2.2.2.1 bt185.2.2.2.2.1 bt185.2.2.2.2.2.1 bt185.2.2.2.2.2.2.1 bt185.1 bt185.2.1 bt185.2.2.1 bt185.2.2.2.1 bt185.2.2.2.2.1 bt185.2.2.2.2.2.1 bt185.2.2.2.2.2.2.1).bind fun t203 => (if t203 = true then (some t203) else (none))))) else (none))) else (none)) else (none)))) else (none))) = some r := H
 have A1 := ak A10
 clear A10
 replace H := Option.bind_eq_some_iff.mp H
 obtain ⟨⟨t166, t167, t168, t171, t174, t175, t176, t177⟩, A20, H⟩ := H
 replace H : (if t177 = 0 then ((atticlaw19_plain.f).bind fun bt179 => ((mark_Run.f k bt179.1 bt179.2 4 t166 t167 t168 t171 t174 t175 t176 99).bind fun bt185 => (if bt185.2.2.2.2.2.2.2 = 5 then (if bt185.1 = 3 then ((slices_Equal_bool_bool.f k bt185.2.2.1 (([true, true, false] : List Bool))).bind fun t201 => (if t201 = true then ((mark_Same.f t166 t167 t168 t171 t174 t175 t176 bt185.1 bt185.2.1 bt185.2.2.1 bt185.2.2.2.1 bt185.2.2.2.2.1 bt185.2.2.2.2.2.1 bt185.2.2.2.2.2.2.1).bind fun t202 => (if t202 = true then (none) else ((mark_Same.f bt185.1 bt185.2.1 bt185.2.2.1 bt185.2.2.2.1 bt185.2.2.2.2.1 bt185.2.2.2.2.2.1 bt185.2.2.2.2.2.2.1 bt185.1 bt185.2.1 bt185.2.2.1 bt185.2.2.2.1 bt185.2.2.2.2.1 bt185.2.2.2.2.2.1 bt185.2.2.2.2.2.2.1).bind fun t203 => (if t203 = true then (some t203) else (none))))) else (none))) else (none)) else (none)))) else (none)) = some r := H
 have A2 := ak A20
 clear A20
 by_cases c3 : t177 = 0; rotate_left
 ·rw [if_neg c3] at H
  exact absurd H (by simp)
 rw [if_pos c3] at H
 have c3b0 : (t177 == 0) = true := beq_iff_eq.mpr c3
 have c3b1 : (t177 != 0) = false := bne_eq_false_iff_eq.mpr c3
 clear c3
 replace H := Option.bind_eq_some_iff.mp H
 obtain ⟨⟨t179, t182⟩, A40, H⟩ := H
 replace H : ((mark_Run.f k t179 t182 4 t166 t167 t168 t171 t174 t175 t176 99).bind fun bt185 => (if bt185.2.2.2.2.2.2.2 = 5 then (if bt185.1 = 3 then ((slices_Equal_bool_bool.f k bt185.2.2.1 (([true, true, false] : List Bool))).bind fun t201 => (if t201 = true then ((mark_Same.f t166 t167 t168 t171 t174 t175 t176 bt185.1 bt185.2.1 bt185.2.2.1 bt185.2.2.2.1 bt185.2.2.2.2.1 bt185.2.2.2.2.2.1 bt185.2.2.2.2.2.2.1).bind fun t202 => (if t202 = true then (none) else ((mark_Same.f bt185.1 bt185.2.1 bt185.2.2.1 bt185.2.2.2.1 bt185.2.2.2.2.1 bt185.2.2.2.2.2.1 bt185.2.2.2.2.2.2.1 bt185.1 bt185.2.1 bt185.2.2.1 bt185.2.2.2.1 bt185.2.2.2.2.1 bt185.2.2.2.2.2.1 bt185.2.2.2.2.2.2.1).bind fun t203 => (if t203 = true then (some t203) else (none))))) else (none))) else (none)) else (none))) = some r := H
 have A4 := ak A40
 clear A40
 replace H := Option.bind_eq_some_iff.mp H
 obtain ⟨⟨t185, t186, t187, t190, t193, t194, t195, t196⟩, A50, H⟩ := H
 replace H : (if t196 = 5 then (if t185 = 3 then ((slices_Equal_bool_bool.f k t187 (([true, true, false] : List Bool))).bind fun t201 => (if t201 = true then ((mark_Same.f t166 t167 t168 t171 t174 t175 t176 t185 t186 t187 t190 t193 t194 t195).bind fun t202 => (if t202 = true then (none) else ((mark_Same.f t185 t186 t187 t190 t193 t194 t195 t185 t186 t187 t190 t193 t194 t195).bind fun t203 => (if t203 = true then (some t203) else (none))))) else (none))) else (none)) else (none)) = some r := H
 have A5 := ak A50
 clear A50
 by_cases c6 : t196 = 5; rotate_left
 ·rw [if_neg c6] at H
  exact absurd H (by simp)
 rw [if_pos c6] at H
 have c6b0 : (t196 == 5) = true := beq_iff_eq.mpr c6
 have c6b1 : (t196 != 5) = false := bne_eq_false_iff_eq.mpr c6
 clear c6
 by_cases c7 : t185 = 3; rotate_left
 ·rw [if_neg c7] at H
  exact absurd H (by simp)
 rw [if_pos c7] at H
 have c7b0 : (t185 == 3) = true := beq_iff_eq.mpr c7
 have c7b1 : (t185 != 3) = false := bne_eq_false_iff_eq.mpr c7
 clear c7
 obtain ⟨y198, hy198⟩ : ∃ y_ : List Bool, y_ = (([true, true, false] : List Bool)) := ⟨_, rfl⟩
 replace H : ((slices_Equal_bool_bool.f k t187 y198).bind fun t201 => (if t201 = true then ((mark_Same.f t166 t167 t168 t171 t174 t175 t176 t185 t186 t187 t190 t193 t194 t195).bind fun t202 => (if t202 = true then (none) else ((mark_Same.f t185 t186 t187 t190 t193 t194 t195 t185 t186 t187 t190 t193 t194 t195).bind fun t203 => (if t203 = true then (some t203) else (none))))) else (none))) = some r := by first | (rw [hy198]; with_reducible exact H) | (have H2_ := (Option.bind_some _ _).symm.trans H; rw [hy198]; with_reducible exact H2_) | (have H2_ := (Option.bind_some _ _).symm.trans H; with_reducible exact H2_) | with_reducible exact H | (rw [hy198]; exact H) | exact H
 have Ny198 := ak hy198
 clear hy198
 replace H := Option.bind_eq_some_iff.mp H
 obtain ⟨t201, A80, H⟩ := H
 replace H : (if t201 = true then ((mark_Same.f t166 t167 t168 t171 t174 t175 t176 t185 t186 t187 t190 t193 t194 t195).bind fun t202 => (if t202 = true then (none) else ((mark_Same.f t185 t186 t187 t190 t193 t194 t195 t185 t186 t187 t190 t193 t194 t195).bind fun t203 => (if t203 = true then (some t203) else (none))))) else (none)) = some r := H
 have A8 := ak A80
 clear A80
 by_cases c9 : t201 = true; rotate_left
 ·replace c9 := Bool.eq_false_iff.mpr c9
  subst c9
  have H1 : (none) = some r := by rw [if_neg (show ¬ (false = true) by decide)] at H; exact H
  clear H
  have H := H1
  clear H1
  exact absurd H (by simp)
 subst c9
 have H1 : ((mark_Same.f t166 t167 t168 t171 t174 t175 t176 t185 t186 t187 t190 t193 t194 t195).bind fun t202 => (if t202 = true then (none) else ((mark_Same.f t185 t186 t187 t190 t193 t194 t195 t185 t186 t187 t190 t193 t194 t195).bind fun t203 => (if t203 = true then (some t203) else (none))))) = some r := by rw [if_pos rfl] at H; exact H
 clear H
 have H := H1
 clear H1
 replace H := Option.bind_eq_some_iff.mp H
 obtain ⟨t202, A100, H⟩ := H
 replace H : (if t202 = true then (none) else ((mark_Same.f t185 t186 t187 t190 t193 t194 t195 t185 t186 t187 t190 t193 t194 t195).bind fun t203 => (if t203 = true then (some t203) else (none)))) = some r := H
 have A10 := ak A100
 clear A100
 by_cases c11 : t202 = true
 ·subst c11
  have H1 : (none) = some r := by rw [if_pos rfl] at H; exact H
  clear H
  have H := H1
  clear H1
  exact absurd H (by simp)
 replace c11 := Bool.eq_false_iff.mpr c11
 subst c11
 have H1 : ((mark_Same.f t185 t186 t187 t190 t193 t194 t195 t185 t186 t187 t190 t193 t194 t195).bind fun t203 => (if t203 = true then (some t203) else (none))) = some r := by rw [if_neg (show ¬ (false = true) by decide)] at H; exact H
 clear H
 have H := H1
 clear H1
 replace H := Option.bind_eq_some_iff.mp H
 obtain ⟨t203, A120, H⟩ := H
 replace H : (if t203 = true then (some t203) else (none)) = some r := H
 have A12 := ak A120
 clear A120
 by_cases c13 : t203 = true; rotate_left
 ·replace c13 := Bool.eq_false_iff.mpr c13
  subst c13
  have H1 : (none) = some r := by rw [if_neg (show ¬ (false = true) by decide)] at H; exact H
  clear H
  have H := H1
  clear H1
  exact absurd H (by simp)
 subst c13
 have H1 : (some true) = some r := by rw [if_pos rfl] at H; exact H
 clear H
 have H := H1
 clear H1
 obtain rfl := Option.some.inj H
 go_enter Try.func10, Try.ntmps10
 try go_wp2_with (first | ((with_reducible refine gate_callee (f := 35) rfl ?_); refine goesL_ (some 6) rfl rfl Try.func35 (by kernel_rfl) rfl #[] rfl (by (try simp only [List.map_toArray, List.map_cons, List.map_nil]); first | done | rfl | (simp only [List.length_drop, List.length_take]; rfl)) ?_; (with_reducible refine (atticlaw19_plain.calls  t160 t163 _ A1.out).mono ?_); rintro e w14 ⟨v161, v164, rfl, ho0, ho1, hb⟩; refine ⟨_, rfl, ?_⟩; have n0_ := ak (Kd.N_lower (Kd.N_mono (ok' := fun k_ => some k_ ≠ (v164 : Value).ownBlock) ho0 (fun k_ hk_ => hk_.2)) (below_size (by repeat (first | (with_reducible first | exact HB.out | apply ba_ | apply bn_ | apply b1_) | exact HB.out)))); have n1_ := ak (Kd.R_lower (Kd.R_mono (ok' := fun k_ => True) ho1 (fun _ hk_ => trivial)) (below_size (by repeat (first | (with_reducible first | exact HB.out | apply ba_ | apply bn_ | apply b1_) | exact HB.out)))); have n2_ := ak (below_step (by repeat (first | (with_reducible first | exact HB.out | apply ba_ | apply bn_ | apply b1_) | exact HB.out)) hb); clear HB; have HO162 := n0_; have HO165 := n1_; have HB := n2_; clear n0_ n1_ n2_; (try clear hb); (try clear hb2); (try clear hk); (try clear hi); (try clear ho0); (try clear ho1); (try clear A1); obtain ⟨Ao15, co15, eo15⟩ := Kd.N_slice HO162.out; subst eo15; obtain ⟨Ao16, co16, eo16⟩ := Kd.R_slice HO165.out; subst eo16) | ((with_reducible refine gate_callee (f := 14) rfl ?_); refine goesL_ (some 7) rfl rfl Try.func14 (by kernel_rfl) rfl #[.agg #[.slice Ao15 t160.length co15, .slice Ao16 t163.length co16], .int .i64 4] rfl (by (try simp only [List.map_toArray, List.map_cons, List.map_nil]); first | done | rfl | (simp only [List.length_drop, List.length_take]; rfl)) ?_; (with_reducible refine (mark_New.calls k _ _ t160 _ _ t163 4 t166 t167 t168 t171 t174 t175 t176 t177 _ ?side1 ?side2 ?side3 ?side4 A2.out).mono ?_); (case side1 => repeat (first | exact (Kd.N_reads' HO162.out).2.2 | (with_reducible first | refine ca_ ?_ _ | refine cn_ ?_ _ | refine cd_ ?_))); (case side2 => exact (Kd.N_reads' HO162.out).2.1); (case side3 => repeat (first | exact (Kd.R_reads' HO165.out).2.2 | (with_reducible first | refine ca_ ?_ _ | refine cn_ ?_ _ | refine cd_ ?_))); (case side4 => exact (Kd.R_reads' HO165.out).2.1); rintro e w17 ⟨v169, v172, rfl, ho0, ho1, hb⟩; refine ⟨_, rfl, ?_⟩; have n0_ := ak (Kd.N_mono (Kd.N_told (Kd.N_told (Kd.N_old (by (with_reducible repeat (first | apply Kd.N_alloc | apply Kd.N_drewN | apply Kd.N_drew)); exact HO162.out) hb) (Kd.R_base ho0)) (Kd.R_base ho1)) (fun _ h_ => h_.1)); have n1_ := ak (Kd.R_elder' (by (with_reducible repeat (first | apply Kd.R_alloc | apply Kd.R_drewN | apply Kd.R_drew)); exact HO165.out) (Kd.R_base ho1) hb); have n2_ := ak (Kd.R_lower ho0 (below_size (by repeat (first | (with_reducible first | exact HB.out | apply ba_ | apply bn_ | apply b1_) | exact HB.out)))); have n3_ := ak (Kd.R_lower (Kd.R_new' ho1 (Kd.R_lt (by (with_reducible repeat (first | apply Kd.R_alloc | apply Kd.R_drewN | apply Kd.R_drew)); exact HO165.out))) (below_size (by repeat (first | (with_reducible first | exact HB.out | apply ba_ | apply bn_ | apply b1_) | exact HB.out)))); have n4_ := ak (below_step (by repeat (first | (with_reducible first | exact HB.out | apply ba_ | apply bn_ | apply b1_) | exact HB.out)) hb); clear HO162 HO165 HB; have HO162 := n0_; have HO165 := n1_; have HO170 := n2_; have HO173 := n3_; have HB := n4_; clear n0_ n1_ n2_ n3_ n4_; (try clear hb); (try clear hb2); (try clear hk); (try clear hi); (try clear ho0); (try clear ho1); (try clear A2)) | ((with_reducible refine gate_dst (N := 1) rfl ?_); (try (refine gate_guard (by rfl) ?_; dsimp only)); refine box_event ?hg (N := 1) ?hd (cs := #[.int .i64 0, .int .i64 0, .slice none 0 0, .slice none 0 0, .bool false, .bool false, .bool false]) (t := 28) ?hr ?_; (case hd => rfl); (case hg => rfl); (case hr => first | (go_simp; done) | (go_simp; rfl)); intro gb178 hg w18 hbox hb; have n0_ := ak (Kd.N_below (Kd.N_elderB (by (with_reducible repeat (first | apply Kd.N_alloc | apply Kd.N_drewN | apply Kd.N_drew)); exact HO162.out) gb178 (Nat.le_of_eq hg.symm)) hb); have n1_ := ak (Kd.R_below (by (with_reducible repeat (first | apply Kd.R_alloc | apply Kd.R_drewN | apply Kd.R_drew)); exact HO165.out) hb); have n2_ := ak (Kd.R_below (by (with_reducible repeat (first | apply Kd.R_alloc | apply Kd.R_drewN | apply Kd.R_drew)); exact HO170.out) hb); have n3_ := ak (Kd.R_below (by (with_reducible repeat (first | apply Kd.R_alloc | apply Kd.R_drewN | apply Kd.R_drew)); exact HO173.out) hb); have n4_ := ak (below_step (by repeat (first | (with_reducible first | exact HB.out | apply ba_ | apply bn_ | apply b1_) | exact HB.out)) hb); have n5_ := ak (hbox); have n6_ := ak ((by rw [hg]; exact (below_size (by repeat (first | (with_reducible first | exact HB.out | apply ba_ | apply bn_ | apply b1_) | exact HB.out))) : w.heap.size ≤ gb178)); have n7_ := n6_; clear HO162 HO165 HO170 HO173 HB; have HO162 := n0_; have HO165 := n1_; have HO170 := n2_; have HO173 := n3_; have HB := n4_; have BK178 := n5_; have GW178 := n6_; have GE178 := n7_; clear n0_ n1_ n2_ n3_ n4_ n5_ n6_ n7_ hb hbox hg; obtain ⟨z19_0, z19_1, z19_2, z19_3, z19_4, z19_5, z19_6, f19_0, f19_1, f19_2, f19_3, f19_4, f19_5, f19_6⟩ := kk7 BK178.out; obtain ⟨Ao20, co20, eo20⟩ := Kd.R_slice HO170.out; subst eo20; obtain ⟨Ao21, co21, eo21⟩ := Kd.R_slice HO173.out; subst eo21))
 have n0_ : Aside0 (Kd.N k56 56 (((((((w18.setCell ⟨gb178, 0, none⟩ (.int .i64 t166)).setCell ⟨gb178, 1, none⟩ (.int .i64 t167)).setCell ⟨gb178, 2, none⟩ (.slice Ao20 t168.length co20)).setCell ⟨gb178, 3, none⟩ (.slice Ao21 t171.length co21)).setCell ⟨gb178, 4, none⟩ (.bool t174)).setCell ⟨gb178, 5, none⟩ (.bool t175)).setCell ⟨gb178, 6, none⟩ (.bool t176)) w.heap.size (fun k_ => some k_ ≠ (.slice Ao16 t163.length co16 : Value).ownBlock ∧ some k_ ≠ (.slice Ao20 t168.length co20 : Value).ownBlock ∧ some k_ ≠ (.slice Ao21 t171.length co21 : Value).ownBlock ∧ k_ ≠ gb178) (.slice Ao15 t160.length co15) t160) := ⟨by (with_reducible repeat (first | apply Kd.N_alloc | apply Kd.N_drewN | apply Kd.N_drew)); exact Kd.N_mono (Kd.N_far (p := ⟨gb178, 6, none⟩) (Kd.N_far (p := ⟨gb178, 5, none⟩) (Kd.N_far (p := ⟨gb178, 4, none⟩) (Kd.N_far (p := ⟨gb178, 3, none⟩) (Kd.N_far (p := ⟨gb178, 2, none⟩) (Kd.N_far (p := ⟨gb178, 1, none⟩) (Kd.N_far (p := ⟨gb178, 0, none⟩) (Kd.N_mono HO162.out (fun k_ hk => (⟨hk, hk.2⟩ : _ ∧ k_ ≠ gb178))) (fun _ hk => hk.2) (.int .i64 t166)) (fun _ hk => hk.2) (.int .i64 t167)) (fun _ hk => hk.2) (.slice Ao20 t168.length co20)) (fun _ hk => hk.2) (.slice Ao21 t171.length co21)) (fun _ hk => hk.2) (.bool t174)) (fun _ hk => hk.2) (.bool t175)) (fun _ hk => hk.2) (.bool t176)) (fun _ hk => ⟨hk.1.1.1.1, ⟨hk.1.1.1.2, ⟨hk.1.1.2, hk.1.2⟩⟩⟩)⟩
 have n1_ : Aside0 (Kd.R (Kd.int .i64) 3 (((((((w18.setCell ⟨gb178, 0, none⟩ (.int .i64 t166)).setCell ⟨gb178, 1, none⟩ (.int .i64 t167)).setCell ⟨gb178, 2, none⟩ (.slice Ao20 t168.length co20)).setCell ⟨gb178, 3, none⟩ (.slice Ao21 t171.length co21)).setCell ⟨gb178, 4, none⟩ (.bool t174)).setCell ⟨gb178, 5, none⟩ (.bool t175)).setCell ⟨gb178, 6, none⟩ (.bool t176)) w.heap.size (fun k_ => some k_ ≠ (.slice Ao21 t171.length co21 : Value).ownBlock) (.slice Ao16 t163.length co16) t163) := ⟨by (with_reducible repeat (first | apply Kd.R_alloc | apply Kd.R_drewN | apply Kd.R_drew)); exact Kd.R_mono (Kd.R_far (p := ⟨gb178, 6, none⟩) (Kd.R_far (p := ⟨gb178, 5, none⟩) (Kd.R_far (p := ⟨gb178, 4, none⟩) (Kd.R_far (p := ⟨gb178, 3, none⟩) (Kd.R_far (p := ⟨gb178, 2, none⟩) (Kd.R_far (p := ⟨gb178, 1, none⟩) (Kd.R_far (p := ⟨gb178, 0, none⟩) (Kd.R_types HO165.out BK178.out (by decide)) (fun _ hk => hk.2) (.int .i64 t166)) (fun _ hk => hk.2) (.int .i64 t167)) (fun _ hk => hk.2) (.slice Ao20 t168.length co20)) (fun _ hk => hk.2) (.slice Ao21 t171.length co21)) (fun _ hk => hk.2) (.bool t174)) (fun _ hk => hk.2) (.bool t175)) (fun _ hk => hk.2) (.bool t176)) (fun _ hk => hk.1.2)⟩
 have n2_ : Aside0 (Kd.R Kd.bool 4 (((((((w18.setCell ⟨gb178, 0, none⟩ (.int .i64 t166)).setCell ⟨gb178, 1, none⟩ (.int .i64 t167)).setCell ⟨gb178, 2, none⟩ (.slice Ao20 t168.length co20)).setCell ⟨gb178, 3, none⟩ (.slice Ao21 t171.length co21)).setCell ⟨gb178, 4, none⟩ (.bool t174)).setCell ⟨gb178, 5, none⟩ (.bool t175)).setCell ⟨gb178, 6, none⟩ (.bool t176)) w.heap.size (fun _ => True) (.slice Ao20 t168.length co20) t168) := ⟨by (with_reducible repeat (first | apply Kd.R_alloc | apply Kd.R_drewN | apply Kd.R_drew)); exact Kd.R_mono (Kd.R_far (p := ⟨gb178, 6, none⟩) (Kd.R_far (p := ⟨gb178, 5, none⟩) (Kd.R_far (p := ⟨gb178, 4, none⟩) (Kd.R_far (p := ⟨gb178, 3, none⟩) (Kd.R_far (p := ⟨gb178, 2, none⟩) (Kd.R_far (p := ⟨gb178, 1, none⟩) (Kd.R_far (p := ⟨gb178, 0, none⟩) (Kd.R_types HO170.out BK178.out (by decide)) (fun _ hk => hk.2) (.int .i64 t166)) (fun _ hk => hk.2) (.int .i64 t167)) (fun _ hk => hk.2) (.slice Ao20 t168.length co20)) (fun _ hk => hk.2) (.slice Ao21 t171.length co21)) (fun _ hk => hk.2) (.bool t174)) (fun _ hk => hk.2) (.bool t175)) (fun _ hk => hk.2) (.bool t176)) (fun _ hk => trivial)⟩
 have n3_ : Aside0 (Kd.R (Kd.int .i64) 3 (((((((w18.setCell ⟨gb178, 0, none⟩ (.int .i64 t166)).setCell ⟨gb178, 1, none⟩ (.int .i64 t167)).setCell ⟨gb178, 2, none⟩ (.slice Ao20 t168.length co20)).setCell ⟨gb178, 3, none⟩ (.slice Ao21 t171.length co21)).setCell ⟨gb178, 4, none⟩ (.bool t174)).setCell ⟨gb178, 5, none⟩ (.bool t175)).setCell ⟨gb178, 6, none⟩ (.bool t176)) w.heap.size (fun k_ => some k_ ≠ (.slice Ao16 t163.length co16 : Value).ownBlock) (.slice Ao21 t171.length co21) t171) := ⟨by (with_reducible repeat (first | apply Kd.R_alloc | apply Kd.R_drewN | apply Kd.R_drew)); exact Kd.R_mono (Kd.R_far (p := ⟨gb178, 6, none⟩) (Kd.R_far (p := ⟨gb178, 5, none⟩) (Kd.R_far (p := ⟨gb178, 4, none⟩) (Kd.R_far (p := ⟨gb178, 3, none⟩) (Kd.R_far (p := ⟨gb178, 2, none⟩) (Kd.R_far (p := ⟨gb178, 1, none⟩) (Kd.R_far (p := ⟨gb178, 0, none⟩) (Kd.R_types HO173.out BK178.out (by decide)) (fun _ hk => hk.2) (.int .i64 t166)) (fun _ hk => hk.2) (.int .i64 t167)) (fun _ hk => hk.2) (.slice Ao20 t168.length co20)) (fun _ hk => hk.2) (.slice Ao21 t171.length co21)) (fun _ hk => hk.2) (.bool t174)) (fun _ hk => hk.2) (.bool t175)) (fun _ hk => hk.2) (.bool t176)) (fun _ hk => hk.1.2)⟩
 have n4_ : Aside0 ((((((((w18.setCell ⟨gb178, 0, none⟩ (.int .i64 t166)).setCell ⟨gb178, 1, none⟩ (.int .i64 t167)).setCell ⟨gb178, 2, none⟩ (.slice Ao20 t168.length co20)).setCell ⟨gb178, 3, none⟩ (.slice Ao21 t171.length co21)).setCell ⟨gb178, 4, none⟩ (.bool t174)).setCell ⟨gb178, 5, none⟩ (.bool t175)).setCell ⟨gb178, 6, none⟩ (.bool t176)).heap[gb178]? = some (.cells #[.int .i64 t166, .int .i64 t167, .slice Ao20 t168.length co20, .slice Ao21 t171.length co21, .bool t174, .bool t175, .bool t176] 28 (0, 0))) := ⟨by (with_reducible repeat first | apply kn_ | apply kd_ | apply ka_); refine blk_put (cs := #[.int .i64 t166, .int .i64 t167, .slice Ao20 t168.length co20, .slice Ao21 t171.length co21, .bool t174, .bool t175, .bool false]) ?_ 6 _ rfl; (with_reducible repeat first | apply kn_ | apply kd_ | apply ka_); refine blk_put (cs := #[.int .i64 t166, .int .i64 t167, .slice Ao20 t168.length co20, .slice Ao21 t171.length co21, .bool t174, .bool false, .bool false]) ?_ 5 _ rfl; (with_reducible repeat first | apply kn_ | apply kd_ | apply ka_); refine blk_put (cs := #[.int .i64 t166, .int .i64 t167, .slice Ao20 t168.length co20, .slice Ao21 t171.length co21, .bool false, .bool false, .bool false]) ?_ 4 _ rfl; (with_reducible repeat first | apply kn_ | apply kd_ | apply ka_); refine blk_put (cs := #[.int .i64 t166, .int .i64 t167, .slice Ao20 t168.length co20, .slice none 0 0, .bool false, .bool false, .bool false]) ?_ 3 _ rfl; (with_reducible repeat first | apply kn_ | apply kd_ | apply ka_); refine blk_put (cs := #[.int .i64 t166, .int .i64 t167, .slice none 0 0, .slice none 0 0, .bool false, .bool false, .bool false]) ?_ 2 _ rfl; (with_reducible repeat first | apply kn_ | apply kd_ | apply ka_); refine blk_put (cs := #[.int .i64 t166, .int .i64 0, .slice none 0 0, .slice none 0 0, .bool false, .bool false, .bool false]) ?_ 1 _ rfl; (with_reducible repeat first | apply kn_ | apply kd_ | apply ka_); refine blk_put (cs := #[.int .i64 0, .int .i64 0, .slice none 0 0, .slice none 0 0, .bool false, .bool false, .bool false]) ?_ 0 _ rfl; (with_reducible repeat first | apply kn_ | apply kd_ | apply ka_); exact BK178.out⟩
 have n5_ : Aside0 (Below w.heap.size w (((((((w18.setCell ⟨gb178, 0, none⟩ (.int .i64 t166)).setCell ⟨gb178, 1, none⟩ (.int .i64 t167)).setCell ⟨gb178, 2, none⟩ (.slice Ao20 t168.length co20)).setCell ⟨gb178, 3, none⟩ (.slice Ao21 t171.length co21)).setCell ⟨gb178, 4, none⟩ (.bool t174)).setCell ⟨gb178, 5, none⟩ (.bool t175)).setCell ⟨gb178, 6, none⟩ (.bool t176))) := ⟨by repeat (first | (with_reducible first | exact HB.out | apply ba_ | apply bn_ | apply b1_ | refine bs_ ?_ GE178.out) | exact HB.out)⟩
 (try clear HO162)
 (try clear HO165)
 (try clear HO170)
 (try clear HO173)
 (try clear BK178)
 (try clear HB)
 generalize (((((((w18.setCell ⟨gb178, 0, none⟩ (.int .i64 t166)).setCell ⟨gb178, 1, none⟩ (.int .i64 t167)).setCell ⟨gb178, 2, none⟩ (.slice Ao20 t168.length co20)).setCell ⟨gb178, 3, none⟩ (.slice Ao21 t171.length co21)).setCell ⟨gb178, 4, none⟩ (.bool t174)).setCell ⟨gb178, 5, none⟩ (.bool t175)).setCell ⟨gb178, 6, none⟩ (.bool t176)) = w22 at n0_ n1_ n2_ n3_ n4_ n5_ ⊢
 have HO162 := n0_
 have HO165 := n1_
 have HO170 := n2_
 have HO173 := n3_
 have BK178 := n4_
 have HB := n5_
 clear n0_ n1_ n2_ n3_ n4_ n5_
 have n0_ := ak (Kd.N_drew HO162.out)
 have n1_ := ak (Kd.R_drew HO165.out)
 have n2_ := ak (Kd.R_drew HO170.out)
 have n3_ := ak (Kd.R_drew HO173.out)
 have n4_ := ak (blk_drew BK178.out)
 have n5_ := ak (below_drew1 HB.out)
 clear HO162 HO165 HO170 HO173 BK178 HB
 have HO162 := n0_
 have HO165 := n1_
 have HO170 := n2_
 have HO173 := n3_
 have BK178 := n4_
 have HB := n5_
 clear n0_ n1_ n2_ n3_ n4_ n5_
 refine start_ (n := 9) (S := fun w' => w'.cell? ⟨gb178, 0, none⟩ = some (.int .i64 t166) ∧ w'.cell? ⟨gb178, 1, none⟩ = some (.int .i64 t167) ∧ w'.cell? ⟨gb178, 2, none⟩ = some (.slice Ao20 t168.length co20) ∧ w'.cell? ⟨gb178, 3, none⟩ = some (.slice Ao21 t171.length co21) ∧ w'.cell? ⟨gb178, 4, none⟩ = some (.bool t174) ∧ w'.cell? ⟨gb178, 5, none⟩ = some (.bool t175) ∧ w'.cell? ⟨gb178, 6, none⟩ = some (.bool t176)) (ds := []) #[false, false, false, false, false, false, false, false, false] (by kernel_rfl) rfl rfl ⟨(blk_cell BK178.out 0).trans rfl, (blk_cell BK178.out 1).trans rfl, (blk_cell BK178.out 2).trans rfl, (blk_cell BK178.out 3).trans rfl, (blk_cell BK178.out 4).trans rfl, (blk_cell BK178.out 5).trans rfl, (blk_cell BK178.out 6).trans rfl⟩ (fun hHeld => ?_); refine with_tabW atticlaw19_live.tab4 atticlaw19_live.bits4 (fun HT_ HW_ => ?_)
 generalize w22.drew = w23 at HO162 HO165 HO170 HO173 BK178 HB hHeld ⊢
 refine take_ (i := 1) (N := some 14) (v := ?_) (a' := ?_) #[false, true, false, false, false, false, false, false, false] rfl rfl (take_ofW HT_.out HW_.out (by kernel_rfl)) (fun _ _ _ h => h) (Or.inl ⟨by rfl, ?_⟩) hHeld ?_ ?_
 rotate_left
 ·rintro w' ⟨s0, s1, s2, s3, s4, s5, s6⟩
  go_simp
  with_reducible rfl
 rotate_left
 ·simp only [Act.put, sq0, sq1, sq2, sq3, sq4]
  rfl
 refine join_ (σ := Value × Value × Value × Value × Nat) 2 #[true, true, true, true, true, true, true, false, false] (fun s_ => [(13, .agg #[s_.1, s_.2.1]), (15, .tuple #[.agg #[.int .i64 t185, .int .i64 t186, s_.2.2.1, s_.2.2.2.1, .bool t193, .bool t194, .bool t195], .int .i64 t196]), (3, .pointer (some ⟨s_.2.2.2.2, 0, none⟩)), (12, .tuple #[.agg #[.int .i64 t185, .int .i64 t186, s_.2.2.1, s_.2.2.2.1, .bool t193, .bool t194, .bool t195], .int .i64 t196]), (16, .agg #[.int .i64 t185, .int .i64 t186, s_.2.2.1, s_.2.2.2.1, .bool t193, .bool t194, .bool t195]), (17, .int .i64 t196)]) (fun s_ w' => (w'.cell? ⟨gb178, 0, none⟩ = some (.int .i64 t166) ∧ w'.cell? ⟨gb178, 1, none⟩ = some (.int .i64 t167) ∧ w'.cell? ⟨gb178, 2, none⟩ = some (.slice Ao20 t168.length co20) ∧ w'.cell? ⟨gb178, 3, none⟩ = some (.slice Ao21 t171.length co21) ∧ w'.cell? ⟨gb178, 4, none⟩ = some (.bool t174) ∧ w'.cell? ⟨gb178, 5, none⟩ = some (.bool t175) ∧ w'.cell? ⟨gb178, 6, none⟩ = some (.bool t176)) ∧ (Kd.N k56 56 w' w.heap.size (fun k_ => some k_ ≠ (.slice Ao16 t163.length co16 : Value).ownBlock ∧ some k_ ≠ (.slice Ao20 t168.length co20 : Value).ownBlock ∧ some k_ ≠ (.slice Ao21 t171.length co21 : Value).ownBlock ∧ some k_ ≠ (s_.1 : Value).ownBlock ∧ some k_ ≠ (s_.2.1 : Value).ownBlock ∧ some k_ ≠ (s_.2.2.1 : Value).ownBlock ∧ some k_ ≠ (s_.2.2.2.1 : Value).ownBlock ∧ k_ ≠ gb178 ∧ k_ ≠ s_.2.2.2.2) (.slice Ao15 t160.length co15) t160) ∧ (Kd.R (Kd.int .i64) 3 w' w.heap.size (fun k_ => some k_ ≠ (.slice Ao21 t171.length co21 : Value).ownBlock ∧ some k_ ≠ (s_.2.1 : Value).ownBlock ∧ some k_ ≠ (s_.2.2.2.1 : Value).ownBlock) (.slice Ao16 t163.length co16) t163) ∧ (Kd.R Kd.bool 4 w' w.heap.size (fun k_ => some k_ ≠ (s_.2.2.1 : Value).ownBlock) (.slice Ao20 t168.length co20) t168) ∧ (Kd.R (Kd.int .i64) 3 w' w.heap.size (fun k_ => some k_ ≠ (.slice Ao16 t163.length co16 : Value).ownBlock ∧ some k_ ≠ (s_.2.1 : Value).ownBlock ∧ some k_ ≠ (s_.2.2.2.1 : Value).ownBlock) (.slice Ao21 t171.length co21) t171) ∧ (Kd.N k56 56 w' w.heap.size (fun k_ => some k_ ≠ (.slice Ao15 t160.length co15 : Value).ownBlock ∧ some k_ ≠ (.slice Ao16 t163.length co16 : Value).ownBlock ∧ some k_ ≠ (.slice Ao20 t168.length co20 : Value).ownBlock ∧ some k_ ≠ (.slice Ao21 t171.length co21 : Value).ownBlock ∧ some k_ ≠ (s_.2.1 : Value).ownBlock ∧ some k_ ≠ (s_.2.2.1 : Value).ownBlock ∧ some k_ ≠ (s_.2.2.2.1 : Value).ownBlock ∧ k_ ≠ gb178 ∧ k_ ≠ s_.2.2.2.2) s_.1 t179) ∧ (Kd.R (Kd.int .i64) 3 w' w.heap.size (fun k_ => some k_ ≠ (.slice Ao16 t163.length co16 : Value).ownBlock ∧ some k_ ≠ (.slice Ao21 t171.length co21 : Value).ownBlock ∧ some k_ ≠ (s_.2.2.2.1 : Value).ownBlock) s_.2.1 t182) ∧ (Kd.R Kd.bool 4 w' w.heap.size (fun k_ => some k_ ≠ (.slice Ao20 t168.length co20 : Value).ownBlock) s_.2.2.1 t187) ∧ (Kd.R (Kd.int .i64) 3 w' w.heap.size (fun k_ => some k_ ≠ (.slice Ao16 t163.length co16 : Value).ownBlock ∧ some k_ ≠ (.slice Ao21 t171.length co21 : Value).ownBlock ∧ some k_ ≠ (s_.2.1 : Value).ownBlock) s_.2.2.2.1 t190) ∧ (w'.heap[gb178]? = some (.cells #[.int .i64 t166, .int .i64 t167, .slice Ao20 t168.length co20, .slice Ao21 t171.length co21, .bool t174, .bool t175, .bool t176] 28 (0, 0))) ∧ (w'.heap[s_.2.2.2.2]? = some (.cells #[.int .i64 0, .int .i64 0, .slice none 0 0, .slice none 0 0, .bool false, .bool false, .bool false] 28 (0, 0))) ∧ (w.heap.size ≤ s_.2.2.2.2) ∧ (w.heap.size ≤ s_.2.2.2.2) ∧ (gb178 ≠ s_.2.2.2.2) ∧ (s_.2.2.2.2 ≠ gb178) ∧ (Below w.heap.size w w')) ?_ ?_
 rotate_left
 ·intro hCont
  refine two_ (i := 0) (j := 6) (Ni := some 13) (Nj := some 3) #[true, true, false, false, false, false, false, false, false] #[false, true, false, false, false, false, true, false, false] rfl rfl rfl rfl (two_of HT_.out (by kernel_rfl)) (by decide) (by decide) (fun K hK => ?_) (fun K hK => ?_)
  ·skip
   refine goes_ Try.func35 (by kernel_rfl) rfl #[] (by rfl) rfl rfl (by (try simp only [List.map_toArray, List.map_cons, List.map_nil]); first | done | rfl | (simp only [List.length_drop, List.length_take]; rfl)) ?_
   with_reducible refine (atticlaw19_plain.calls  t179 t182 _ A4.out).mono ?_
   rintro e w24 ⟨v180, v183, rfl, ho0, ho1, hb⟩
   refine ⟨_, rfl, ?_⟩
   have n0_ := ak (Kd.N_mono (Kd.N_told (Kd.N_told (Kd.N_old (by (with_reducible repeat (first | apply Kd.N_alloc | apply Kd.N_drewN | apply Kd.N_drew)); exact HO162.out) hb) (Kd.N_base ho0)) (Kd.R_base ho1)) (fun _ h_ => h_.1))
   have n1_ := ak (Kd.R_elder' (by (with_reducible repeat (first | apply Kd.R_alloc | apply Kd.R_drewN | apply Kd.R_drew)); exact HO165.out) (Kd.R_base ho1) hb)
   have n2_ := ak (Kd.R_below (by (with_reducible repeat (first | apply Kd.R_alloc | apply Kd.R_drewN | apply Kd.R_drew)); exact HO170.out) hb)
   have n3_ := ak (Kd.R_elder' (by (with_reducible repeat (first | apply Kd.R_alloc | apply Kd.R_drewN | apply Kd.R_drew)); exact HO173.out) (Kd.R_base ho1) hb)
   have n4_ := ak (Kd.N_lower (Kd.N_mono (ok' := fun k_ => some k_ ≠ (v183 : Value).ownBlock ∧ some k_ ≠ (.slice Ao15 t160.length co15 : Value).ownBlock ∧ some k_ ≠ (.slice Ao16 t163.length co16 : Value).ownBlock ∧ some k_ ≠ (.slice Ao20 t168.length co20 : Value).ownBlock ∧ some k_ ≠ (.slice Ao21 t171.length co21 : Value).ownBlock ∧ k_ ≠ gb178) ho0 (fun k_ hk_ => ⟨hk_.2, (Kd.fresh' (Kd.N_lt (by (with_reducible repeat (first | apply Kd.N_alloc | apply Kd.N_drewN | apply Kd.N_drew)); exact HO162.out)) k_ hk_.1), (Kd.fresh' (Kd.R_lt (by (with_reducible repeat (first | apply Kd.R_alloc | apply Kd.R_drewN | apply Kd.R_drew)); exact HO165.out)) k_ hk_.1), (Kd.fresh' (Kd.R_lt (by (with_reducible repeat (first | apply Kd.R_alloc | apply Kd.R_drewN | apply Kd.R_drew)); exact HO170.out)) k_ hk_.1), (Kd.fresh' (Kd.R_lt (by (with_reducible repeat (first | apply Kd.R_alloc | apply Kd.R_drewN | apply Kd.R_drew)); exact HO173.out)) k_ hk_.1), (Kd.freshB (g := gb178) (o := .cells #[.int .i64 t166, .int .i64 t167, .slice Ao20 t168.length co20, .slice Ao21 t171.length co21, .bool t174, .bool t175, .bool t176] 28 (0, 0)) (by (with_reducible repeat first | apply kn_ | apply kd_ | apply ka_); exact BK178.out) k_ hk_.1)⟩)) (below_size (by repeat (first | (with_reducible first | exact HB.out | apply ba_ | apply bn_ | apply b1_ | refine bs_ ?_ GE178.out) | exact HB.out))))
   have n5_ := ak (Kd.R_lower (Kd.R_new' (Kd.R_new' (Kd.R_mono (ok' := fun k_ => True) ho1 (fun _ hk_ => trivial)) (Kd.R_lt (by (with_reducible repeat (first | apply Kd.R_alloc | apply Kd.R_drewN | apply Kd.R_drew)); exact HO165.out))) (Kd.R_lt (by (with_reducible repeat (first | apply Kd.R_alloc | apply Kd.R_drewN | apply Kd.R_drew)); exact HO173.out))) (below_size (by repeat (first | (with_reducible first | exact HB.out | apply ba_ | apply bn_ | apply b1_ | refine bs_ ?_ GE178.out) | exact HB.out))))
   have n6_ := ak (blk_below (by (with_reducible repeat first | apply kn_ | apply kd_ | apply ka_); exact BK178.out) hb)
   have n7_ := ak (below_step (by repeat (first | (with_reducible first | exact HB.out | apply ba_ | apply bn_ | apply b1_ | refine bs_ ?_ GE178.out) | exact HB.out)) hb)
   clear HO162 HO165 HO170 HO173 BK178 HB
   have HO162 := n0_
   have HO165 := n1_
   have HO170 := n2_
   have HO173 := n3_
   have HO181 := n4_
   have HO184 := n5_
   have BK178 := n6_
   have HB := n7_
   clear n0_ n1_ n2_ n3_ n4_ n5_ n6_ n7_
   (try clear hb)
   (try clear hb2)
   (try clear hk)
   (try clear hi)
   (try clear ho0)
   (try clear ho1)
   obtain ⟨Ao25, co25, eo25⟩ := Kd.N_slice HO181.out
   (first | subst eo25 | (injection eo25 with f1_ f2_ f3_; have f4_ := f1_.symm; have f5_ := f3_.symm; clear f1_ f2_ f3_; subst f4_; subst f5_))
   obtain ⟨Ao26, co26, eo26⟩ := Kd.R_slice HO184.out
   (first | subst eo26 | (injection eo26 with f1_ f2_ f3_; have f4_ := f1_.symm; have f5_ := f3_.symm; clear f1_ f2_ f3_; subst f4_; subst f5_))
   refine hK.out _ _ ⟨(blk_cell BK178.out 0).trans rfl, (blk_cell BK178.out 1).trans rfl, (blk_cell BK178.out 2).trans rfl, (blk_cell BK178.out 3).trans rfl, (blk_cell BK178.out 4).trans rfl, (blk_cell BK178.out 5).trans rfl, (blk_cell BK178.out 6).trans rfl⟩ (fun hHeld => ?_)
   clear hK K
   refine norm_ (a' := ?_) ?_ ?_
   rotate_left
   ·show Act.put _ (some 13) _ = _
    simp only [Act.put, sq0, sq1, sq2, sq3, sq4]
    rfl
   refine two_ (i := 2) (j := 6) (Ni := some 15) (Nj := some 3) #[true, true, true, false, false, false, false, false, false] #[true, true, false, false, false, false, true, false, false] rfl rfl rfl rfl (two_of HT_.out (by kernel_rfl)) (by decide) (by decide) (fun K hK => ?_) (fun K hK => ?_)
   ·skip
    refine goes_ Try.func12 (by kernel_rfl) rfl #[.agg #[.slice Ao25 t179.length co25, .slice Ao26 t182.length co26], .int .i64 4, .agg #[.int .i64 t166, .int .i64 t167, .slice Ao20 t168.length co20, .slice Ao21 t171.length co21, .bool t174, .bool t175, .bool t176], .int .i64 99] (by rfl) rfl rfl (by (try simp only [List.map_toArray, List.map_cons, List.map_nil]); first | done | rfl | (simp only [List.length_drop, List.length_take]; rfl)) ?_
    with_reducible refine (mark_Run.calls k _ _ t179 _ _ t182 4 t166 t167 _ _ t168 _ _ t171 t174 t175 t176 99 t185 t186 t187 t190 t193 t194 t195 t196 _ ?side1 ?side2 ?side3 ?side4 ?side5 ?side6 ?side7 ?side8 A5.out).mono ?_
    (case side1 => repeat (first | exact (Kd.N_reads' HO181.out).2.2 | (with_reducible first | refine ca_ ?_ _ | refine cn_ ?_ _ | refine cd_ ?_)))
    (case side2 => exact (Kd.N_reads' HO181.out).2.1)
    (case side3 => repeat (first | exact (Kd.R_reads' HO184.out).2.2 | (with_reducible first | refine ca_ ?_ _ | refine cn_ ?_ _ | refine cd_ ?_)))
    (case side4 => exact (Kd.R_reads' HO184.out).2.1)
    (case side5 => repeat (first | exact (Kd.R_reads' HO170.out).2.2 | (with_reducible first | refine ca_ ?_ _ | refine cn_ ?_ _ | refine cd_ ?_)))
    (case side6 => exact (Kd.R_reads' HO170.out).2.1)
    (case side7 => repeat (first | exact (Kd.R_reads' HO173.out).2.2 | (with_reducible first | refine ca_ ?_ _ | refine cn_ ?_ _ | refine cd_ ?_)))
    (case side8 => exact (Kd.R_reads' HO173.out).2.1)
    rintro e w27 ⟨v188, v191, rfl, ho0, ho1, hb⟩
    refine ⟨_, rfl, ?_⟩
    have n0_ := ak (Kd.N_mono (Kd.N_told (Kd.N_told (Kd.N_old (by (with_reducible repeat (first | apply Kd.N_alloc | apply Kd.N_drewN | apply Kd.N_drew)); exact HO162.out) hb) (Kd.R_base ho0)) (Kd.R_base ho1)) (fun _ h_ => h_.1))
    have n1_ := ak (Kd.R_elder' (by (with_reducible repeat (first | apply Kd.R_alloc | apply Kd.R_drewN | apply Kd.R_drew)); exact HO165.out) (Kd.R_base ho1) hb)
    have n2_ := ak (Kd.R_elder' (by (with_reducible repeat (first | apply Kd.R_alloc | apply Kd.R_drewN | apply Kd.R_drew)); exact HO170.out) (Kd.R_base ho0) hb)
    have n3_ := ak (Kd.R_elder' (by (with_reducible repeat (first | apply Kd.R_alloc | apply Kd.R_drewN | apply Kd.R_drew)); exact HO173.out) (Kd.R_base ho1) hb)
    have n4_ := ak (Kd.N_mono (Kd.N_told (Kd.N_told (Kd.N_old (by (with_reducible repeat (first | apply Kd.N_alloc | apply Kd.N_drewN | apply Kd.N_drew)); exact HO181.out) hb) (Kd.R_base ho0)) (Kd.R_base ho1)) (fun _ h_ => h_.1))
    have n5_ := ak (Kd.R_elder' (by (with_reducible repeat (first | apply Kd.R_alloc | apply Kd.R_drewN | apply Kd.R_drew)); exact HO184.out) (Kd.R_base ho1) hb)
    have n6_ := ak (Kd.R_lower (Kd.R_new' ho0 (Kd.R_lt (by (with_reducible repeat (first | apply Kd.R_alloc | apply Kd.R_drewN | apply Kd.R_drew)); exact HO170.out))) (below_size (by repeat (first | (with_reducible first | exact HB.out | apply ba_ | apply bn_ | apply b1_ | refine bs_ ?_ GE178.out) | exact HB.out))))
    have n7_ := ak (Kd.R_lower (Kd.R_new' (Kd.R_new' (Kd.R_new' ho1 (Kd.R_lt (by (with_reducible repeat (first | apply Kd.R_alloc | apply Kd.R_drewN | apply Kd.R_drew)); exact HO165.out))) (Kd.R_lt (by (with_reducible repeat (first | apply Kd.R_alloc | apply Kd.R_drewN | apply Kd.R_drew)); exact HO173.out))) (Kd.R_lt (by (with_reducible repeat (first | apply Kd.R_alloc | apply Kd.R_drewN | apply Kd.R_drew)); exact HO184.out))) (below_size (by repeat (first | (with_reducible first | exact HB.out | apply ba_ | apply bn_ | apply b1_ | refine bs_ ?_ GE178.out) | exact HB.out))))
    have n8_ := ak (blk_below (by (with_reducible repeat first | apply kn_ | apply kd_ | apply ka_); exact BK178.out) hb)
    have n9_ := ak (below_step (by repeat (first | (with_reducible first | exact HB.out | apply ba_ | apply bn_ | apply b1_ | refine bs_ ?_ GE178.out) | exact HB.out)) hb)
    clear HO162 HO165 HO170 HO173 HO181 HO184 BK178 HB
    have HO162 := n0_
    have HO165 := n1_
    have HO170 := n2_
    have HO173 := n3_
    have HO181 := n4_
    have HO184 := n5_
    have HO189 := n6_
    have HO192 := n7_
    have BK178 := n8_
    have HB := n9_
    clear n0_ n1_ n2_ n3_ n4_ n5_ n6_ n7_ n8_ n9_
    (try clear hb)
    (try clear hb2)
    (try clear hk)
    (try clear hi)
    (try clear ho0)
    (try clear ho1)
    refine hK.out _ _ ⟨(blk_cell BK178.out 0).trans rfl, (blk_cell BK178.out 1).trans rfl, (blk_cell BK178.out 2).trans rfl, (blk_cell BK178.out 3).trans rfl, (blk_cell BK178.out 4).trans rfl, (blk_cell BK178.out 5).trans rfl, (blk_cell BK178.out 6).trans rfl⟩ (fun hHeld => ?_)
    clear hK K
    refine norm_ (a' := ?_) ?_ ?_
    rotate_left
    ·show Act.put _ (some 15) _ = _
     simp only [Act.put, sq0, sq1, sq2, sq3, sq4]
     rfl
    refine pure_ (i := 3) (N := some 12) (v := ?_) (a' := ?_) #[true, true, true, true, false, false, false, false, false] rfl rfl (any_of HT_.out (by kernel_rfl)) (fun _ _ _ h => h) (Or.inl ⟨by rfl, ?_⟩) ?_ ?_
    rotate_left
    ·intro w'
     go_simp
     with_reducible rfl
    rotate_left
    ·simp only [Act.put, sq0, sq1, sq2, sq3, sq4]
     rfl
    refine pure_ (i := 4) (N := some 16) (v := ?_) (a' := ?_) #[true, true, true, true, true, false, false, false, false] rfl rfl (any_of HT_.out (by kernel_rfl)) (fun _ _ _ h => h) (Or.inl ⟨by rfl, ?_⟩) ?_ ?_
    rotate_left
    ·intro w'
     go_simp
     with_reducible rfl
    rotate_left
    ·simp only [Act.put, sq0, sq1, sq2, sq3, sq4]
     rfl
    refine pure_ (i := 5) (N := some 17) (v := ?_) (a' := ?_) #[true, true, true, true, true, true, false, false, false] rfl rfl (any_of HT_.out (by kernel_rfl)) (fun _ _ _ h => h) (Or.inl ⟨by rfl, ?_⟩) ?_ ?_
    rotate_left
    ·intro w'
     go_simp
     with_reducible rfl
    rotate_left
    ·simp only [Act.put, sq0, sq1, sq2, sq3, sq4]
     rfl
    refine one_ (i := 6) (N := some 3) #[true, true, true, true, true, true, true, false, false] rfl rfl (one_of HT_.out (by kernel_rfl)) (by decide) (fun K hK => ?_)
    refine box_step ?hg (N := 3) ?hd (cs := #[.int .i64 0, .int .i64 0, .slice none 0 0, .slice none 0 0, .bool false, .bool false, .bool false]) (t := 28) ?hr ?_; (case hd => rfl); (case hg => rfl); (case hr => first | (go_simp; done) | (go_simp; rfl))
    intro gb197 hg w28 hbox hb
    have n0_ := ak (Kd.N_below (Kd.N_elderB (by (with_reducible repeat (first | apply Kd.N_alloc | apply Kd.N_drewN | apply Kd.N_drew)); exact HO162.out) gb197 (Nat.le_of_eq hg.symm)) hb)
    have n1_ := ak (Kd.R_below (by (with_reducible repeat (first | apply Kd.R_alloc | apply Kd.R_drewN | apply Kd.R_drew)); exact HO165.out) hb)
    have n2_ := ak (Kd.R_below (by (with_reducible repeat (first | apply Kd.R_alloc | apply Kd.R_drewN | apply Kd.R_drew)); exact HO170.out) hb)
    have n3_ := ak (Kd.R_below (by (with_reducible repeat (first | apply Kd.R_alloc | apply Kd.R_drewN | apply Kd.R_drew)); exact HO173.out) hb)
    have n4_ := ak (Kd.N_below (Kd.N_elderB (by (with_reducible repeat (first | apply Kd.N_alloc | apply Kd.N_drewN | apply Kd.N_drew)); exact HO181.out) gb197 (Nat.le_of_eq hg.symm)) hb)
    have n5_ := ak (Kd.R_below (by (with_reducible repeat (first | apply Kd.R_alloc | apply Kd.R_drewN | apply Kd.R_drew)); exact HO184.out) hb)
    have n6_ := ak (Kd.R_below (by (with_reducible repeat (first | apply Kd.R_alloc | apply Kd.R_drewN | apply Kd.R_drew)); exact HO189.out) hb)
    have n7_ := ak (Kd.R_below (by (with_reducible repeat (first | apply Kd.R_alloc | apply Kd.R_drewN | apply Kd.R_drew)); exact HO192.out) hb)
    have n8_ := ak (blk_below (by (with_reducible repeat first | apply kn_ | apply kd_ | apply ka_); exact BK178.out) hb)
    have n9_ := ak (below_step (by repeat (first | (with_reducible first | exact HB.out | apply ba_ | apply bn_ | apply b1_ | refine bs_ ?_ GE178.out) | exact HB.out)) hb)
    have n10_ := ak (hbox)
    have n11_ := ak ((by rw [hg]; exact (below_size (by repeat (first | (with_reducible first | exact HB.out | apply ba_ | apply bn_ | apply b1_ | refine bs_ ?_ GE178.out) | exact HB.out))) : w.heap.size ≤ gb197))
    have n12_ := ak ((by rw [hg]; exact (below_size (by repeat (first | (with_reducible first | exact HB.out | apply ba_ | apply bn_ | apply b1_ | refine bs_ ?_ GE178.out) | exact HB.out))) : w.heap.size ≤ gb197))
    have n13_ := ak ((by rw [hg]; exact Nat.ne_of_lt (blk_lt (g := gb178) (o := .cells #[.int .i64 t166, .int .i64 t167, .slice Ao20 t168.length co20, .slice Ao21 t171.length co21, .bool t174, .bool t175, .bool t176] 28 (0, 0)) (by (with_reducible repeat first | apply kn_ | apply kd_ | apply ka_); exact BK178.out)) : gb178 ≠ gb197))
    have n14_ := ak ((by rw [hg]; exact Nat.ne_of_gt (blk_lt (g := gb178) (o := .cells #[.int .i64 t166, .int .i64 t167, .slice Ao20 t168.length co20, .slice Ao21 t171.length co21, .bool t174, .bool t175, .bool t176] 28 (0, 0)) (by (with_reducible repeat first | apply kn_ | apply kd_ | apply ka_); exact BK178.out)) : gb197 ≠ gb178))
    clear HO162 HO165 HO170 HO173 HO181 HO184 HO189 HO192 BK178 HB
    have HO162 := n0_
    have HO165 := n1_
    have HO170 := n2_
    have HO173 := n3_
    have HO181 := n4_
    have HO184 := n5_
    have HO189 := n6_
    have HO192 := n7_
    have BK178 := n8_
    have HB := n9_
    have BK197 := n10_
    have GW197 := n11_
    have GE197 := n12_
    have NB178_197 := n13_
    have NB197_178 := n14_
    clear n0_ n1_ n2_ n3_ n4_ n5_ n6_ n7_ n8_ n9_ n10_ n11_ n12_ n13_ n14_ hb hbox hg
    refine hK.out _ _ ⟨(blk_cell BK178.out 0).trans rfl, (blk_cell BK178.out 1).trans rfl, (blk_cell BK178.out 2).trans rfl, (blk_cell BK178.out 3).trans rfl, (blk_cell BK178.out 4).trans rfl, (blk_cell BK178.out 5).trans rfl, (blk_cell BK178.out 6).trans rfl⟩ (fun hHeld => ?_)
    clear hK K
    refine norm_ (a' := ?_) ?_ ?_
    rotate_left
    ·show Act.put _ (some 3) _ = _
     simp only [Act.put, sq0, sq1, sq2, sq3, sq4]
     rfl
    exact norm_ (by simp only [putAll, Act.put, List.setIfInBounds_toArray, List.set_cons_zero, List.set_cons_succ]) (hCont (.slice Ao25 t179.length co25, .slice Ao26 t182.length co26, v188, v191, gb197) _ ⟨hHeld, (by (with_reducible repeat (first | apply Kd.N_alloc | apply Kd.N_drewN | apply Kd.N_drew)); exact Kd.N_mono HO162.out (fun _ hk => ⟨hk.1.1.1.1.1.1, ⟨hk.1.1.1.1.1.2.1, ⟨hk.1.1.1.1.1.2.2.1, ⟨hk.1.1.1.1.2, ⟨hk.1.1.1.2, ⟨hk.1.1.2, ⟨hk.1.2, ⟨hk.1.1.1.1.1.2.2.2, hk.2⟩⟩⟩⟩⟩⟩⟩⟩)), (by (with_reducible repeat (first | apply Kd.R_alloc | apply Kd.R_drewN | apply Kd.R_drew)); exact Kd.R_mono HO165.out (fun _ hk => ⟨hk.1.1, ⟨hk.1.2, hk.2⟩⟩)), (by (with_reducible repeat (first | apply Kd.R_alloc | apply Kd.R_drewN | apply Kd.R_drew)); exact Kd.R_mono HO170.out (fun _ hk => hk.2)), (by (with_reducible repeat (first | apply Kd.R_alloc | apply Kd.R_drewN | apply Kd.R_drew)); exact Kd.R_mono HO173.out (fun _ hk => ⟨hk.1.1, ⟨hk.1.2, hk.2⟩⟩)), (by (with_reducible repeat (first | apply Kd.N_alloc | apply Kd.N_drewN | apply Kd.N_drew)); exact Kd.N_mono HO181.out (fun _ hk => ⟨hk.1.1.1.2.1, ⟨hk.1.1.1.2.2.1, ⟨hk.1.1.1.2.2.2.1, ⟨hk.1.1.1.2.2.2.2.1, ⟨hk.1.1.1.1, ⟨hk.1.1.2, ⟨hk.1.2, ⟨hk.1.1.1.2.2.2.2.2, hk.2⟩⟩⟩⟩⟩⟩⟩⟩)), (by (with_reducible repeat (first | apply Kd.R_alloc | apply Kd.R_drewN | apply Kd.R_drew)); exact Kd.R_mono HO184.out (fun _ hk => ⟨hk.1.1.2, ⟨hk.1.2, hk.2⟩⟩)), (by (with_reducible repeat (first | apply Kd.R_alloc | apply Kd.R_drewN | apply Kd.R_drew)); exact Kd.R_mono HO189.out (fun _ hk => hk.2)), (by (with_reducible repeat (first | apply Kd.R_alloc | apply Kd.R_drewN | apply Kd.R_drew)); exact Kd.R_mono HO192.out (fun _ hk => ⟨hk.1.1.2, ⟨hk.1.2, hk.2⟩⟩)), (by (with_reducible repeat first | apply kn_ | apply kd_ | apply ka_); exact BK178.out), (by (with_reducible repeat first | apply kn_ | apply kd_ | apply ka_); exact BK197.out), GW197.out, GE197.out, NB178_197.out, NB197_178.out, (by repeat (first | (with_reducible first | exact HB.out | apply ba_ | apply bn_ | apply b1_ | refine bs_ ?_ GE178.out | refine bs_ ?_ GE197.out) | exact HB.out))⟩)
   ·skip
    refine box_step ?hg (N := 3) ?hd (cs := #[.int .i64 0, .int .i64 0, .slice none 0 0, .slice none 0 0, .bool false, .bool false, .bool false]) (t := 28) ?hr ?_; (case hd => rfl); (case hg => rfl); (case hr => first | (go_simp; done) | (go_simp; rfl))
    intro gb197 hg w25 hbox hb
    have n0_ := ak (Kd.N_below (Kd.N_elderB (by (with_reducible repeat (first | apply Kd.N_alloc | apply Kd.N_drewN | apply Kd.N_drew)); exact HO162.out) gb197 (Nat.le_of_eq hg.symm)) hb)
    have n1_ := ak (Kd.R_below (by (with_reducible repeat (first | apply Kd.R_alloc | apply Kd.R_drewN | apply Kd.R_drew)); exact HO165.out) hb)
    have n2_ := ak (Kd.R_below (by (with_reducible repeat (first | apply Kd.R_alloc | apply Kd.R_drewN | apply Kd.R_drew)); exact HO170.out) hb)
    have n3_ := ak (Kd.R_below (by (with_reducible repeat (first | apply Kd.R_alloc | apply Kd.R_drewN | apply Kd.R_drew)); exact HO173.out) hb)
    have n4_ := ak (Kd.N_below (Kd.N_elderB (by (with_reducible repeat (first | apply Kd.N_alloc | apply Kd.N_drewN | apply Kd.N_drew)); exact HO181.out) gb197 (Nat.le_of_eq hg.symm)) hb)
    have n5_ := ak (Kd.R_below (by (with_reducible repeat (first | apply Kd.R_alloc | apply Kd.R_drewN | apply Kd.R_drew)); exact HO184.out) hb)
    have n6_ := ak (blk_below (by (with_reducible repeat first | apply kn_ | apply kd_ | apply ka_); exact BK178.out) hb)
    have n7_ := ak (below_step (by repeat (first | (with_reducible first | exact HB.out | apply ba_ | apply bn_ | apply b1_ | refine bs_ ?_ GE178.out) | exact HB.out)) hb)
    have n8_ := ak (hbox)
    have n9_ := ak ((by rw [hg]; exact (below_size (by repeat (first | (with_reducible first | exact HB.out | apply ba_ | apply bn_ | apply b1_ | refine bs_ ?_ GE178.out) | exact HB.out))) : w.heap.size ≤ gb197))
    have n10_ := ak ((by rw [hg]; exact (below_size (by repeat (first | (with_reducible first | exact HB.out | apply ba_ | apply bn_ | apply b1_ | refine bs_ ?_ GE178.out) | exact HB.out))) : w.heap.size ≤ gb197))
    have n11_ := ak ((by rw [hg]; exact Nat.ne_of_lt (blk_lt (g := gb178) (o := .cells #[.int .i64 t166, .int .i64 t167, .slice Ao20 t168.length co20, .slice Ao21 t171.length co21, .bool t174, .bool t175, .bool t176] 28 (0, 0)) (by (with_reducible repeat first | apply kn_ | apply kd_ | apply ka_); exact BK178.out)) : gb178 ≠ gb197))
    have n12_ := ak ((by rw [hg]; exact Nat.ne_of_gt (blk_lt (g := gb178) (o := .cells #[.int .i64 t166, .int .i64 t167, .slice Ao20 t168.length co20, .slice Ao21 t171.length co21, .bool t174, .bool t175, .bool t176] 28 (0, 0)) (by (with_reducible repeat first | apply kn_ | apply kd_ | apply ka_); exact BK178.out)) : gb197 ≠ gb178))
    clear HO162 HO165 HO170 HO173 HO181 HO184 BK178 HB
    have HO162 := n0_
    have HO165 := n1_
    have HO170 := n2_
    have HO173 := n3_
    have HO181 := n4_
    have HO184 := n5_
    have BK178 := n6_
    have HB := n7_
    have BK197 := n8_
    have GW197 := n9_
    have GE197 := n10_
    have NB178_197 := n11_
    have NB197_178 := n12_
    clear n0_ n1_ n2_ n3_ n4_ n5_ n6_ n7_ n8_ n9_ n10_ n11_ n12_ hb hbox hg
    obtain ⟨Ao26, co26, eo26⟩ := Kd.N_slice HO181.out
    (first | subst eo26 | (injection eo26 with f1_ f2_ f3_; have f4_ := f1_.symm; have f5_ := f3_.symm; clear f1_ f2_ f3_; subst f4_; subst f5_))
    obtain ⟨Ao27, co27, eo27⟩ := Kd.R_slice HO184.out
    (first | subst eo27 | (injection eo27 with f1_ f2_ f3_; have f4_ := f1_.symm; have f5_ := f3_.symm; clear f1_ f2_ f3_; subst f4_; subst f5_))
    refine hK.out _ _ ⟨(blk_cell BK178.out 0).trans rfl, (blk_cell BK178.out 1).trans rfl, (blk_cell BK178.out 2).trans rfl, (blk_cell BK178.out 3).trans rfl, (blk_cell BK178.out 4).trans rfl, (blk_cell BK178.out 5).trans rfl, (blk_cell BK178.out 6).trans rfl⟩ (fun hHeld => ?_)
    clear hK K
    refine norm_ (a' := ?_) ?_ ?_
    rotate_left
    ·show Act.put _ (some 3) _ = _
     simp only [Act.put, sq0, sq1, sq2, sq3, sq4]
     rfl
    refine one_ (i := 2) (N := some 15) #[true, true, true, false, false, false, true, false, false] rfl rfl (one_of HT_.out (by kernel_rfl)) (by decide) (fun K hK => ?_)
    refine goes_ Try.func12 (by kernel_rfl) rfl #[.agg #[.slice Ao26 t179.length co26, .slice Ao27 t182.length co27], .int .i64 4, .agg #[.int .i64 t166, .int .i64 t167, .slice Ao20 t168.length co20, .slice Ao21 t171.length co21, .bool t174, .bool t175, .bool t176], .int .i64 99] (by rfl) rfl rfl (by (try simp only [List.map_toArray, List.map_cons, List.map_nil]); first | done | rfl | (simp only [List.length_drop, List.length_take]; rfl)) ?_
    with_reducible refine (mark_Run.calls k _ _ t179 _ _ t182 4 t166 t167 _ _ t168 _ _ t171 t174 t175 t176 99 t185 t186 t187 t190 t193 t194 t195 t196 _ ?side1 ?side2 ?side3 ?side4 ?side5 ?side6 ?side7 ?side8 A5.out).mono ?_
    (case side1 => repeat (first | exact (Kd.N_reads' HO181.out).2.2 | (with_reducible first | refine ca_ ?_ _ | refine cn_ ?_ _ | refine cd_ ?_)))
    (case side2 => exact (Kd.N_reads' HO181.out).2.1)
    (case side3 => repeat (first | exact (Kd.R_reads' HO184.out).2.2 | (with_reducible first | refine ca_ ?_ _ | refine cn_ ?_ _ | refine cd_ ?_)))
    (case side4 => exact (Kd.R_reads' HO184.out).2.1)
    (case side5 => repeat (first | exact (Kd.R_reads' HO170.out).2.2 | (with_reducible first | refine ca_ ?_ _ | refine cn_ ?_ _ | refine cd_ ?_)))
    (case side6 => exact (Kd.R_reads' HO170.out).2.1)
    (case side7 => repeat (first | exact (Kd.R_reads' HO173.out).2.2 | (with_reducible first | refine ca_ ?_ _ | refine cn_ ?_ _ | refine cd_ ?_)))
    (case side8 => exact (Kd.R_reads' HO173.out).2.1)
    rintro e w28 ⟨v188, v191, rfl, ho0, ho1, hb⟩
    refine ⟨_, rfl, ?_⟩
    have n0_ := ak (Kd.N_mono (Kd.N_told (Kd.N_told (Kd.N_old (by (with_reducible repeat (first | apply Kd.N_alloc | apply Kd.N_drewN | apply Kd.N_drew)); exact HO162.out) hb) (Kd.R_base ho0)) (Kd.R_base ho1)) (fun _ h_ => h_.1))
    have n1_ := ak (Kd.R_elder' (by (with_reducible repeat (first | apply Kd.R_alloc | apply Kd.R_drewN | apply Kd.R_drew)); exact HO165.out) (Kd.R_base ho1) hb)
    have n2_ := ak (Kd.R_elder' (by (with_reducible repeat (first | apply Kd.R_alloc | apply Kd.R_drewN | apply Kd.R_drew)); exact HO170.out) (Kd.R_base ho0) hb)
    have n3_ := ak (Kd.R_elder' (by (with_reducible repeat (first | apply Kd.R_alloc | apply Kd.R_drewN | apply Kd.R_drew)); exact HO173.out) (Kd.R_base ho1) hb)
    have n4_ := ak (Kd.N_mono (Kd.N_told (Kd.N_told (Kd.N_old (by (with_reducible repeat (first | apply Kd.N_alloc | apply Kd.N_drewN | apply Kd.N_drew)); exact HO181.out) hb) (Kd.R_base ho0)) (Kd.R_base ho1)) (fun _ h_ => h_.1))
    have n5_ := ak (Kd.R_elder' (by (with_reducible repeat (first | apply Kd.R_alloc | apply Kd.R_drewN | apply Kd.R_drew)); exact HO184.out) (Kd.R_base ho1) hb)
    have n6_ := ak (Kd.R_lower (Kd.R_new' ho0 (Kd.R_lt (by (with_reducible repeat (first | apply Kd.R_alloc | apply Kd.R_drewN | apply Kd.R_drew)); exact HO170.out))) (below_size (by repeat (first | (with_reducible first | exact HB.out | apply ba_ | apply bn_ | apply b1_ | refine bs_ ?_ GE178.out | refine bs_ ?_ GE197.out) | exact HB.out))))
    have n7_ := ak (Kd.R_lower (Kd.R_new' (Kd.R_new' (Kd.R_new' ho1 (Kd.R_lt (by (with_reducible repeat (first | apply Kd.R_alloc | apply Kd.R_drewN | apply Kd.R_drew)); exact HO165.out))) (Kd.R_lt (by (with_reducible repeat (first | apply Kd.R_alloc | apply Kd.R_drewN | apply Kd.R_drew)); exact HO173.out))) (Kd.R_lt (by (with_reducible repeat (first | apply Kd.R_alloc | apply Kd.R_drewN | apply Kd.R_drew)); exact HO184.out))) (below_size (by repeat (first | (with_reducible first | exact HB.out | apply ba_ | apply bn_ | apply b1_ | refine bs_ ?_ GE178.out | refine bs_ ?_ GE197.out) | exact HB.out))))
    have n8_ := ak (blk_below (by (with_reducible repeat first | apply kn_ | apply kd_ | apply ka_); exact BK178.out) hb)
    have n9_ := ak (blk_below (by (with_reducible repeat first | apply kn_ | apply kd_ | apply ka_); exact BK197.out) hb)
    have n10_ := ak (below_step (by repeat (first | (with_reducible first | exact HB.out | apply ba_ | apply bn_ | apply b1_ | refine bs_ ?_ GE178.out | refine bs_ ?_ GE197.out) | exact HB.out)) hb)
    clear HO162 HO165 HO170 HO173 HO181 HO184 BK178 BK197 HB
    have HO162 := n0_
    have HO165 := n1_
    have HO170 := n2_
    have HO173 := n3_
    have HO181 := n4_
    have HO184 := n5_
    have HO189 := n6_
    have HO192 := n7_
    have BK178 := n8_
    have BK197 := n9_
    have HB := n10_
    clear n0_ n1_ n2_ n3_ n4_ n5_ n6_ n7_ n8_ n9_ n10_
    (try clear hb)
    (try clear hb2)
    (try clear hk)
    (try clear hi)
    (try clear ho0)
    (try clear ho1)
    refine hK.out _ _ ⟨(blk_cell BK178.out 0).trans rfl, (blk_cell BK178.out 1).trans rfl, (blk_cell BK178.out 2).trans rfl, (blk_cell BK178.out 3).trans rfl, (blk_cell BK178.out 4).trans rfl, (blk_cell BK178.out 5).trans rfl, (blk_cell BK178.out 6).trans rfl⟩ (fun hHeld => ?_)
    clear hK K
    refine norm_ (a' := ?_) ?_ ?_
    rotate_left
    ·show Act.put _ (some 15) _ = _
     simp only [Act.put, sq0, sq1, sq2, sq3, sq4]
     rfl
    refine pure_ (i := 3) (N := some 12) (v := ?_) (a' := ?_) #[true, true, true, true, false, false, true, false, false] rfl rfl (any_of HT_.out (by kernel_rfl)) (fun _ _ _ h => h) (Or.inl ⟨by rfl, ?_⟩) ?_ ?_
    rotate_left
    ·intro w'
     go_simp
     with_reducible rfl
    rotate_left
    ·simp only [Act.put, sq0, sq1, sq2, sq3, sq4]
     rfl
    refine pure_ (i := 4) (N := some 16) (v := ?_) (a' := ?_) #[true, true, true, true, true, false, true, false, false] rfl rfl (any_of HT_.out (by kernel_rfl)) (fun _ _ _ h => h) (Or.inl ⟨by rfl, ?_⟩) ?_ ?_
    rotate_left
    ·intro w'
     go_simp
     with_reducible rfl
    rotate_left
    ·simp only [Act.put, sq0, sq1, sq2, sq3, sq4]
     rfl
    refine pure_ (i := 5) (N := some 17) (v := ?_) (a' := ?_) #[true, true, true, true, true, true, true, false, false] rfl rfl (any_of HT_.out (by kernel_rfl)) (fun _ _ _ h => h) (Or.inl ⟨by rfl, ?_⟩) ?_ ?_
    rotate_left
    ·intro w'
     go_simp
     with_reducible rfl
    rotate_left
    ·simp only [Act.put, sq0, sq1, sq2, sq3, sq4]
     rfl
    exact norm_ (by simp only [putAll, Act.put, List.setIfInBounds_toArray, List.set_cons_zero, List.set_cons_succ]) (hCont (.slice Ao26 t179.length co26, .slice Ao27 t182.length co27, v188, v191, gb197) _ ⟨hHeld, (by (with_reducible repeat (first | apply Kd.N_alloc | apply Kd.N_drewN | apply Kd.N_drew)); exact Kd.N_mono HO162.out (fun _ hk => ⟨hk.1.1.1.1.1.1, ⟨hk.1.1.1.1.1.2.1, ⟨hk.1.1.1.1.1.2.2.1, ⟨hk.1.1.1.1.2, ⟨hk.1.1.1.2, ⟨hk.1.2, ⟨hk.2, ⟨hk.1.1.1.1.1.2.2.2, hk.1.1.2⟩⟩⟩⟩⟩⟩⟩⟩)), (by (with_reducible repeat (first | apply Kd.R_alloc | apply Kd.R_drewN | apply Kd.R_drew)); exact Kd.R_mono HO165.out (fun _ hk => ⟨hk.1.1, ⟨hk.1.2, hk.2⟩⟩)), (by (with_reducible repeat (first | apply Kd.R_alloc | apply Kd.R_drewN | apply Kd.R_drew)); exact Kd.R_mono HO170.out (fun _ hk => hk.2)), (by (with_reducible repeat (first | apply Kd.R_alloc | apply Kd.R_drewN | apply Kd.R_drew)); exact Kd.R_mono HO173.out (fun _ hk => ⟨hk.1.1, ⟨hk.1.2, hk.2⟩⟩)), (by (with_reducible repeat (first | apply Kd.N_alloc | apply Kd.N_drewN | apply Kd.N_drew)); exact Kd.N_mono HO181.out (fun _ hk => ⟨hk.1.1.1.2.1, ⟨hk.1.1.1.2.2.1, ⟨hk.1.1.1.2.2.2.1, ⟨hk.1.1.1.2.2.2.2.1, ⟨hk.1.1.1.1, ⟨hk.1.2, ⟨hk.2, ⟨hk.1.1.1.2.2.2.2.2, hk.1.1.2⟩⟩⟩⟩⟩⟩⟩⟩)), (by (with_reducible repeat (first | apply Kd.R_alloc | apply Kd.R_drewN | apply Kd.R_drew)); exact Kd.R_mono HO184.out (fun _ hk => ⟨hk.1.1.2, ⟨hk.1.2, hk.2⟩⟩)), (by (with_reducible repeat (first | apply Kd.R_alloc | apply Kd.R_drewN | apply Kd.R_drew)); exact Kd.R_mono HO189.out (fun _ hk => hk.2)), (by (with_reducible repeat (first | apply Kd.R_alloc | apply Kd.R_drewN | apply Kd.R_drew)); exact Kd.R_mono HO192.out (fun _ hk => ⟨hk.1.1.2, ⟨hk.1.2, hk.2⟩⟩)), (by (with_reducible repeat first | apply kn_ | apply kd_ | apply ka_); exact BK178.out), (by (with_reducible repeat first | apply kn_ | apply kd_ | apply ka_); exact BK197.out), GW197.out, GE197.out, NB178_197.out, NB197_178.out, (by repeat (first | (with_reducible first | exact HB.out | apply ba_ | apply bn_ | apply b1_ | refine bs_ ?_ GE178.out | refine bs_ ?_ GE197.out) | exact HB.out))⟩)
  ·skip
   refine box_step ?hg (N := 3) ?hd (cs := #[.int .i64 0, .int .i64 0, .slice none 0 0, .slice none 0 0, .bool false, .bool false, .bool false]) (t := 28) ?hr ?_; (case hd => rfl); (case hg => rfl); (case hr => first | (go_simp; done) | (go_simp; rfl))
   intro gb197 hg w24 hbox hb
   have n0_ := ak (Kd.N_below (Kd.N_elderB (by (with_reducible repeat (first | apply Kd.N_alloc | apply Kd.N_drewN | apply Kd.N_drew)); exact HO162.out) gb197 (Nat.le_of_eq hg.symm)) hb)
   have n1_ := ak (Kd.R_below (by (with_reducible repeat (first | apply Kd.R_alloc | apply Kd.R_drewN | apply Kd.R_drew)); exact HO165.out) hb)
   have n2_ := ak (Kd.R_below (by (with_reducible repeat (first | apply Kd.R_alloc | apply Kd.R_drewN | apply Kd.R_drew)); exact HO170.out) hb)
   have n3_ := ak (Kd.R_below (by (with_reducible repeat (first | apply Kd.R_alloc | apply Kd.R_drewN | apply Kd.R_drew)); exact HO173.out) hb)
   have n4_ := ak (blk_below (by (with_reducible repeat first | apply kn_ | apply kd_ | apply ka_); exact BK178.out) hb)
   have n5_ := ak (below_step (by repeat (first | (with_reducible first | exact HB.out | apply ba_ | apply bn_ | apply b1_ | refine bs_ ?_ GE178.out) | exact HB.out)) hb)
   have n6_ := ak (hbox)
   have n7_ := ak ((by rw [hg]; exact (below_size (by repeat (first | (with_reducible first | exact HB.out | apply ba_ | apply bn_ | apply b1_ | refine bs_ ?_ GE178.out) | exact HB.out))) : w.heap.size ≤ gb197))
   have n8_ := ak ((by rw [hg]; exact (below_size (by repeat (first | (with_reducible first | exact HB.out | apply ba_ | apply bn_ | apply b1_ | refine bs_ ?_ GE178.out) | exact HB.out))) : w.heap.size ≤ gb197))
   have n9_ := ak ((by rw [hg]; exact Nat.ne_of_lt (blk_lt (g := gb178) (o := .cells #[.int .i64 t166, .int .i64 t167, .slice Ao20 t168.length co20, .slice Ao21 t171.length co21, .bool t174, .bool t175, .bool t176] 28 (0, 0)) (by (with_reducible repeat first | apply kn_ | apply kd_ | apply ka_); exact BK178.out)) : gb178 ≠ gb197))
   have n10_ := ak ((by rw [hg]; exact Nat.ne_of_gt (blk_lt (g := gb178) (o := .cells #[.int .i64 t166, .int .i64 t167, .slice Ao20 t168.length co20, .slice Ao21 t171.length co21, .bool t174, .bool t175, .bool t176] 28 (0, 0)) (by (with_reducible repeat first | apply kn_ | apply kd_ | apply ka_); exact BK178.out)) : gb197 ≠ gb178))
   clear HO162 HO165 HO170 HO173 BK178 HB
   have HO162 := n0_
   have HO165 := n1_
   have HO170 := n2_
   have HO173 := n3_
   have BK178 := n4_
   have HB := n5_
   have BK197 := n6_
   have GW197 := n7_
   have GE197 := n8_
   have NB178_197 := n9_
   have NB197_178 := n10_
   clear n0_ n1_ n2_ n3_ n4_ n5_ n6_ n7_ n8_ n9_ n10_ hb hbox hg
   refine hK.out _ _ ⟨(blk_cell BK178.out 0).trans rfl, (blk_cell BK178.out 1).trans rfl, (blk_cell BK178.out 2).trans rfl, (blk_cell BK178.out 3).trans rfl, (blk_cell BK178.out 4).trans rfl, (blk_cell BK178.out 5).trans rfl, (blk_cell BK178.out 6).trans rfl⟩ (fun hHeld => ?_)
   clear hK K
   refine norm_ (a' := ?_) ?_ ?_
   rotate_left
   ·show Act.put _ (some 3) _ = _
    simp only [Act.put, sq0, sq1, sq2, sq3, sq4]
    rfl
   refine one_ (i := 0) (N := some 13) #[true, true, false, false, false, false, true, false, false] rfl rfl (one_of HT_.out (by kernel_rfl)) (by decide) (fun K hK => ?_)
   refine goes_ Try.func35 (by kernel_rfl) rfl #[] (by rfl) rfl rfl (by (try simp only [List.map_toArray, List.map_cons, List.map_nil]); first | done | rfl | (simp only [List.length_drop, List.length_take]; rfl)) ?_
   with_reducible refine (atticlaw19_plain.calls  t179 t182 _ A4.out).mono ?_
   rintro e w25 ⟨v180, v183, rfl, ho0, ho1, hb⟩
   refine ⟨_, rfl, ?_⟩
   have n0_ := ak (Kd.N_mono (Kd.N_told (Kd.N_told (Kd.N_old (by (with_reducible repeat (first | apply Kd.N_alloc | apply Kd.N_drewN | apply Kd.N_drew)); exact HO162.out) hb) (Kd.N_base ho0)) (Kd.R_base ho1)) (fun _ h_ => h_.1))
   have n1_ := ak (Kd.R_elder' (by (with_reducible repeat (first | apply Kd.R_alloc | apply Kd.R_drewN | apply Kd.R_drew)); exact HO165.out) (Kd.R_base ho1) hb)
   have n2_ := ak (Kd.R_below (by (with_reducible repeat (first | apply Kd.R_alloc | apply Kd.R_drewN | apply Kd.R_drew)); exact HO170.out) hb)
   have n3_ := ak (Kd.R_elder' (by (with_reducible repeat (first | apply Kd.R_alloc | apply Kd.R_drewN | apply Kd.R_drew)); exact HO173.out) (Kd.R_base ho1) hb)
   have n4_ := ak (Kd.N_lower (Kd.N_mono (ok' := fun k_ => some k_ ≠ (v183 : Value).ownBlock ∧ some k_ ≠ (.slice Ao15 t160.length co15 : Value).ownBlock ∧ some k_ ≠ (.slice Ao16 t163.length co16 : Value).ownBlock ∧ some k_ ≠ (.slice Ao20 t168.length co20 : Value).ownBlock ∧ some k_ ≠ (.slice Ao21 t171.length co21 : Value).ownBlock ∧ k_ ≠ gb178 ∧ k_ ≠ gb197) ho0 (fun k_ hk_ => ⟨hk_.2, (Kd.fresh' (Kd.N_lt (by (with_reducible repeat (first | apply Kd.N_alloc | apply Kd.N_drewN | apply Kd.N_drew)); exact HO162.out)) k_ hk_.1), (Kd.fresh' (Kd.R_lt (by (with_reducible repeat (first | apply Kd.R_alloc | apply Kd.R_drewN | apply Kd.R_drew)); exact HO165.out)) k_ hk_.1), (Kd.fresh' (Kd.R_lt (by (with_reducible repeat (first | apply Kd.R_alloc | apply Kd.R_drewN | apply Kd.R_drew)); exact HO170.out)) k_ hk_.1), (Kd.fresh' (Kd.R_lt (by (with_reducible repeat (first | apply Kd.R_alloc | apply Kd.R_drewN | apply Kd.R_drew)); exact HO173.out)) k_ hk_.1), (Kd.freshB (g := gb178) (o := .cells #[.int .i64 t166, .int .i64 t167, .slice Ao20 t168.length co20, .slice Ao21 t171.length co21, .bool t174, .bool t175, .bool t176] 28 (0, 0)) (by (with_reducible repeat first | apply kn_ | apply kd_ | apply ka_); exact BK178.out) k_ hk_.1), (Kd.freshB (g := gb197) (o := .cells #[.int .i64 0, .int .i64 0, .slice none 0 0, .slice none 0 0, .bool false, .bool false, .bool false] 28 (0, 0)) (by (with_reducible repeat first | apply kn_ | apply kd_ | apply ka_); exact BK197.out) k_ hk_.1)⟩)) (below_size (by repeat (first | (with_reducible first | exact HB.out | apply ba_ | apply bn_ | apply b1_ | refine bs_ ?_ GE178.out | refine bs_ ?_ GE197.out) | exact HB.out))))
   have n5_ := ak (Kd.R_lower (Kd.R_new' (Kd.R_new' (Kd.R_mono (ok' := fun k_ => True) ho1 (fun _ hk_ => trivial)) (Kd.R_lt (by (with_reducible repeat (first | apply Kd.R_alloc | apply Kd.R_drewN | apply Kd.R_drew)); exact HO165.out))) (Kd.R_lt (by (with_reducible repeat (first | apply Kd.R_alloc | apply Kd.R_drewN | apply Kd.R_drew)); exact HO173.out))) (below_size (by repeat (first | (with_reducible first | exact HB.out | apply ba_ | apply bn_ | apply b1_ | refine bs_ ?_ GE178.out | refine bs_ ?_ GE197.out) | exact HB.out))))
   have n6_ := ak (blk_below (by (with_reducible repeat first | apply kn_ | apply kd_ | apply ka_); exact BK178.out) hb)
   have n7_ := ak (blk_below (by (with_reducible repeat first | apply kn_ | apply kd_ | apply ka_); exact BK197.out) hb)
   have n8_ := ak (below_step (by repeat (first | (with_reducible first | exact HB.out | apply ba_ | apply bn_ | apply b1_ | refine bs_ ?_ GE178.out | refine bs_ ?_ GE197.out) | exact HB.out)) hb)
   clear HO162 HO165 HO170 HO173 BK178 BK197 HB
   have HO162 := n0_
   have HO165 := n1_
   have HO170 := n2_
   have HO173 := n3_
   have HO181 := n4_
   have HO184 := n5_
   have BK178 := n6_
   have BK197 := n7_
   have HB := n8_
   clear n0_ n1_ n2_ n3_ n4_ n5_ n6_ n7_ n8_
   (try clear hb)
   (try clear hb2)
   (try clear hk)
   (try clear hi)
   (try clear ho0)
   (try clear ho1)
   obtain ⟨Ao26, co26, eo26⟩ := Kd.N_slice HO181.out
   (first | subst eo26 | (injection eo26 with f1_ f2_ f3_; have f4_ := f1_.symm; have f5_ := f3_.symm; clear f1_ f2_ f3_; subst f4_; subst f5_))
   obtain ⟨Ao27, co27, eo27⟩ := Kd.R_slice HO184.out
   (first | subst eo27 | (injection eo27 with f1_ f2_ f3_; have f4_ := f1_.symm; have f5_ := f3_.symm; clear f1_ f2_ f3_; subst f4_; subst f5_))
   refine hK.out _ _ ⟨(blk_cell BK178.out 0).trans rfl, (blk_cell BK178.out 1).trans rfl, (blk_cell BK178.out 2).trans rfl, (blk_cell BK178.out 3).trans rfl, (blk_cell BK178.out 4).trans rfl, (blk_cell BK178.out 5).trans rfl, (blk_cell BK178.out 6).trans rfl⟩ (fun hHeld => ?_)
   clear hK K
   refine norm_ (a' := ?_) ?_ ?_
   rotate_left
   ·show Act.put _ (some 13) _ = _
    simp only [Act.put, sq0, sq1, sq2, sq3, sq4]
    rfl
   refine one_ (i := 2) (N := some 15) #[true, true, true, false, false, false, true, false, false] rfl rfl (one_of HT_.out (by kernel_rfl)) (by decide) (fun K hK => ?_)
   refine goes_ Try.func12 (by kernel_rfl) rfl #[.agg #[.slice Ao26 t179.length co26, .slice Ao27 t182.length co27], .int .i64 4, .agg #[.int .i64 t166, .int .i64 t167, .slice Ao20 t168.length co20, .slice Ao21 t171.length co21, .bool t174, .bool t175, .bool t176], .int .i64 99] (by rfl) rfl rfl (by (try simp only [List.map_toArray, List.map_cons, List.map_nil]); first | done | rfl | (simp only [List.length_drop, List.length_take]; rfl)) ?_
   with_reducible refine (mark_Run.calls k _ _ t179 _ _ t182 4 t166 t167 _ _ t168 _ _ t171 t174 t175 t176 99 t185 t186 t187 t190 t193 t194 t195 t196 _ ?side1 ?side2 ?side3 ?side4 ?side5 ?side6 ?side7 ?side8 A5.out).mono ?_
   (case side1 => repeat (first | exact (Kd.N_reads' HO181.out).2.2 | (with_reducible first | refine ca_ ?_ _ | refine cn_ ?_ _ | refine cd_ ?_)))
   (case side2 => exact (Kd.N_reads' HO181.out).2.1)
   (case side3 => repeat (first | exact (Kd.R_reads' HO184.out).2.2 | (with_reducible first | refine ca_ ?_ _ | refine cn_ ?_ _ | refine cd_ ?_)))
   (case side4 => exact (Kd.R_reads' HO184.out).2.1)
   (case side5 => repeat (first | exact (Kd.R_reads' HO170.out).2.2 | (with_reducible first | refine ca_ ?_ _ | refine cn_ ?_ _ | refine cd_ ?_)))
   (case side6 => exact (Kd.R_reads' HO170.out).2.1)
   (case side7 => repeat (first | exact (Kd.R_reads' HO173.out).2.2 | (with_reducible first | refine ca_ ?_ _ | refine cn_ ?_ _ | refine cd_ ?_)))
   (case side8 => exact (Kd.R_reads' HO173.out).2.1)
   rintro e w28 ⟨v188, v191, rfl, ho0, ho1, hb⟩
   refine ⟨_, rfl, ?_⟩
   have n0_ := ak (Kd.N_mono (Kd.N_told (Kd.N_told (Kd.N_old (by (with_reducible repeat (first | apply Kd.N_alloc | apply Kd.N_drewN | apply Kd.N_drew)); exact HO162.out) hb) (Kd.R_base ho0)) (Kd.R_base ho1)) (fun _ h_ => h_.1))
   have n1_ := ak (Kd.R_elder' (by (with_reducible repeat (first | apply Kd.R_alloc | apply Kd.R_drewN | apply Kd.R_drew)); exact HO165.out) (Kd.R_base ho1) hb)
   have n2_ := ak (Kd.R_elder' (by (with_reducible repeat (first | apply Kd.R_alloc | apply Kd.R_drewN | apply Kd.R_drew)); exact HO170.out) (Kd.R_base ho0) hb)
   have n3_ := ak (Kd.R_elder' (by (with_reducible repeat (first | apply Kd.R_alloc | apply Kd.R_drewN | apply Kd.R_drew)); exact HO173.out) (Kd.R_base ho1) hb)
   have n4_ := ak (Kd.N_mono (Kd.N_told (Kd.N_told (Kd.N_old (by (with_reducible repeat (first | apply Kd.N_alloc | apply Kd.N_drewN | apply Kd.N_drew)); exact HO181.out) hb) (Kd.R_base ho0)) (Kd.R_base ho1)) (fun _ h_ => h_.1))
   have n5_ := ak (Kd.R_elder' (by (with_reducible repeat (first | apply Kd.R_alloc | apply Kd.R_drewN | apply Kd.R_drew)); exact HO184.out) (Kd.R_base ho1) hb)
   have n6_ := ak (Kd.R_lower (Kd.R_new' ho0 (Kd.R_lt (by (with_reducible repeat (first | apply Kd.R_alloc | apply Kd.R_drewN | apply Kd.R_drew)); exact HO170.out))) (below_size (by repeat (first | (with_reducible first | exact HB.out | apply ba_ | apply bn_ | apply b1_ | refine bs_ ?_ GE178.out | refine bs_ ?_ GE197.out) | exact HB.out))))
   have n7_ := ak (Kd.R_lower (Kd.R_new' (Kd.R_new' (Kd.R_new' ho1 (Kd.R_lt (by (with_reducible repeat (first | apply Kd.R_alloc | apply Kd.R_drewN | apply Kd.R_drew)); exact HO165.out))) (Kd.R_lt (by (with_reducible repeat (first | apply Kd.R_alloc | apply Kd.R_drewN | apply Kd.R_drew)); exact HO173.out))) (Kd.R_lt (by (with_reducible repeat (first | apply Kd.R_alloc | apply Kd.R_drewN | apply Kd.R_drew)); exact HO184.out))) (below_size (by repeat (first | (with_reducible first | exact HB.out | apply ba_ | apply bn_ | apply b1_ | refine bs_ ?_ GE178.out | refine bs_ ?_ GE197.out) | exact HB.out))))
   have n8_ := ak (blk_below (by (with_reducible repeat first | apply kn_ | apply kd_ | apply ka_); exact BK178.out) hb)
   have n9_ := ak (blk_below (by (with_reducible repeat first | apply kn_ | apply kd_ | apply ka_); exact BK197.out) hb)
   have n10_ := ak (below_step (by repeat (first | (with_reducible first | exact HB.out | apply ba_ | apply bn_ | apply b1_ | refine bs_ ?_ GE178.out | refine bs_ ?_ GE197.out) | exact HB.out)) hb)
   clear HO162 HO165 HO170 HO173 HO181 HO184 BK178 BK197 HB
   have HO162 := n0_
   have HO165 := n1_
   have HO170 := n2_
   have HO173 := n3_
   have HO181 := n4_
   have HO184 := n5_
   have HO189 := n6_
   have HO192 := n7_
   have BK178 := n8_
   have BK197 := n9_
   have HB := n10_
   clear n0_ n1_ n2_ n3_ n4_ n5_ n6_ n7_ n8_ n9_ n10_
   (try clear hb)
   (try clear hb2)
   (try clear hk)
   (try clear hi)
   (try clear ho0)
   (try clear ho1)
   refine hK.out _ _ ⟨(blk_cell BK178.out 0).trans rfl, (blk_cell BK178.out 1).trans rfl, (blk_cell BK178.out 2).trans rfl, (blk_cell BK178.out 3).trans rfl, (blk_cell BK178.out 4).trans rfl, (blk_cell BK178.out 5).trans rfl, (blk_cell BK178.out 6).trans rfl⟩ (fun hHeld => ?_)
   clear hK K
   refine norm_ (a' := ?_) ?_ ?_
   rotate_left
   ·show Act.put _ (some 15) _ = _
    simp only [Act.put, sq0, sq1, sq2, sq3, sq4]
    rfl
   refine pure_ (i := 3) (N := some 12) (v := ?_) (a' := ?_) #[true, true, true, true, false, false, true, false, false] rfl rfl (any_of HT_.out (by kernel_rfl)) (fun _ _ _ h => h) (Or.inl ⟨by rfl, ?_⟩) ?_ ?_
   rotate_left
   ·intro w'
    go_simp
    with_reducible rfl
   rotate_left
   ·simp only [Act.put, sq0, sq1, sq2, sq3, sq4]
    rfl
   refine pure_ (i := 4) (N := some 16) (v := ?_) (a' := ?_) #[true, true, true, true, true, false, true, false, false] rfl rfl (any_of HT_.out (by kernel_rfl)) (fun _ _ _ h => h) (Or.inl ⟨by rfl, ?_⟩) ?_ ?_
   rotate_left
   ·intro w'
    go_simp
    with_reducible rfl
   rotate_left
   ·simp only [Act.put, sq0, sq1, sq2, sq3, sq4]
    rfl
   refine pure_ (i := 5) (N := some 17) (v := ?_) (a' := ?_) #[true, true, true, true, true, true, true, false, false] rfl rfl (any_of HT_.out (by kernel_rfl)) (fun _ _ _ h => h) (Or.inl ⟨by rfl, ?_⟩) ?_ ?_
   rotate_left
   ·intro w'
    go_simp
    with_reducible rfl
   rotate_left
   ·simp only [Act.put, sq0, sq1, sq2, sq3, sq4]
    rfl
   exact norm_ (by simp only [putAll, Act.put, List.setIfInBounds_toArray, List.set_cons_zero, List.set_cons_succ]) (hCont (.slice Ao26 t179.length co26, .slice Ao27 t182.length co27, v188, v191, gb197) _ ⟨hHeld, (by (with_reducible repeat (first | apply Kd.N_alloc | apply Kd.N_drewN | apply Kd.N_drew)); exact Kd.N_mono HO162.out (fun _ hk => ⟨hk.1.1.1.1.1.1, ⟨hk.1.1.1.1.1.2.1, ⟨hk.1.1.1.1.1.2.2.1, ⟨hk.1.1.1.2, ⟨hk.1.1.2, ⟨hk.1.2, ⟨hk.2, ⟨hk.1.1.1.1.1.2.2.2, hk.1.1.1.1.2⟩⟩⟩⟩⟩⟩⟩⟩)), (by (with_reducible repeat (first | apply Kd.R_alloc | apply Kd.R_drewN | apply Kd.R_drew)); exact Kd.R_mono HO165.out (fun _ hk => ⟨hk.1.1, ⟨hk.1.2, hk.2⟩⟩)), (by (with_reducible repeat (first | apply Kd.R_alloc | apply Kd.R_drewN | apply Kd.R_drew)); exact Kd.R_mono HO170.out (fun _ hk => hk.2)), (by (with_reducible repeat (first | apply Kd.R_alloc | apply Kd.R_drewN | apply Kd.R_drew)); exact Kd.R_mono HO173.out (fun _ hk => ⟨hk.1.1, ⟨hk.1.2, hk.2⟩⟩)), (by (with_reducible repeat (first | apply Kd.N_alloc | apply Kd.N_drewN | apply Kd.N_drew)); exact Kd.N_mono HO181.out (fun _ hk => ⟨hk.1.1.2.1, ⟨hk.1.1.2.2.1, ⟨hk.1.1.2.2.2.1, ⟨hk.1.1.2.2.2.2.1, ⟨hk.1.1.1, ⟨hk.1.2, ⟨hk.2, ⟨hk.1.1.2.2.2.2.2.1, hk.1.1.2.2.2.2.2.2⟩⟩⟩⟩⟩⟩⟩⟩)), (by (with_reducible repeat (first | apply Kd.R_alloc | apply Kd.R_drewN | apply Kd.R_drew)); exact Kd.R_mono HO184.out (fun _ hk => ⟨hk.1.1.2, ⟨hk.1.2, hk.2⟩⟩)), (by (with_reducible repeat (first | apply Kd.R_alloc | apply Kd.R_drewN | apply Kd.R_drew)); exact Kd.R_mono HO189.out (fun _ hk => hk.2)), (by (with_reducible repeat (first | apply Kd.R_alloc | apply Kd.R_drewN | apply Kd.R_drew)); exact Kd.R_mono HO192.out (fun _ hk => ⟨hk.1.1.2, ⟨hk.1.2, hk.2⟩⟩)), (by (with_reducible repeat first | apply kn_ | apply kd_ | apply ka_); exact BK178.out), (by (with_reducible repeat first | apply kn_ | apply kd_ | apply ka_); exact BK197.out), GW197.out, GE197.out, NB178_197.out, NB197_178.out, (by repeat (first | (with_reducible first | exact HB.out | apply ba_ | apply bn_ | apply b1_ | refine bs_ ?_ GE178.out | refine bs_ ?_ GE197.out) | exact HB.out))⟩)
 rintro ⟨v180, v183, v188, v191, gb197⟩ w29 ⟨hS_, h0_, h1_, h2_, h3_, h4_, h5_, h6_, h7_, h8_, h9_, h10_, h11_, h12_, h13_, h14_⟩
 have n0_ : Aside0 (Kd.N k56 56 w29 w.heap.size (fun k_ => some k_ ≠ (.slice Ao16 t163.length co16 : Value).ownBlock ∧ some k_ ≠ (.slice Ao20 t168.length co20 : Value).ownBlock ∧ some k_ ≠ (.slice Ao21 t171.length co21 : Value).ownBlock ∧ some k_ ≠ (v180 : Value).ownBlock ∧ some k_ ≠ (v183 : Value).ownBlock ∧ some k_ ≠ (v188 : Value).ownBlock ∧ some k_ ≠ (v191 : Value).ownBlock ∧ k_ ≠ gb178 ∧ k_ ≠ gb197) (.slice Ao15 t160.length co15) t160) := ⟨h0_⟩
 have n1_ : Aside0 (Kd.R (Kd.int .i64) 3 w29 w.heap.size (fun k_ => some k_ ≠ (.slice Ao21 t171.length co21 : Value).ownBlock ∧ some k_ ≠ (v183 : Value).ownBlock ∧ some k_ ≠ (v191 : Value).ownBlock) (.slice Ao16 t163.length co16) t163) := ⟨h1_⟩
 have n2_ : Aside0 (Kd.R Kd.bool 4 w29 w.heap.size (fun k_ => some k_ ≠ (v188 : Value).ownBlock) (.slice Ao20 t168.length co20) t168) := ⟨h2_⟩
 have n3_ : Aside0 (Kd.R (Kd.int .i64) 3 w29 w.heap.size (fun k_ => some k_ ≠ (.slice Ao16 t163.length co16 : Value).ownBlock ∧ some k_ ≠ (v183 : Value).ownBlock ∧ some k_ ≠ (v191 : Value).ownBlock) (.slice Ao21 t171.length co21) t171) := ⟨h3_⟩
 have n4_ : Aside0 (Kd.N k56 56 w29 w.heap.size (fun k_ => some k_ ≠ (.slice Ao15 t160.length co15 : Value).ownBlock ∧ some k_ ≠ (.slice Ao16 t163.length co16 : Value).ownBlock ∧ some k_ ≠ (.slice Ao20 t168.length co20 : Value).ownBlock ∧ some k_ ≠ (.slice Ao21 t171.length co21 : Value).ownBlock ∧ some k_ ≠ (v183 : Value).ownBlock ∧ some k_ ≠ (v188 : Value).ownBlock ∧ some k_ ≠ (v191 : Value).ownBlock ∧ k_ ≠ gb178 ∧ k_ ≠ gb197) v180 t179) := ⟨h4_⟩
 have n5_ : Aside0 (Kd.R (Kd.int .i64) 3 w29 w.heap.size (fun k_ => some k_ ≠ (.slice Ao16 t163.length co16 : Value).ownBlock ∧ some k_ ≠ (.slice Ao21 t171.length co21 : Value).ownBlock ∧ some k_ ≠ (v191 : Value).ownBlock) v183 t182) := ⟨h5_⟩
 have n6_ : Aside0 (Kd.R Kd.bool 4 w29 w.heap.size (fun k_ => some k_ ≠ (.slice Ao20 t168.length co20 : Value).ownBlock) v188 t187) := ⟨h6_⟩
 have n7_ : Aside0 (Kd.R (Kd.int .i64) 3 w29 w.heap.size (fun k_ => some k_ ≠ (.slice Ao16 t163.length co16 : Value).ownBlock ∧ some k_ ≠ (.slice Ao21 t171.length co21 : Value).ownBlock ∧ some k_ ≠ (v183 : Value).ownBlock) v191 t190) := ⟨h7_⟩
 have n8_ : Aside0 (w29.heap[gb178]? = some (.cells #[.int .i64 t166, .int .i64 t167, .slice Ao20 t168.length co20, .slice Ao21 t171.length co21, .bool t174, .bool t175, .bool t176] 28 (0, 0))) := ⟨h8_⟩
 have n9_ : Aside0 (w29.heap[gb197]? = some (.cells #[.int .i64 0, .int .i64 0, .slice none 0 0, .slice none 0 0, .bool false, .bool false, .bool false] 28 (0, 0))) := ⟨h9_⟩
 have n10_ : Aside0 (w.heap.size ≤ gb197) := ⟨h10_⟩
 have n11_ : Aside0 (w.heap.size ≤ gb197) := ⟨h11_⟩
 have n12_ : Aside0 (gb178 ≠ gb197) := ⟨h12_⟩
 have n13_ : Aside0 (gb197 ≠ gb178) := ⟨h13_⟩
 have n14_ : Aside0 (Below w.heap.size w w29) := ⟨h14_⟩
 clear HO162 HO165 HO170 HO173 BK178 HB h0_ h1_ h2_ h3_ h4_ h5_ h6_ h7_ h8_ h9_ h10_ h11_ h12_ h13_ h14_
 have HO162 := n0_
 have HO165 := n1_
 have HO170 := n2_
 have HO173 := n3_
 have HO181 := n4_
 have HO184 := n5_
 have HO189 := n6_
 have HO192 := n7_
 have BK178 := n8_
 have BK197 := n9_
 have GW197 := n10_
 have GE197 := n11_
 have NB178_197 := n12_
 have NB197_178 := n13_
 have HB := n14_
 clear n0_ n1_ n2_ n3_ n4_ n5_ n6_ n7_ n8_ n9_ n10_ n11_ n12_ n13_ n14_
 have hHeld : w29.cell? ⟨gb178, 0, none⟩ = some (.int .i64 t166) ∧ w29.cell? ⟨gb178, 1, none⟩ = some (.int .i64 t167) ∧ w29.cell? ⟨gb178, 2, none⟩ = some (.slice Ao20 t168.length co20) ∧ w29.cell? ⟨gb178, 3, none⟩ = some (.slice Ao21 t171.length co21) ∧ w29.cell? ⟨gb178, 4, none⟩ = some (.bool t174) ∧ w29.cell? ⟨gb178, 5, none⟩ = some (.bool t175) ∧ w29.cell? ⟨gb178, 6, none⟩ = some (.bool t176) := hS_
 obtain ⟨Ao32, co32, eo32⟩ := Kd.R_slice HO189.out
 (first | subst eo32 | (injection eo32 with f1_ f2_ f3_; have f4_ := f1_.symm; have f5_ := f3_.symm; clear f1_ f2_ f3_; subst f4_; subst f5_))
 obtain ⟨Ao34, co34, eo34⟩ := Kd.R_slice HO192.out
 (first | subst eo34 | (injection eo34 with f1_ f2_ f3_; have f4_ := f1_.symm; have f5_ := f3_.symm; clear f1_ f2_ f3_; subst f4_; subst f5_))
 refine norm_ (a' := ?_) ?_ ?_
 rotate_left
 ·simp only [putAll, Act.put, List.setIfInBounds_toArray, List.set_cons_zero, List.set_cons_succ]
  rfl
 refine one_ (i := 7) (N := none) #[true, true, true, true, true, true, true, true, false] rfl rfl (one_of HT_.out (by kernel_rfl)) (by decide) (fun K hK => ?_)
 have hs30 : w29.cell? ⟨gb197, 0, none⟩ = some (.int .i64 0) := (blk_cell BK197.out 0).trans rfl
 have hfs30 := blk_frozen BK197.out 0
 have hns30_0 := NB178_197.out
 have hms30_0 := NB197_178.out
 have hs31 : w29.cell? ⟨gb197, 1, none⟩ = some (.int .i64 0) := (blk_cell BK197.out 1).trans rfl
 have hfs31 := blk_frozen BK197.out 1
 have hns31_0 := NB178_197.out
 have hms31_0 := NB197_178.out
 have hs33 : w29.cell? ⟨gb197, 2, none⟩ = some (.slice none 0 0) := (blk_cell BK197.out 2).trans rfl
 have hfs33 := blk_frozen BK197.out 2
 have hns33_0 := NB178_197.out
 have hms33_0 := NB197_178.out
 have hs35 : w29.cell? ⟨gb197, 3, none⟩ = some (.slice none 0 0) := (blk_cell BK197.out 3).trans rfl
 have hfs35 := blk_frozen BK197.out 3
 have hns35_0 := NB178_197.out
 have hms35_0 := NB197_178.out
 have hs36 : w29.cell? ⟨gb197, 4, none⟩ = some (.bool false) := (blk_cell BK197.out 4).trans rfl
 have hfs36 := blk_frozen BK197.out 4
 have hns36_0 := NB178_197.out
 have hms36_0 := NB197_178.out
 have hs37 : w29.cell? ⟨gb197, 5, none⟩ = some (.bool false) := (blk_cell BK197.out 5).trans rfl
 have hfs37 := blk_frozen BK197.out 5
 have hns37_0 := NB178_197.out
 have hms37_0 := NB197_178.out
 have hs38 : w29.cell? ⟨gb197, 6, none⟩ = some (.bool false) := (blk_cell BK197.out 6).trans rfl
 have hfs38 := blk_frozen BK197.out 6
 have hns38_0 := NB178_197.out
 have hms38_0 := NB197_178.out
 refine skip_ (w1 := ?_) (by rfl) rfl ?_ ?_
 rotate_left
 ·go_simp
  rfl
 refine hK.out _ _ ⟨((cell_far (p := ⟨gb197, _, none⟩) NB178_197.out _).trans (((cell_far (p := ⟨gb197, _, none⟩) NB178_197.out _).trans (((cell_far (p := ⟨gb197, _, none⟩) NB178_197.out _).trans (((cell_far (p := ⟨gb197, _, none⟩) NB178_197.out _).trans (((cell_far (p := ⟨gb197, _, none⟩) NB178_197.out _).trans (((cell_far (p := ⟨gb197, _, none⟩) NB178_197.out _).trans (((cell_far (p := ⟨gb197, _, none⟩) NB178_197.out _).trans (hHeld.1)))))))))))))), ((cell_far (p := ⟨gb197, _, none⟩) NB178_197.out _).trans (((cell_far (p := ⟨gb197, _, none⟩) NB178_197.out _).trans (((cell_far (p := ⟨gb197, _, none⟩) NB178_197.out _).trans (((cell_far (p := ⟨gb197, _, none⟩) NB178_197.out _).trans (((cell_far (p := ⟨gb197, _, none⟩) NB178_197.out _).trans (((cell_far (p := ⟨gb197, _, none⟩) NB178_197.out _).trans (((cell_far (p := ⟨gb197, _, none⟩) NB178_197.out _).trans (hHeld.2.1)))))))))))))), ((cell_far (p := ⟨gb197, _, none⟩) NB178_197.out _).trans (((cell_far (p := ⟨gb197, _, none⟩) NB178_197.out _).trans (((cell_far (p := ⟨gb197, _, none⟩) NB178_197.out _).trans (((cell_far (p := ⟨gb197, _, none⟩) NB178_197.out _).trans (((cell_far (p := ⟨gb197, _, none⟩) NB178_197.out _).trans (((cell_far (p := ⟨gb197, _, none⟩) NB178_197.out _).trans (((cell_far (p := ⟨gb197, _, none⟩) NB178_197.out _).trans (hHeld.2.2.1)))))))))))))), ((cell_far (p := ⟨gb197, _, none⟩) NB178_197.out _).trans (((cell_far (p := ⟨gb197, _, none⟩) NB178_197.out _).trans (((cell_far (p := ⟨gb197, _, none⟩) NB178_197.out _).trans (((cell_far (p := ⟨gb197, _, none⟩) NB178_197.out _).trans (((cell_far (p := ⟨gb197, _, none⟩) NB178_197.out _).trans (((cell_far (p := ⟨gb197, _, none⟩) NB178_197.out _).trans (((cell_far (p := ⟨gb197, _, none⟩) NB178_197.out _).trans (hHeld.2.2.2.1)))))))))))))), ((cell_far (p := ⟨gb197, _, none⟩) NB178_197.out _).trans (((cell_far (p := ⟨gb197, _, none⟩) NB178_197.out _).trans (((cell_far (p := ⟨gb197, _, none⟩) NB178_197.out _).trans (((cell_far (p := ⟨gb197, _, none⟩) NB178_197.out _).trans (((cell_far (p := ⟨gb197, _, none⟩) NB178_197.out _).trans (((cell_far (p := ⟨gb197, _, none⟩) NB178_197.out _).trans (((cell_far (p := ⟨gb197, _, none⟩) NB178_197.out _).trans (hHeld.2.2.2.2.1)))))))))))))), ((cell_far (p := ⟨gb197, _, none⟩) NB178_197.out _).trans (((cell_far (p := ⟨gb197, _, none⟩) NB178_197.out _).trans (((cell_far (p := ⟨gb197, _, none⟩) NB178_197.out _).trans (((cell_far (p := ⟨gb197, _, none⟩) NB178_197.out _).trans (((cell_far (p := ⟨gb197, _, none⟩) NB178_197.out _).trans (((cell_far (p := ⟨gb197, _, none⟩) NB178_197.out _).trans (((cell_far (p := ⟨gb197, _, none⟩) NB178_197.out _).trans (hHeld.2.2.2.2.2.1)))))))))))))), ((cell_far (p := ⟨gb197, _, none⟩) NB178_197.out _).trans (((cell_far (p := ⟨gb197, _, none⟩) NB178_197.out _).trans (((cell_far (p := ⟨gb197, _, none⟩) NB178_197.out _).trans (((cell_far (p := ⟨gb197, _, none⟩) NB178_197.out _).trans (((cell_far (p := ⟨gb197, _, none⟩) NB178_197.out _).trans (((cell_far (p := ⟨gb197, _, none⟩) NB178_197.out _).trans (((cell_far (p := ⟨gb197, _, none⟩) NB178_197.out _).trans (hHeld.2.2.2.2.2.2))))))))))))))⟩ (fun hHeld => ?_)
 clear hK K
 refine pure_ (i := 8) (N := some 4) (v := ?_) (a' := ?_) #[true, true, true, true, true, true, true, true, true] rfl rfl (any_of HT_.out (by kernel_rfl)) (fun _ _ _ h => h) (Or.inl ⟨by rfl, ?_⟩) ?_ ?_
 rotate_left
 ·intro w'
  go_simp
  with_reducible rfl
 rotate_left
 ·simp only [Act.put, sq0, sq1, sq2, sq3, sq4]
  rfl
 refine done_ (done_of HT_.out (by kernel_rfl)) ?_
 have hnb39 := NB197_178.out
 have hnc39 := NB178_197.out
 obtain ⟨z40_0, z40_1, z40_2, z40_3, z40_4, z40_5, z40_6, f40_0, f40_1, f40_2, f40_3, f40_4, f40_5, f40_6⟩ := kk7 BK197.out
 try go_wp2_with (first | ((with_reducible refine gate_dst (N := 28) rfl ?_); (try (refine gate_guard (by rfl) ?_; dsimp only)); refine Kd.R_lit Kd.bool _ 4 ?hg (N := 28) ?hd (xs := ([true, true, false] : List Bool)) (inner := [.bool true, .bool true, .bool false]) (ok := fun _ => True) (okp := fun _ => True) ?hr ?hp (fun _ hk => hk) trivial (Below.refl _ _) (Nat.le_refl _) (by simp) ?_; (case hd => rfl); (case hg => rfl); (case hr => first | (go_simp; done) | (go_simp; rfl)); (case hp => exact (Reps.one (show Kd.M Kd.bool _ _ _ true [.bool true] from rfl) (Reps.one (show Kd.M Kd.bool _ _ _ true [.bool true] from rfl) (Reps.one (show Kd.M Kd.bool _ _ _ false [.bool false] from rfl) (Reps.none _ _))))); intro v199 w41 ho42 hb hg_ hnew_; clear hg_ hnew_; (first | rw [← Ny198.out] at ho42 | (simp only [Int.reduceToNat] at ho42; rw [← Ny198.out] at ho42)); have n0_ := ak (Kd.N_elder' (by (with_reducible repeat (first | apply Kd.N_alloc | apply Kd.N_drewN | apply Kd.N_drew)); exact (Kd.N_mono (Kd.N_far (p := ⟨gb197, 6, none⟩) (Kd.N_far (p := ⟨gb197, 5, none⟩) (Kd.N_far (p := ⟨gb197, 4, none⟩) (Kd.N_far (p := ⟨gb197, 3, none⟩) (Kd.N_far (p := ⟨gb197, 2, none⟩) (Kd.N_far (p := ⟨gb197, 1, none⟩) (Kd.N_far (p := ⟨gb197, 0, none⟩) (Kd.N_mono HO162.out (fun k_ hk => (⟨hk, hk.2.2.2.2.2.2.2.2⟩ : _ ∧ k_ ≠ gb197))) (fun _ hk => hk.2) (.int .i64 t185)) (fun _ hk => hk.2) (.int .i64 t186)) (fun _ hk => hk.2) (.slice Ao32 t187.length co32)) (fun _ hk => hk.2) (.slice Ao34 t190.length co34)) (fun _ hk => hk.2) (.bool t193)) (fun _ hk => hk.2) (.bool t194)) (fun _ hk => hk.2) (.bool t195)) (fun _ h_ => h_.1))) (Kd.R_base ho42) hb); have n1_ := ak (Kd.R_below (by (with_reducible repeat (first | apply Kd.R_alloc | apply Kd.R_drewN | apply Kd.R_drew)); exact (Kd.R_mono (Kd.R_far (p := ⟨gb197, 6, none⟩) (Kd.R_far (p := ⟨gb197, 5, none⟩) (Kd.R_far (p := ⟨gb197, 4, none⟩) (Kd.R_far (p := ⟨gb197, 3, none⟩) (Kd.R_far (p := ⟨gb197, 2, none⟩) (Kd.R_far (p := ⟨gb197, 1, none⟩) (Kd.R_far (p := ⟨gb197, 0, none⟩) (Kd.R_types HO165.out BK197.out (by decide)) (fun _ hk => hk.2) (.int .i64 t185)) (fun _ hk => hk.2) (.int .i64 t186)) (fun _ hk => hk.2) (.slice Ao32 t187.length co32)) (fun _ hk => hk.2) (.slice Ao34 t190.length co34)) (fun _ hk => hk.2) (.bool t193)) (fun _ hk => hk.2) (.bool t194)) (fun _ hk => hk.2) (.bool t195)) (fun _ h_ => h_.1))) hb); have n2_ := ak (Kd.R_elder' (by (with_reducible repeat (first | apply Kd.R_alloc | apply Kd.R_drewN | apply Kd.R_drew)); exact (Kd.R_mono (Kd.R_far (p := ⟨gb197, 6, none⟩) (Kd.R_far (p := ⟨gb197, 5, none⟩) (Kd.R_far (p := ⟨gb197, 4, none⟩) (Kd.R_far (p := ⟨gb197, 3, none⟩) (Kd.R_far (p := ⟨gb197, 2, none⟩) (Kd.R_far (p := ⟨gb197, 1, none⟩) (Kd.R_far (p := ⟨gb197, 0, none⟩) (Kd.R_types HO170.out BK197.out (by decide)) (fun _ hk => hk.2) (.int .i64 t185)) (fun _ hk => hk.2) (.int .i64 t186)) (fun _ hk => hk.2) (.slice Ao32 t187.length co32)) (fun _ hk => hk.2) (.slice Ao34 t190.length co34)) (fun _ hk => hk.2) (.bool t193)) (fun _ hk => hk.2) (.bool t194)) (fun _ hk => hk.2) (.bool t195)) (fun _ h_ => h_.1))) (Kd.R_base ho42) hb); have n3_ := ak (Kd.R_below (by (with_reducible repeat (first | apply Kd.R_alloc | apply Kd.R_drewN | apply Kd.R_drew)); exact (Kd.R_mono (Kd.R_far (p := ⟨gb197, 6, none⟩) (Kd.R_far (p := ⟨gb197, 5, none⟩) (Kd.R_far (p := ⟨gb197, 4, none⟩) (Kd.R_far (p := ⟨gb197, 3, none⟩) (Kd.R_far (p := ⟨gb197, 2, none⟩) (Kd.R_far (p := ⟨gb197, 1, none⟩) (Kd.R_far (p := ⟨gb197, 0, none⟩) (Kd.R_types HO173.out BK197.out (by decide)) (fun _ hk => hk.2) (.int .i64 t185)) (fun _ hk => hk.2) (.int .i64 t186)) (fun _ hk => hk.2) (.slice Ao32 t187.length co32)) (fun _ hk => hk.2) (.slice Ao34 t190.length co34)) (fun _ hk => hk.2) (.bool t193)) (fun _ hk => hk.2) (.bool t194)) (fun _ hk => hk.2) (.bool t195)) (fun _ h_ => h_.1))) hb); have n4_ := ak (Kd.N_elder' (by (with_reducible repeat (first | apply Kd.N_alloc | apply Kd.N_drewN | apply Kd.N_drew)); exact (Kd.N_mono (Kd.N_far (p := ⟨gb197, 6, none⟩) (Kd.N_far (p := ⟨gb197, 5, none⟩) (Kd.N_far (p := ⟨gb197, 4, none⟩) (Kd.N_far (p := ⟨gb197, 3, none⟩) (Kd.N_far (p := ⟨gb197, 2, none⟩) (Kd.N_far (p := ⟨gb197, 1, none⟩) (Kd.N_far (p := ⟨gb197, 0, none⟩) (Kd.N_mono HO181.out (fun k_ hk => (⟨hk, hk.2.2.2.2.2.2.2.2⟩ : _ ∧ k_ ≠ gb197))) (fun _ hk => hk.2) (.int .i64 t185)) (fun _ hk => hk.2) (.int .i64 t186)) (fun _ hk => hk.2) (.slice Ao32 t187.length co32)) (fun _ hk => hk.2) (.slice Ao34 t190.length co34)) (fun _ hk => hk.2) (.bool t193)) (fun _ hk => hk.2) (.bool t194)) (fun _ hk => hk.2) (.bool t195)) (fun _ h_ => h_.1))) (Kd.R_base ho42) hb); have n5_ := ak (Kd.R_below (by (with_reducible repeat (first | apply Kd.R_alloc | apply Kd.R_drewN | apply Kd.R_drew)); exact (Kd.R_mono (Kd.R_far (p := ⟨gb197, 6, none⟩) (Kd.R_far (p := ⟨gb197, 5, none⟩) (Kd.R_far (p := ⟨gb197, 4, none⟩) (Kd.R_far (p := ⟨gb197, 3, none⟩) (Kd.R_far (p := ⟨gb197, 2, none⟩) (Kd.R_far (p := ⟨gb197, 1, none⟩) (Kd.R_far (p := ⟨gb197, 0, none⟩) (Kd.R_types HO184.out BK197.out (by decide)) (fun _ hk => hk.2) (.int .i64 t185)) (fun _ hk => hk.2) (.int .i64 t186)) (fun _ hk => hk.2) (.slice Ao32 t187.length co32)) (fun _ hk => hk.2) (.slice Ao34 t190.length co34)) (fun _ hk => hk.2) (.bool t193)) (fun _ hk => hk.2) (.bool t194)) (fun _ hk => hk.2) (.bool t195)) (fun _ h_ => h_.1))) hb); have n6_ := ak (Kd.R_elder' (by (with_reducible repeat (first | apply Kd.R_alloc | apply Kd.R_drewN | apply Kd.R_drew)); exact (Kd.R_mono (Kd.R_far (p := ⟨gb197, 6, none⟩) (Kd.R_far (p := ⟨gb197, 5, none⟩) (Kd.R_far (p := ⟨gb197, 4, none⟩) (Kd.R_far (p := ⟨gb197, 3, none⟩) (Kd.R_far (p := ⟨gb197, 2, none⟩) (Kd.R_far (p := ⟨gb197, 1, none⟩) (Kd.R_far (p := ⟨gb197, 0, none⟩) (Kd.R_types HO189.out BK197.out (by decide)) (fun _ hk => hk.2) (.int .i64 t185)) (fun _ hk => hk.2) (.int .i64 t186)) (fun _ hk => hk.2) (.slice Ao32 t187.length co32)) (fun _ hk => hk.2) (.slice Ao34 t190.length co34)) (fun _ hk => hk.2) (.bool t193)) (fun _ hk => hk.2) (.bool t194)) (fun _ hk => hk.2) (.bool t195)) (fun _ h_ => h_.1))) (Kd.R_base ho42) hb); have n7_ := ak (Kd.R_below (by (with_reducible repeat (first | apply Kd.R_alloc | apply Kd.R_drewN | apply Kd.R_drew)); exact (Kd.R_mono (Kd.R_far (p := ⟨gb197, 6, none⟩) (Kd.R_far (p := ⟨gb197, 5, none⟩) (Kd.R_far (p := ⟨gb197, 4, none⟩) (Kd.R_far (p := ⟨gb197, 3, none⟩) (Kd.R_far (p := ⟨gb197, 2, none⟩) (Kd.R_far (p := ⟨gb197, 1, none⟩) (Kd.R_far (p := ⟨gb197, 0, none⟩) (Kd.R_types HO192.out BK197.out (by decide)) (fun _ hk => hk.2) (.int .i64 t185)) (fun _ hk => hk.2) (.int .i64 t186)) (fun _ hk => hk.2) (.slice Ao32 t187.length co32)) (fun _ hk => hk.2) (.slice Ao34 t190.length co34)) (fun _ hk => hk.2) (.bool t193)) (fun _ hk => hk.2) (.bool t194)) (fun _ hk => hk.2) (.bool t195)) (fun _ h_ => h_.1))) hb); have n8_ := ak (Kd.R_lower (Kd.R_new' (Kd.R_new' ho42 (Kd.R_lt (by (with_reducible repeat (first | apply Kd.R_alloc | apply Kd.R_drewN | apply Kd.R_drew)); exact (Kd.R_mono (Kd.R_far (p := ⟨gb197, 6, none⟩) (Kd.R_far (p := ⟨gb197, 5, none⟩) (Kd.R_far (p := ⟨gb197, 4, none⟩) (Kd.R_far (p := ⟨gb197, 3, none⟩) (Kd.R_far (p := ⟨gb197, 2, none⟩) (Kd.R_far (p := ⟨gb197, 1, none⟩) (Kd.R_far (p := ⟨gb197, 0, none⟩) (Kd.R_types HO170.out BK197.out (by decide)) (fun _ hk => hk.2) (.int .i64 t185)) (fun _ hk => hk.2) (.int .i64 t186)) (fun _ hk => hk.2) (.slice Ao32 t187.length co32)) (fun _ hk => hk.2) (.slice Ao34 t190.length co34)) (fun _ hk => hk.2) (.bool t193)) (fun _ hk => hk.2) (.bool t194)) (fun _ hk => hk.2) (.bool t195)) (fun _ h_ => h_.1))))) (Kd.R_lt (by (with_reducible repeat (first | apply Kd.R_alloc | apply Kd.R_drewN | apply Kd.R_drew)); exact (Kd.R_mono (Kd.R_far (p := ⟨gb197, 6, none⟩) (Kd.R_far (p := ⟨gb197, 5, none⟩) (Kd.R_far (p := ⟨gb197, 4, none⟩) (Kd.R_far (p := ⟨gb197, 3, none⟩) (Kd.R_far (p := ⟨gb197, 2, none⟩) (Kd.R_far (p := ⟨gb197, 1, none⟩) (Kd.R_far (p := ⟨gb197, 0, none⟩) (Kd.R_types HO189.out BK197.out (by decide)) (fun _ hk => hk.2) (.int .i64 t185)) (fun _ hk => hk.2) (.int .i64 t186)) (fun _ hk => hk.2) (.slice Ao32 t187.length co32)) (fun _ hk => hk.2) (.slice Ao34 t190.length co34)) (fun _ hk => hk.2) (.bool t193)) (fun _ hk => hk.2) (.bool t194)) (fun _ hk => hk.2) (.bool t195)) (fun _ h_ => h_.1))))) (below_size (by repeat (first | (with_reducible first | exact HB.out | apply ba_ | apply bn_ | apply b1_ | refine bs_ ?_ GE178.out | refine bs_ ?_ GE197.out) | exact HB.out)))); have n9_ := ak (blk_below (g := gb178) (o := .cells #[.int .i64 t166, .int .i64 t167, .slice Ao20 t168.length co20, .slice Ao21 t171.length co21, .bool t174, .bool t175, .bool t176] 28 (0, 0)) (by (with_reducible repeat first | apply kn_ | apply kd_ | apply ka_); refine blk_far ?_ NB178_197.out _; (with_reducible repeat first | apply kn_ | apply kd_ | apply ka_); refine blk_far ?_ NB178_197.out _; (with_reducible repeat first | apply kn_ | apply kd_ | apply ka_); refine blk_far ?_ NB178_197.out _; (with_reducible repeat first | apply kn_ | apply kd_ | apply ka_); refine blk_far ?_ NB178_197.out _; (with_reducible repeat first | apply kn_ | apply kd_ | apply ka_); refine blk_far ?_ NB178_197.out _; (with_reducible repeat first | apply kn_ | apply kd_ | apply ka_); refine blk_far ?_ NB178_197.out _; (with_reducible repeat first | apply kn_ | apply kd_ | apply ka_); refine blk_far ?_ NB178_197.out _; (with_reducible repeat first | apply kn_ | apply kd_ | apply ka_); exact BK178.out) hb); have n10_ := ak (blk_below (g := gb197) (o := .cells #[.int .i64 t185, .int .i64 t186, .slice Ao32 t187.length co32, .slice Ao34 t190.length co34, .bool t193, .bool t194, .bool t195] 28 (0, 0)) (by (with_reducible repeat first | apply kn_ | apply kd_ | apply ka_); refine blk_put (cs := #[.int .i64 t185, .int .i64 t186, .slice Ao32 t187.length co32, .slice Ao34 t190.length co34, .bool t193, .bool t194, .bool false]) ?_ 6 _ rfl; (with_reducible repeat first | apply kn_ | apply kd_ | apply ka_); refine blk_put (cs := #[.int .i64 t185, .int .i64 t186, .slice Ao32 t187.length co32, .slice Ao34 t190.length co34, .bool t193, .bool false, .bool false]) ?_ 5 _ rfl; (with_reducible repeat first | apply kn_ | apply kd_ | apply ka_); refine blk_put (cs := #[.int .i64 t185, .int .i64 t186, .slice Ao32 t187.length co32, .slice Ao34 t190.length co34, .bool false, .bool false, .bool false]) ?_ 4 _ rfl; (with_reducible repeat first | apply kn_ | apply kd_ | apply ka_); refine blk_put (cs := #[.int .i64 t185, .int .i64 t186, .slice Ao32 t187.length co32, .slice none 0 0, .bool false, .bool false, .bool false]) ?_ 3 _ rfl; (with_reducible repeat first | apply kn_ | apply kd_ | apply ka_); refine blk_put (cs := #[.int .i64 t185, .int .i64 t186, .slice none 0 0, .slice none 0 0, .bool false, .bool false, .bool false]) ?_ 2 _ rfl; (with_reducible repeat first | apply kn_ | apply kd_ | apply ka_); refine blk_put (cs := #[.int .i64 t185, .int .i64 0, .slice none 0 0, .slice none 0 0, .bool false, .bool false, .bool false]) ?_ 1 _ rfl; (with_reducible repeat first | apply kn_ | apply kd_ | apply ka_); refine blk_put (cs := #[.int .i64 0, .int .i64 0, .slice none 0 0, .slice none 0 0, .bool false, .bool false, .bool false]) ?_ 0 _ rfl; (with_reducible repeat first | apply kn_ | apply kd_ | apply ka_); exact BK197.out) hb); have n11_ := ak (below_step (by repeat (first | (with_reducible first | exact HB.out | apply ba_ | apply bn_ | apply b1_ | refine bs_ ?_ GE178.out | refine bs_ ?_ GE197.out) | exact HB.out)) hb); clear HO162 HO165 HO170 HO173 HO181 HO184 HO189 HO192 BK178 BK197 HB; have HO162 := n0_; have HO165 := n1_; have HO170 := n2_; have HO173 := n3_; have HO181 := n4_; have HO184 := n5_; have HO189 := n6_; have HO192 := n7_; have HO200 := n8_; have BK178 := n9_; have BK197 := n10_; have HB := n11_; clear n0_ n1_ n2_ n3_ n4_ n5_ n6_ n7_ n8_ n9_ n10_ n11_ hb ho42; obtain ⟨Ao43, co43, eo43⟩ := Kd.R_slice HO200.out; subst eo43) | (go_at_call 31; (with_reducible refine (slices_Equal_bool_bool.calls k _ _ t187 _ _ y198 true _ ?side1 ?side2 ?side3 ?side4 A8.out).mono ?_); (case side1 => repeat (first | exact (Kd.R_reads' HO189.out).2.2 | (with_reducible first | refine ca_ ?_ _ | refine cn_ ?_ _ | refine cd_ ?_))); (case side2 => exact (Kd.R_reads' HO189.out).2.1); (case side3 => repeat (first | exact (Kd.R_reads' HO200.out).2.2 | (with_reducible first | refine ca_ ?_ _ | refine cn_ ?_ _ | refine cd_ ?_))); (case side4 => exact (Kd.R_reads' HO200.out).2.1); rintro e w' ⟨rfl, ⟨nd, rfl⟩⟩; obtain ⟨z44_0, z44_1, z44_2, z44_3, z44_4, z44_5, z44_6, f44_0, f44_1, f44_2, f44_3, f44_4, f44_5, f44_6⟩ := kk7 BK178.out; obtain ⟨z45_0, z45_1, z45_2, z45_3, z45_4, z45_5, z45_6, f45_0, f45_1, f45_2, f45_3, f45_4, f45_5, f45_6⟩ := kk7 BK197.out) | (go_at_call 13; (with_reducible refine (mark_Same.calls t166 t167 _ _ t168 _ _ t171 t174 t175 t176 t185 t186 _ _ t187 _ _ t190 t193 t194 t195 false _ ?side1 ?side2 ?side3 ?side4 ?side5 ?side6 ?side7 ?side8 A10.out).mono ?_); (case side1 => repeat (first | exact (Kd.R_reads' HO170.out).2.2 | (with_reducible first | refine ca_ ?_ _ | refine cn_ ?_ _ | refine cd_ ?_))); (case side2 => exact (Kd.R_reads' HO170.out).2.1); (case side3 => repeat (first | exact (Kd.R_reads' HO173.out).2.2 | (with_reducible first | refine ca_ ?_ _ | refine cn_ ?_ _ | refine cd_ ?_))); (case side4 => exact (Kd.R_reads' HO173.out).2.1); (case side5 => repeat (first | exact (Kd.R_reads' HO189.out).2.2 | (with_reducible first | refine ca_ ?_ _ | refine cn_ ?_ _ | refine cd_ ?_))); (case side6 => exact (Kd.R_reads' HO189.out).2.1); (case side7 => repeat (first | exact (Kd.R_reads' HO192.out).2.2 | (with_reducible first | refine ca_ ?_ _ | refine cn_ ?_ _ | refine cd_ ?_))); (case side8 => exact (Kd.R_reads' HO192.out).2.1); rintro e w46 ⟨rfl, hb⟩; have n0_ := ak (Kd.N_below (by (with_reducible repeat (first | apply Kd.N_alloc | apply Kd.N_drewN | apply Kd.N_drew)); exact HO162.out) hb); have n1_ := ak (Kd.R_below (by (with_reducible repeat (first | apply Kd.R_alloc | apply Kd.R_drewN | apply Kd.R_drew)); exact HO165.out) hb); have n2_ := ak (Kd.R_below (by (with_reducible repeat (first | apply Kd.R_alloc | apply Kd.R_drewN | apply Kd.R_drew)); exact HO170.out) hb); have n3_ := ak (Kd.R_below (by (with_reducible repeat (first | apply Kd.R_alloc | apply Kd.R_drewN | apply Kd.R_drew)); exact HO173.out) hb); have n4_ := ak (Kd.N_below (by (with_reducible repeat (first | apply Kd.N_alloc | apply Kd.N_drewN | apply Kd.N_drew)); exact HO181.out) hb); have n5_ := ak (Kd.R_below (by (with_reducible repeat (first | apply Kd.R_alloc | apply Kd.R_drewN | apply Kd.R_drew)); exact HO184.out) hb); have n6_ := ak (Kd.R_below (by (with_reducible repeat (first | apply Kd.R_alloc | apply Kd.R_drewN | apply Kd.R_drew)); exact HO189.out) hb); have n7_ := ak (Kd.R_below (by (with_reducible repeat (first | apply Kd.R_alloc | apply Kd.R_drewN | apply Kd.R_drew)); exact HO192.out) hb); have n8_ := ak (Kd.R_below (by (with_reducible repeat (first | apply Kd.R_alloc | apply Kd.R_drewN | apply Kd.R_drew)); exact HO200.out) hb); have n9_ := ak (blk_below (by (with_reducible repeat first | apply kn_ | apply kd_ | apply ka_); exact BK178.out) hb); have n10_ := ak (blk_below (by (with_reducible repeat first | apply kn_ | apply kd_ | apply ka_); exact BK197.out) hb); have n11_ := ak (below_step (by repeat (first | (with_reducible first | exact HB.out | apply ba_ | apply bn_ | apply b1_ | refine bs_ ?_ GE178.out | refine bs_ ?_ GE197.out) | exact HB.out)) hb); clear HO162 HO165 HO170 HO173 HO181 HO184 HO189 HO192 HO200 BK178 BK197 HB; have HO162 := n0_; have HO165 := n1_; have HO170 := n2_; have HO173 := n3_; have HO181 := n4_; have HO184 := n5_; have HO189 := n6_; have HO192 := n7_; have HO200 := n8_; have BK178 := n9_; have BK197 := n10_; have HB := n11_; clear n0_ n1_ n2_ n3_ n4_ n5_ n6_ n7_ n8_ n9_ n10_ n11_; (try clear hb); (try clear hb2); (try clear hk); (try clear hi); (try clear A10); obtain ⟨z47_0, z47_1, z47_2, z47_3, z47_4, z47_5, z47_6, f47_0, f47_1, f47_2, f47_3, f47_4, f47_5, f47_6⟩ := kk7 BK197.out) | (go_at_call 13; (with_reducible refine (mark_Same.calls t185 t186 _ _ t187 _ _ t190 t193 t194 t195 t185 t186 _ _ t187 _ _ t190 t193 t194 t195 true _ ?side1 ?side2 ?side3 ?side4 ?side5 ?side6 ?side7 ?side8 A12.out).mono ?_); (case side1 => repeat (first | exact (Kd.R_reads' HO189.out).2.2 | (with_reducible first | refine ca_ ?_ _ | refine cn_ ?_ _ | refine cd_ ?_))); (case side2 => exact (Kd.R_reads' HO189.out).2.1); (case side3 => repeat (first | exact (Kd.R_reads' HO192.out).2.2 | (with_reducible first | refine ca_ ?_ _ | refine cn_ ?_ _ | refine cd_ ?_))); (case side4 => exact (Kd.R_reads' HO192.out).2.1); (case side5 => repeat (first | exact (Kd.R_reads' HO189.out).2.2 | (with_reducible first | refine ca_ ?_ _ | refine cn_ ?_ _ | refine cd_ ?_))); (case side6 => exact (Kd.R_reads' HO189.out).2.1); (case side7 => repeat (first | exact (Kd.R_reads' HO192.out).2.2 | (with_reducible first | refine ca_ ?_ _ | refine cn_ ?_ _ | refine cd_ ?_))); (case side8 => exact (Kd.R_reads' HO192.out).2.1); rintro e w48 ⟨rfl, hb⟩; have n0_ := ak (Kd.N_below (by (with_reducible repeat (first | apply Kd.N_alloc | apply Kd.N_drewN | apply Kd.N_drew)); exact HO162.out) hb); have n1_ := ak (Kd.R_below (by (with_reducible repeat (first | apply Kd.R_alloc | apply Kd.R_drewN | apply Kd.R_drew)); exact HO165.out) hb); have n2_ := ak (Kd.R_below (by (with_reducible repeat (first | apply Kd.R_alloc | apply Kd.R_drewN | apply Kd.R_drew)); exact HO170.out) hb); have n3_ := ak (Kd.R_below (by (with_reducible repeat (first | apply Kd.R_alloc | apply Kd.R_drewN | apply Kd.R_drew)); exact HO173.out) hb); have n4_ := ak (Kd.N_below (by (with_reducible repeat (first | apply Kd.N_alloc | apply Kd.N_drewN | apply Kd.N_drew)); exact HO181.out) hb); have n5_ := ak (Kd.R_below (by (with_reducible repeat (first | apply Kd.R_alloc | apply Kd.R_drewN | apply Kd.R_drew)); exact HO184.out) hb); have n6_ := ak (Kd.R_below (by (with_reducible repeat (first | apply Kd.R_alloc | apply Kd.R_drewN | apply Kd.R_drew)); exact HO189.out) hb); have n7_ := ak (Kd.R_below (by (with_reducible repeat (first | apply Kd.R_alloc | apply Kd.R_drewN | apply Kd.R_drew)); exact HO192.out) hb); have n8_ := ak (Kd.R_below (by (with_reducible repeat (first | apply Kd.R_alloc | apply Kd.R_drewN | apply Kd.R_drew)); exact HO200.out) hb); have n9_ := ak (blk_below (by (with_reducible repeat first | apply kn_ | apply kd_ | apply ka_); exact BK178.out) hb); have n10_ := ak (blk_below (by (with_reducible repeat first | apply kn_ | apply kd_ | apply ka_); exact BK197.out) hb); have n11_ := ak (below_step (by repeat (first | (with_reducible first | exact HB.out | apply ba_ | apply bn_ | apply b1_ | refine bs_ ?_ GE178.out | refine bs_ ?_ GE197.out) | exact HB.out)) hb); clear HO162 HO165 HO170 HO173 HO181 HO184 HO189 HO192 HO200 BK178 BK197 HB; have HO162 := n0_; have HO165 := n1_; have HO170 := n2_; have HO173 := n3_; have HO181 := n4_; have HO184 := n5_; have HO189 := n6_; have HO192 := n7_; have HO200 := n8_; have BK178 := n9_; have BK197 := n10_; have HB := n11_; clear n0_ n1_ n2_ n3_ n4_ n5_ n6_ n7_ n8_ n9_ n10_ n11_; (try clear hb); (try clear hb2); (try clear hk); (try clear hi); (try clear A12)))
 go_ret
 exact ⟨by first | rfl | (simp [errW_none, errW_some] <;> rfl) | (simp [*, errW_none, errW_some] <;> rfl) | (simp [Int.tdiv_eq_ediv_of_nonneg]; done), by repeat (first | (with_reducible first | exact HB.out | apply ba_ | apply bn_ | apply b1_ | refine bs_ ?_ GE178.out | refine bs_ ?_ GE197.out) | exact HB.out)⟩
/-! ### atticlaw19_few: function 11 -/
def atticlaw19_few.f (l0_0 : List (S56)) (l0_1 : List Int) : Option (Bool) := if (l0_0.length : Int) ≤ 40 then (some (decide ((l0_1.length : Int) ≤ 40))) else (some false)
set_option maxHeartbeats 8000000 in
set_option maxRecDepth 100000 in
theorem atticlaw19_few.calls (A0_0 : Option Addr) (c0_0 : Nat) (l0_0 : List (S56)) (A0_1 : Option Addr) (c0_1 : Nat) (l0_1 : List Int) (r : Bool) (w : World) (hr0_0 : Kd.C k56 w A0_0 l0_0.length l0_0) (hc0_0 : l0_0.length ≤ c0_0) (hr0_1 : Kd.C (Kd.int .i64) w A0_1 l0_1.length l0_1) (hc0_1 : l0_1.length ≤ c0_1) (h : atticlaw19_few.f l0_0 l0_1 = some r) :
  Calls Try.prog 11 #[.agg #[.slice A0_0 l0_0.length c0_0, .slice A0_1 l0_1.length c0_1]] w fun e w' => e = .returned (.bool r) ∧ Below w.heap.size w w' := by
 have hu25 := Try.underlying25
 have HR0_0 := ak hr0_0
 have HC0_0 := ak hc0_0
 clear hr0_0 hc0_0
 have HR0_1 := ak hr0_1
 have HC0_1 := ak hc0_1
 clear hr0_1 hc0_1
 have HB := ak (Below.refl w.heap.size w)
 have H : (if (l0_0.length : Int) ≤ 40 then (some (decide ((l0_1.length : Int) ≤ 40))) else (some false)) = some r := h
 clear h
 by_cases c2 : (l0_0.length : Int) ≤ 40; rotate_left
 ·rw [if_neg c2] at H
  have c2b0 : decide ((l0_0.length : Int) ≤ 40) = false := decide_eq_false c2
  have c2b1 : decide (l0_0.length ≤ 40) = false := decide_eq_false (by omega)
  clear c2
  obtain rfl := Option.some.inj H
  go_enter Try.func11, Try.ntmps11
  go_wp2_with (first | ((with_reducible refine gate_dst (N := 1) rfl ?_); (try (refine gate_guard (by rfl) ?_; dsimp only)); refine box_event ?hg (N := 1) ?hd (cs := #[.slice A0_0 l0_0.length c0_0, .slice A0_1 l0_1.length c0_1]) (t := 25) ?hr ?_; (case hd => rfl); (case hg => rfl); (case hr => first | (go_simp; done) | (go_simp; rfl)); intro gb204 hg w5 hbox hb; have n0_ := ak (below_step (by repeat (first | (with_reducible first | exact HB.out | apply ba_ | apply bn_ | apply b1_) | exact HB.out)) hb); have n1_ := ak (hbox); have n2_ := ak ((by rw [hg]; exact (below_size (by repeat (first | (with_reducible first | exact HB.out | apply ba_ | apply bn_ | apply b1_) | exact HB.out))) : w.heap.size ≤ gb204)); have n3_ := n2_; clear HB; have HB := n0_; have BK204 := n1_; have GW204 := n2_; have GE204 := n3_; clear n0_ n1_ n2_ n3_ hb hbox hg; obtain ⟨z6_0, z6_1, f6_0, f6_1⟩ := kk2 BK204.out))
  go_ret
  exact ⟨by first | rfl | (simp [errW_none, errW_some] <;> rfl) | (simp [*, errW_none, errW_some] <;> rfl) | (simp [Int.tdiv_eq_ediv_of_nonneg]; done), by repeat (first | (with_reducible first | exact HB.out | apply ba_ | apply bn_ | apply b1_ | refine bs_ ?_ GE204.out) | exact HB.out)⟩
 rw [if_pos c2] at H
 have c2b0 : decide ((l0_0.length : Int) ≤ 40) = true := decide_eq_true c2
 have c2b1 : decide (l0_0.length ≤ 40) = true := decide_eq_true (by omega)
 clear c2
 obtain rfl := Option.some.inj H
 go_enter Try.func11, Try.ntmps11
 go_wp2_with (first | ((with_reducible refine gate_dst (N := 1) rfl ?_); (try (refine gate_guard (by rfl) ?_; dsimp only)); refine box_event ?hg (N := 1) ?hd (cs := #[.slice A0_0 l0_0.length c0_0, .slice A0_1 l0_1.length c0_1]) (t := 25) ?hr ?_; (case hd => rfl); (case hg => rfl); (case hr => first | (go_simp; done) | (go_simp; rfl)); intro gb204 hg w3 hbox hb; have n0_ := ak (below_step (by repeat (first | (with_reducible first | exact HB.out | apply ba_ | apply bn_ | apply b1_) | exact HB.out)) hb); have n1_ := ak (hbox); have n2_ := ak ((by rw [hg]; exact (below_size (by repeat (first | (with_reducible first | exact HB.out | apply ba_ | apply bn_ | apply b1_) | exact HB.out))) : w.heap.size ≤ gb204)); have n3_ := n2_; clear HB; have HB := n0_; have BK204 := n1_; have GW204 := n2_; have GE204 := n3_; clear n0_ n1_ n2_ n3_ hb hbox hg; obtain ⟨z4_0, z4_1, f4_0, f4_1⟩ := kk2 BK204.out))
 go_ret
 exact ⟨by first | rfl | (simp [errW_none, errW_some] <;> rfl) | (simp [*, errW_none, errW_some] <;> rfl) | (simp [Int.tdiv_eq_ediv_of_nonneg]; done), by repeat (first | (with_reducible first | exact HB.out | apply ba_ | apply bn_ | apply b1_ | refine bs_ ?_ GE204.out) | exact HB.out)⟩
end Go.Proofs.Ytnmpmjbkelogaaa.Print
