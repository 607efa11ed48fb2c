/- Runs end within the bound, at the least closed set with the roots. -/
import Derived.Test.YtnmpmjbkelogaaaPrint
import Derived.Test.YtnmpmjbkelogaaaPureP19
namespace Go.Proofs.Ytnmpmjbkelogaaa.Pure
open Go.RowKit Go.Proofs.Ytnmpmjbkelogaaa.Print Go.Proofs.YtnmpmjbkelogaaaW.PrintWords Go.Proofs.YtnmpmjbkelogaaaW.PrintMore
set_option linter.unusedSimpArgs false
set_option linter.unusedVariables false

theorem way_sub {lc : List Cel} {lr : List Int} {room : Int} (hv : viewB lc lr = true) {x y : MS} {M : List Bool} (hM : Closed lc M) (hR : Roots lr M) (hO : Ok lc lr room x) (hs : Sub x.marks M) (hw : Way lc lr room x y) : Sub y.marks M := by
  cases hw with
  | root h ha z r ht =>
    refine touch_sub (y := z) ht (hR _ ?_) hs
    have hlt : x.at_.toNat < lr.length := by omega
    rw [show rd lr x.at_ = lr[x.at_.toNat] from by simp [rd, hlt]]
    exact List.getElem_mem hlt
  | pop h hs2 i hi hl _ r ht =>
    refine touches_sub ht (fun p hp => hM i hl (hs i ?_) p (cnt_mono hs hl p hp)) hs
    have hlt : x.stack.length - 1 < x.stack.length := by omega
    have hmem : rd x.stack ((x.stack.length : Int) - 1) ∈ x.stack := by
      rw [show ((x.stack.length : Int) - 1) = ((x.stack.length - 1 : Nat) : Int) from by omega, rd_in _ _ hlt]; exact List.getElem_mem hlt
    have := (hO.bs.stk _ hmem).2
    rw [hi] at this
    exact this
  | cellMore h i hi hl hm z ht =>
    exact touches_sub (y := z) ht (fun p hp => hM i hl (hs i hm) p (cnt_mono hs hl p hp)) hs
  | _ => exact hs
section
variable {lc : List Cel} {lr : List Int} {room : Int} {k : Nat}
end
theorem sub_eq {m M : List Bool} (hl : m.length = M.length) (h1 : Sub m M) (h2 : Sub M m) : m = M := by
  refine List.ext_getElem hl fun i hi hj => ?_
  have a := h1 i
  have b := h2 i
  have e1 : m.getD i false = m[i] := by simp [hi]
  have e2 : M.getD i false = M[i] := by simp [hj]
  unfold on at a b
  rw [e1, e2] at a
  rw [e1, e2] at b
  cases hm : m[i] <;> cases hM : M[i]
  · rfl
  · rw [hm, hM] at b; exact absurd (b rfl) Bool.false_ne_true
  · rw [hm, hM] at a; exact absurd (a rfl) Bool.false_ne_true
  · rfl
/-- Done: the marks are the least closed set that has the roots. -/
theorem least {lc : List Cel} {lr lr' : List Int} {x y : MS} (h : x.ph = 3) (hI : Inv lc lr x) (hs : ∀ M, Closed lc M → Roots lr M → Sub x.marks M) (hI' : Inv lc lr' y) (h' : y.ph = 3) (hs' : ∀ M, Closed lc M → Roots lr' M → Sub y.marks M) (hr : ∀ r, r ∈ lr ↔ r ∈ lr') (hl : x.marks.length = y.marks.length) : x.marks = y.marks :=
  sub_eq hl (hs _ (hI'.D h') fun r hm => hI'.r1 (by omega) r ((hr r).1 hm)) (hs' _ (hI.D h) fun r hm => hI.r1 (by omega) r ((hr r).2 hm))
end Go.Proofs.Ytnmpmjbkelogaaa.Pure
