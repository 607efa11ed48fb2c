/- What the small machine computes from nothing, the model computes in whatever memory (the session's own). -/
import Derived.Test.YtchjiocljlbhkaaMill11
namespace Go.Proofs.YtchjiocljlbhkaaW.Mill
open Go Go.RowKit
set_option linter.unusedVariables false
theorem HR.start (P : Program) (w : World) : HR P w.heap.size w (fun _ => none) AS.empty w :=
  ⟨Below.refl _ _, Nat.le_refl _, fun b x h => (by cases h), fun b o h => (by cases h), fun b b' x x' o o' h => (by cases h)⟩
def noExt : Calling := fun _ _ _ => none
theorem all_plain : ∀ {xs : List Value}, xs.all plainV = true → ∀ ρ : Rho, VRs ρ xs xs
  | [], _, _ => .nil
  | x :: xs, h, ρ => by
    simp only [List.all_cons, Bool.and_eq_true] at h
    exact .cons (.of_plain h.1) (all_plain h.2 ρ)
/-- A call that the small machine computes out of nothing. -/
theorem closed {P : Program} {fb : FuncId → Option Func} (hk : Known P fb) (hm : P.follows .mixedOrders = true) {K k : Nat} {f : FuncId} {xs : List Value} {v : Value} {s' : AS} (hx : xs.all plainV = true) (hv : plainV v = true)
    (h : acall P fb noExt K k (.func f) xs .empty = some (v, s')) (w : World) : Calls P f xs.toArray w (fun e w' => e = .returned v ∧ Below w.heap.size w w') := by
  have hA := ((acall_ok (base := w.heap.size) (w0 := w) hk (fun f xs s v s' h => (by cases h)) hm K k).f _ _ _ _ _ h).2
  have := hA (fun _ => none) xs.toArray w (HR.start P w) (by rw [List.toList_toArray]; exact all_plain hx _)
  refine (callsIn_wide.1 this).mono ?_
  rintro e w' ⟨rv, ρ', rfl, hh, hr, _⟩
  rw [hr.plain hv]
  exact ⟨rfl, hh.frame⟩
/-- The same, the answer told by a test. -/
def isTrue : Option (Value × AS) → Bool
  | some (.bool b, _) => b
  | _ => false
theorem closed_true {P : Program} {fb : FuncId → Option Func} (hk : Known P fb) (hm : P.follows .mixedOrders = true) {K k : Nat} {f : FuncId} {xs : List Value} (hx : xs.all plainV = true)
    (h : isTrue (acall P fb noExt K k (.func f) xs .empty) = true) (w : World) : Calls P f xs.toArray w (fun e w' => e = .returned (.bool true) ∧ Below w.heap.size w w') := by
  unfold isTrue at h
  split at h
  · rename_i b s' hq
    subst h
    exact closed hk hm hx rfl hq w
  · cases h
/-- All functions of a program, none of them the one that the model answers by itself. -/
theorem known_all {P : Program} (h : P.funcs.toList.all (fun fn => !(fn.name == "runtime.NumGoroutine")) = true) : Known P (fun f => P.funcs[f]?) := by
  intro f fn hf
  refine ⟨hf, ?_⟩
  have := List.all_eq_true.1 h fn (by rw [Array.mem_toList_iff]; exact Array.mem_of_getElem? hf)
  simpa using this
end Go.Proofs.YtchjiocljlbhkaaW.Mill
