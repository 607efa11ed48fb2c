/- What a law is handed reads as plain Lean data: from the form's own reading of a value (by its Go type) to what its cells say by a kind; whole numbers, bools, strings, slices and structs of these, nested as they like. -/
import Derived.Deep.Slices
import Derived.SizedLaws
import Derived.ChangeArms
import Derived.Test.YtnmpmjbkelogaaaRows
import Derived.Test.YtnmpmjbkelogaaaVWords
namespace Go.Proofs.Ytnmpmjbkelogaaa.Opens
open Go.Proofs.YtnmpmjbkelogaaaW.PrintWords
set_option linter.unusedVariables false
def Op (P : Program) (t : TypeId) {α : Type} (d : Kd α) (G : α → Prop) (mu : α → Nat) : Prop :=
 ∀ (H : Type) (enc : TypeId × Value → H) (W : World) (fuel : Nat) (cs : List Value) (x : DataW H × List MemPlace),
  DataW.trod enc P W 0 (fun _ => true) true fuel t cs = some x → (∀ n ∈ x.1.weights P t, n ≤ reachBytes) →
  ∃ a : α, d.K W a cs ∧ G a ∧ mu a ≤ Rows.uptoBulk x.1
def Fs (P : Program) (fs : List Field) (off : Nat) {α : Type} (d : Kd α) (G : α → Prop) (mu : α → Nat) : Prop :=
 ∀ (H : Type) (enc : TypeId × Value → H) (W : World) (n : Nat) (cs : List Value) (xs : List (DataW H × List MemPlace)),
  xs.length = fs.length → (∀ (i : Nat) (f : Field), fs[i]? = some f → DataW.trod enc P W 0 (fun _ => true) true n f.type ((cs.drop f.offset).take (P.cellsOf f.type)) = xs[i]?) →
  cs.length = off + d.sz → (∀ m ∈ DataW.weightsEach P (fs.map (·.type)) (xs.map (·.1)), m ≤ reachBytes) →
  ∃ a : α, d.K W a (cs.drop off) ∧ G a ∧ mu a ≤ Rows.uptoBulkAll (xs.map (·.1))
theorem op_int {P : Program} {t : TypeId} {k : IntKind} (hu : P.underlying t = some (.int k)) : Op P t (Kd.int k) (fun x => (Lit.int k x).wf = true) (fun _ => 1) := by
 intro H enc W fuel cs x h _
 obtain ⟨n, rfl, rfl, hw⟩ := DataW.trod_int hu h
 exact ⟨n, rfl, hw, by simp [Rows.uptoBulk]⟩
theorem op_bool {P : Program} {t : TypeId} (hu : P.underlying t = some .bool) : Op P t Kd.bool (fun _ => True) (fun _ => 1) := by
 intro H enc W fuel cs x h _
 obtain ⟨n, rfl, rfl⟩ := DataW.trod_bool hu h
 exact ⟨n, rfl, trivial, by simp [Rows.uptoBulk]⟩
theorem mem_weightsAll {H : Type} {P : Program} {e : TypeId} : ∀ {l : List (DataW H)} {d : DataW H}, d ∈ l → ∀ n ∈ d.weights P e, n ∈ DataW.weightsAll P e l
 | [], _, h, _, _ => by cases h
 | y :: r, d, h, n, hn => by
  simp only [DataW.weightsAll, List.mem_append]
  rcases List.mem_cons.1 h with rfl | h
  ·exact .inl hn
  ·exact .inr (mem_weightsAll h n hn)
theorem bulk_sum {H : Type} {α : Type} (mu : α → Nat) : ∀ (l : List (DataW H)) (xs : List α), xs.length = l.length → (∀ (i : Nat) (a : α) (d : DataW H), xs[i]? = some a → l[i]? = some d → mu a ≤ Rows.uptoBulk d) → (xs.map mu).sum ≤ Rows.uptoBulkAll l
 | [], [], _, _ => by simp
 | [], _ :: _, h, _ => by simp at h
 | _ :: _, [], h, _ => by simp at h
 | d :: l, x :: xs, h, hx => by
  have h0 := hx 0 x d rfl rfl
  have h1 := bulk_sum mu l xs (by simpa using h) (fun i a d' ha hd => hx (i + 1) a d' (by simpa using ha) (by simpa using hd))
  simp only [List.map_cons, List.sum_cons, Rows.uptoBulkAll]
  omega
theorem op_slice {P : Program} {t e : TypeId} {α : Type} {d : Kd α} {G : α → Prop} {mu : α → Nat} {B : Nat} (z : α) (hu : P.underlying t = some (.slice e)) (hc : P.cellsOf e = d.sz) (hb : P.bytesOf e = B) (ho : Op P e d G mu) :
  Op P t (Kd.slice e d) (fun xs => xs.length * B ≤ 140737488351232 ∧ ∀ x ∈ xs, G x) (fun xs => (xs.map mu).sum + 1) := by
 intro H enc W fuel cs x h hw
 rcases Deep.open_slice hu h with ⟨rfl, rfl⟩ | ⟨a, len, cap, m, n, D, Pl, rfl, hbase, hl, hm, hmm, rfl, hx⟩
 ·exact ⟨[], ⟨none, 0, rfl, Nat.zero_le _, rfl, Nat.zero_le _, fun h => absurd h (Nat.lt_irrefl _)⟩, ⟨by simp, fun x hx => by cases hx⟩, by simp [Rows.uptoBulk]⟩
 ·have hlm : len ≤ m := by rw [hmm]; split <;> omega
  have hel : ∀ i, i < len → ∃ y : α × List Value, W.cells? 0 (a.add (i * P.cellsOf e)) (P.cellsOf e) = some y.2 ∧ d.K W y.1 y.2 ∧ G y.1 ∧ mu y.1 ≤ Rows.uptoBulk (D i) := by
   intro i hi
   obtain ⟨cs', h1, h2⟩ := hx i (by omega)
   have hmem : D i ∈ (List.range len).map D := List.mem_map.2 ⟨i, List.mem_range.2 hi, rfl⟩
   obtain ⟨b, hK, hG, hmu⟩ := ho _ _ _ _ _ _ h2 (fun q hq => hw q (by
    simp only [DataW.weights, hu, List.mem_cons, List.mem_append]
    exact .inr (.inl (mem_weightsAll hmem q hq))))
   exact ⟨(b, cs'), h1, hK, hG, hmu⟩
  haveI : Inhabited α := ⟨z⟩
  obtain ⟨f, hf⟩ := Deep.choose_lt hel
  refine ⟨(List.range len).map fun i => (f i).1, ⟨some a, cap, by simp, by simpa using hl, by simp, ?_, ?_⟩, ⟨?_, ?_⟩, ?_⟩
  ·simp only [List.length_map, List.length_range]
   simp only [maxLen] at hm
   omega
  ·intro _
   refine ⟨a, rfl, fun j p hj => ?_⟩
   have hjl : j < len := by
    have := (List.getElem?_eq_some_iff.1 hj).1
    simpa using this
   have hp : (f j).1 = p := by
    have : ((List.range len).map fun i => (f i).1)[j]? = some ((f j).1) := by simp [hjl]
    rw [this] at hj
    exact Option.some.inj hj
   subst hp
   obtain ⟨h1, hK, _, _⟩ := hf j hjl
   have hs := World.cells?_some h1
   refine ⟨(f j).2, d.K_len hK, hK, fun i u hu' => ?_⟩
   rw [hc] at h1 hs
   obtain ⟨_, hlen, hcell⟩ := hs
   have hi' : i < d.sz := by
    have := (List.getElem?_eq_some_iff.1 hu').1
    omega
   have := (hcell i hi').trans hu'
   rw [Deep.add_add] at this
   exact this
  ·have := hw _ (by simp only [DataW.weights, hu, List.mem_cons]; exact .inl rfl)
   simp only [List.length_map, List.length_range, hb, reachBytes] at this ⊢
   exact Nat.le_trans (Nat.mul_le_mul_right _ (Nat.le_add_right _ _)) this
  ·intro x hx'
   obtain ⟨i, hi, rfl⟩ := List.mem_map.1 hx'
   exact (hf i (List.mem_range.1 hi)).2.2.1
  ·have := bulk_sum mu ((List.range len).map D) ((List.range len).map fun i => (f i).1) (by simp) (fun i b d' hb' hd' => by
    have hil : i < len := by
     have := (List.getElem?_eq_some_iff.1 hb').1
     simpa using this
    simp [hil] at hb' hd'
    subst hb' hd'
    exact (hf i hil).2.2.2)
   simp only [Rows.uptoBulk]
   omega
theorem fs_one {P : Program} {f : Field} {off : Nat} {α : Type} {d : Kd α} {G : α → Prop} {mu : α → Nat} (ho : f.offset = off) (hc : P.cellsOf f.type = d.sz) (h : Op P f.type d G mu) : Fs P [f] off d G mu := by
 intro H enc W n cs xs hl hx hcs hw
 match xs, hl with
 | [x], _ =>
  have h0 := hx 0 f rfl
  simp only [List.getElem?_cons_zero] at h0
  obtain ⟨a, hK, hG, hmu⟩ := h _ _ _ _ _ _ h0 (fun m hm => hw m (by simp only [List.map_cons, List.map_nil, DataW.weightsEach, List.mem_append]; exact .inl hm))
  rw [ho, hc, List.take_of_length_le (by rw [List.length_drop]; omega)] at hK
  exact ⟨a, hK, hG, by simp only [List.map_cons, List.map_nil, Rows.uptoBulkAll]; omega⟩
theorem fs_cons {P : Program} {f : Field} {rest : List Field} {off : Nat} {α β : Type} {a : Kd α} {b : Kd β} {Ga : α → Prop} {Gb : β → Prop} {mua : α → Nat} {mub : β → Nat} (ho : f.offset = off) (hc : P.cellsOf f.type = a.sz)
  (h : Op P f.type a Ga mua) (hr : Fs P rest (off + a.sz) b Gb mub) : Fs P (f :: rest) off (Kd.pair a b) (fun x => Ga x.1 ∧ Gb x.2) (fun x => mua x.1 + mub x.2) := by
 intro H enc W n cs xs hl hx hcs hw
 match xs, hl with
 | x :: xs, hl =>
  have h0 := hx 0 f rfl
  simp only [List.getElem?_cons_zero] at h0
  obtain ⟨p, hK, hG, hmu⟩ := h _ _ _ _ _ _ h0 (fun m hm => hw m (by simp only [List.map_cons, DataW.weightsEach, List.mem_append]; exact .inl hm))
  have hcs' : cs.length = off + (a.sz + b.sz) := hcs
  obtain ⟨q, hK2, hG2, hmu2⟩ := hr H enc W n cs xs (by simpa using hl) (fun i g hg => by simpa using hx (i + 1) g (by simpa using hg)) (by omega)
   (fun m hm => hw m (by simp only [List.map_cons, DataW.weightsEach, List.mem_append]; exact .inr hm))
  rw [ho, hc] at hK
  refine ⟨(p, q), ⟨(cs.drop off).take a.sz, cs.drop (off + a.sz), ?_, hK, hK2⟩, ⟨hG, hG2⟩, ?_⟩
  ·rw [← List.drop_drop, List.take_append_drop]
  ·simp only [List.map_cons, Rows.uptoBulkAll]; omega
theorem op_struct {P : Program} {t : TypeId} {fs : Array Field} {α : Type} {d : Kd α} {G : α → Prop} {mu : α → Nat} (hu : P.underlying t = some (.struct fs)) (hc : P.cellsOf t = d.sz) (h : Fs P fs.toList 0 d G mu) : Op P t d G (fun a => mu a + 1) := by
 intro H enc W fuel cs x hx hw
 obtain ⟨xs, n, rfl, rfl, hl, hlen, hget⟩ := DataW.trod_struct hu hx
 obtain ⟨a, hK, hG, hmu⟩ := h H enc W n cs xs (by simpa using hlen) (fun i f hf => hget i f (by simpa using hf)) (by omega)
  (fun m hm => hw m (by simp only [DataW.weights, hu]; exact hm))
 exact ⟨a, by simpa using hK, hG, by simp only [Rows.uptoBulk]; omega⟩
theorem op_iso {P : Program} {t : TypeId} {α β : Type} {d : Kd α} {G : α → Prop} {mu : α → Nat} (f : β → α) (g : α → β) (hg : ∀ a, f (g a) = a) (h : Op P t d G mu) : Op P t (Kd.iso d f) (fun b => G (f b)) (fun b => mu (f b)) := by
 intro H enc W fuel cs x hx hw
 obtain ⟨a, hK, hG, hmu⟩ := h _ _ _ _ _ _ hx hw
 refine ⟨g a, ?_, ?_, ?_⟩
 ·show d.K W (f (g a)) cs
  rw [hg]; exact hK
 ·show G (f (g a))
  rw [hg]; exact hG
 ·show mu (f (g a)) ≤ _
  rw [hg]; exact hmu
theorem weights_of {H : Type} {P : Program} {ts : List TypeId} {ds : List (DataW H)} (h : (DataW.weightsEach P ts ds).all (· ≤ reachBytes) = true) {j : Nat} {t : TypeId} {d : DataW H} (ht : ts[j]? = some t) (hd : ds[j]? = some d) : ∀ n ∈ d.weights P t, n ≤ reachBytes := by
 intro n hn
 have := List.all_eq_true.1 h n (DataW.weights_mem_each ht hd n hn)
 simpa using this
theorem arr_eq {cs : Array Value} {l : List Value} (h : (Value.agg cs).cells.toList = l) : cs = l.toArray := by
 subst h; rfl
end Go.Proofs.Ytnmpmjbkelogaaa.Opens
