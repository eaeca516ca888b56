/- Words for memory that every contract of this seat uses: blocks known whole, what a call may change, slices that read as lists. Plain definitions and lemmas, no program in sight. -/
import Derived.WalkKit
import Derived.Handy
import Derived.Deep.Draws
namespace Go.Proofs.Ytognedbehplaeaa
open Go.RowKit

/-- A fact kept from the walk. -/
theorem hid {p : Prop} (h : p) : Hid p := h

/-- The blocks of F aside, a call leaves every block that was there as it was. -/
structure Kept (F : Nat → Prop) (w w' : World) : Prop where
  os : w'.os = w.os
  tape : w'.tape = w.tape
  output : w'.output = w.output
  size : w.heap.size ≤ w'.heap.size
  block : ∀ k, k < w.heap.size → ¬ F k → w'.heap[k]? = w.heap[k]?

/-- Nothing at all. -/
def No : Nat → Prop := fun _ => False
/-- Two sets together. -/
def Or2 (F G : Nat → Prop) : Nat → Prop := fun b => F b ∨ G b

section
variable {F G : Nat → Prop} {w w' w1 w2 : World}
theorem Kept.refl (F : Nat → Prop) (w : World) : Kept F w w := ⟨rfl, rfl, rfl, Nat.le_refl _, fun _ _ _ => rfl⟩
theorem Kept.trans (h : Kept F w w1) (k : Kept F w1 w2) : Kept F w w2 :=
  ⟨k.os.trans h.os, k.tape.trans h.tape, k.output.trans h.output, Nat.le_trans h.size k.size, fun i hi hf => (k.block i (by have := h.size; omega) hf).trans (h.block i hi hf)⟩
/-- The second call may change more: blocks that the first one made. -/
theorem Kept.then_ (h : Kept F w w1) (k : Kept G w1 w2) (hG : ∀ b, G b → F b ∨ w.heap.size ≤ b) : Kept F w w2 :=
  ⟨k.os.trans h.os, k.tape.trans h.tape, k.output.trans h.output, Nat.le_trans h.size k.size, fun i hi hf => (k.block i (by have := h.size; omega) (fun hg => by rcases hG i hg with h | h; exact hf h; omega)).trans (h.block i hi hf)⟩
theorem Kept.mono (h : Kept F w w') (hF : ∀ b, F b → b < w.heap.size → G b) : Kept G w w' :=
  ⟨h.os, h.tape, h.output, h.size, fun k hk hg => h.block k hk (fun hf => hg (hF k hf hk))⟩
theorem Kept.of_no (h : Kept No w w') (F : Nat → Prop) : Kept F w w' := h.mono (fun _ h _ => h.elim)
theorem Kept.below (h : Kept No w w') : Below w.heap.size w w' := ⟨h.os, h.tape, h.output, h.size, fun k hk => h.block k hk (fun h => h)⟩
theorem Kept.of_below (h : Below w.heap.size w w') (F : Nat → Prop) : Kept F w w' := ⟨h.os, h.tape, h.output, h.size, fun k hk _ => h.block k hk⟩
theorem Kept.drew (h : Kept F w w') : Kept F w w'.drew := ⟨h.os, h.tape, h.output, h.size, h.block⟩
theorem Kept.drewN (h : Kept F w w') (n : Nat) : Kept F w (w'.drewN n) := ⟨h.os, h.tape, h.output, h.size, h.block⟩
theorem Kept.alloc (h : Kept F w w') (o : Obj) : Kept F w (w'.alloc o) :=
  ⟨h.os, h.tape, h.output, Nat.le_trans h.size (by simp), fun k hk hf => (Below.heap_alloc w' o k (by have := h.size; omega)).trans (h.block k hk hf)⟩
theorem Kept.set (h : Kept F w w') {p : Addr} (hp : F p.block ∨ w.heap.size ≤ p.block) (v : Value) : Kept F w (w'.setCell p v) :=
  ⟨h.os, h.tape, h.output, by simpa [World.setCell] using h.size, fun k hk hf => (Below.heap_setCell w' p v k (by rintro rfl; rcases hp with h | h; exact hf h; omega)).trans (h.block k hk hf)⟩
theorem Kept.grown (h : Kept F w w') {row : Option Nat} (hg : w'.grownBy w1 row) (hr : ∀ k, row = some k → F k ∨ w.heap.size ≤ k) : Kept F w w1 :=
  ⟨hg.os.trans h.os, hg.tape.trans h.tape, hg.output.trans h.output, Nat.le_trans h.size hg.size, fun k hk hf => (hg.block k (by have := h.size; omega) (fun e => by rcases hr k e.symm with h | h; exact hf h; omega)).trans (h.block k hk hf)⟩
end
/-- The cells of a block that is known whole. -/
theorem cells_of {w : World} {g : Nat} {t : TypeId} {cs : Array Value} (h : w.heap[g]? = some (.cells cs t (0, 0))) (i : Nat) : w.cell? ⟨g, i, none⟩ = cs[i]? := cell_of_row w g i cs t (0, 0) h
theorem frozen_of {w : World} {g : Nat} {t : TypeId} {cs : Array Value} (h : w.heap[g]? = some (.cells cs t (0, 0))) (i : Nat) : w.frozen? ⟨g, i, none⟩ = false := by simp [World.frozen?, h]
theorem lt_of {w : World} {g : Nat} {o : Obj} (h : w.heap[g]? = some o) : g < w.heap.size := (Array.getElem?_eq_some_iff.1 h).1
theorem at_alloc {w : World} {g : Nat} {o : Obj} (h : w.heap[g]? = some o) (x : Obj) : (w.alloc x).heap[g]? = some o := (Below.heap_alloc w x g (lt_of h)).trans h
theorem at_new (w : World) (x : Obj) : (w.alloc x).heap[w.heap.size]? = some x := heap_alloc_new w x
theorem at_set {w : World} {g : Nat} {t : TypeId} {cs : Array Value} (h : w.heap[g]? = some (.cells cs t (0, 0))) (i : Nat) (u : Value) : (w.setCell ⟨g, i, none⟩ u).heap[g]? = some (.cells (cs.setIfInBounds i u) t (0, 0)) := by
  simp [World.setCell, Array.getElem?_modify, h]
theorem at_far {w : World} {g : Nat} {o : Obj} (h : w.heap[g]? = some o) {p : Addr} (hp : g ≠ p.block) (u : Value) : (w.setCell p u).heap[g]? = some o := (Below.heap_setCell w p u g hp).trans h
theorem at_kept {F : Nat → Prop} {w w' : World} {g : Nat} {o : Obj} (h : w.heap[g]? = some o) (hk : Kept F w w') (hf : ¬ F g) : w'.heap[g]? = some o := (hk.block g (lt_of h) hf).trans h
theorem ne_of {w : World} {g g' : Nat} {t t' : TypeId} {cs cs' : Array Value} {f f' : Nat × Nat} (h : w.heap[g]? = some (.cells cs t f)) (h' : w.heap[g']? = some (.cells cs' t' f')) (hne : t ≠ t') : g ≠ g' := by
  rintro rfl
  rw [h] at h'
  injection h' with h'
  injection h' with _ ht
  exact hne ht
theorem ne_map {w : World} {g g' : Nat} {t : TypeId} {cs : Array Value} {f : Nat × Nat} {es : Array MapEntry} {clock : Nat} (h : w.heap[g]? = some (.cells cs t f)) (h' : w.heap[g']? = some (.map es clock)) : g ≠ g' := by
  rintro rfl
  rw [h] at h'
  injection h' with h'
  cases h'

/-- A call that changes the blocks of F alone; what is new may belong to F' from then on. -/
structure Change (F F' : Nat → Prop) (w w' : World) : Prop where
  kept : Kept F w w'
  up : ∀ b, F b → F' b
  new : ∀ b, F' b → F b ∨ w.heap.size ≤ b
theorem Change.refl (F : Nat → Prop) (w : World) : Change F F w w := ⟨Kept.refl _ _, fun _ h => h, fun _ h => .inl h⟩
theorem Change.trans {F F' F'' : Nat → Prop} {w w1 w2 : World} (h : Change F F' w w1) (k : Change F' F'' w1 w2) : Change F F'' w w2 :=
  ⟨h.kept.then_ k.kept h.new, fun b hb => k.up b (h.up b hb), fun b hb => by
    rcases k.new b hb with h1 | h1
    · exact h.new b h1
    · exact .inr (Nat.le_trans h.kept.size h1)⟩
theorem Change.then_no {F F' : Nat → Prop} {w w1 w2 : World} (h : Change F F' w w1) (k : Kept No w1 w2) : Change F F' w w2 := ⟨h.kept.trans (k.of_no F), h.up, h.new⟩
theorem Change.no_then {F F' : Nat → Prop} {w w1 w2 : World} (k : Kept No w w1) (h : Change F F' w1 w2) : Change F F' w w2 :=
  ⟨(k.of_no F).trans h.kept, h.up, fun b hb => (h.new b hb).imp id (fun h1 => Nat.le_trans k.size h1)⟩

/-- A slice's cells, in a block that is none of N. -/
def Sl (w : World) (N : Nat → Prop) (A : Option Addr) (cs : List Value) : Prop :=
  cs = [] ∨ ∃ b o, A = some ⟨b, o, none⟩ ∧ ¬ N b ∧ b < w.heap.size ∧ ∀ (j : Nat) (u : Value), cs[j]? = some u → w.cell? ⟨b, o + j, none⟩ = some u
section
variable {w w' : World} {N F F' : Nat → Prop} {A : Option Addr} {cs : List Value}
theorem Sl.nil (w : World) (N : Nat → Prop) (A : Option Addr) : Sl w N A [] := .inl rfl
theorem Sl.kept (h : Sl w N A cs) (k : Kept F w w') (hF : ∀ b, F b → N b) : Sl w' N A cs := by
  rcases h with h | ⟨b, o, h1, h2, h3, h4⟩
  · exact .inl h
  · exact .inr ⟨b, o, h1, h2, Nat.lt_of_lt_of_le h3 k.size, fun j u hu => (World.cell?_of_block (w := w) (a := ⟨b, o + j, none⟩) (k.block b h3 (fun hf => h2 (hF b hf)))).trans (h4 j u hu)⟩
theorem Sl.no (h : Sl w N A cs) (k : Kept No w w') : Sl w' N A cs := h.kept k (fun _ h => h.elim)
theorem Sl.less (h : Sl w N A cs) (hF : ∀ b, F b → b < w.heap.size → N b) : Sl w F A cs := by
  rcases h with h | ⟨b, o, h1, h2, h3, h4⟩
  · exact .inl h
  · exact .inr ⟨b, o, h1, fun hf => h2 (hF b hf h3), h3, h4⟩
/-- Behind a call that may change F: the slice keeps away from what is F then. -/
theorem Sl.change (h : Sl w F A cs) (k : Change F F' w w') : Sl w' F' A cs := by
  rcases h with h | ⟨b, o, h1, h2, h3, h4⟩
  · exact .inl h
  · exact .inr ⟨b, o, h1, fun hf => by rcases k.new b hf with h | h; exact h2 h; omega, Nat.lt_of_lt_of_le h3 k.kept.size, fun j u hu => (World.cell?_of_block (w := w) (a := ⟨b, o + j, none⟩) (k.kept.block b h3 h2)).trans (h4 j u hu)⟩
/-- The cell number j. -/
theorem Sl.at_ (h : Sl w N A cs) {j : Nat} {u : Value} (hu : cs[j]? = some u) : ∃ b o, A = some ⟨b, o, none⟩ ∧ ¬ N b ∧ b < w.heap.size ∧ w.cell? ⟨b, o + j, none⟩ = some u := by
  rcases h with h | ⟨b, o, h1, h2, h3, h4⟩
  · rw [h] at hu; simp at hu
  · exact ⟨b, o, h1, h2, h3, h4 j u hu⟩
end
/-- Bytes as cells. -/
def by8 (l : List Int) : List Value := l.map (Value.int .u8)
theorem by8_at {l : List Int} {j : Nat} (h : j < l.length) : (by8 l)[j]? = some (.int .u8 (l.getD j 0)) := by simp [by8, List.getD, List.getElem?_eq_getElem h]
theorem by8_length (l : List Int) : (by8 l).length = l.length := by simp [by8]
/-- All are bytes. -/
def Byt (l : List Int) : Prop := ∀ x ∈ l, 0 ≤ x ∧ x ≤ 255
theorem Byt.at_ {l : List Int} (h : Byt l) (j : Nat) : 0 ≤ l.getD j 0 ∧ l.getD j 0 ≤ 255 := by
  rw [List.getD]
  cases hj : l[j]? with
  | none => simp
  | some x => exact h x (List.mem_of_getElem? hj)

/-- A call that comes to one value and one world. -/
theorem calls_to {P : Program} {f : FuncId} {args : Array Value} {w W : World} {v : Value} {R : Ending → World → Prop} (h : Calls P f args w fun e w' => e = .returned v ∧ w' = W) (hR : R (.returned v) W) : Calls P f args w R :=
  h.mono fun _ _ ⟨h1, h2⟩ => by rw [h1, h2]; exact hR
/-- A block that is known whole, as a slice from its first cell on. -/
theorem Sl.of_block {w : World} {b : Nat} {cs : List Value} {t : TypeId} {N : Nat → Prop} (h : w.heap[b]? = some (.cells cs.toArray t (0, 0))) (hN : ¬ N b) : Sl w N (some ⟨b, 0, none⟩) cs :=
  .inr ⟨b, 0, rfl, hN, lt_of h, fun j u hu => by rw [Nat.zero_add, cells_of h, List.getElem?_toArray]; exact hu⟩
/-- A row of the call's own in a world in which its block is as it was. -/
theorem own_keep {w w' : World} {base : Nat} {e : TypeId} {size n : Nat} {v : Value} {xs : List Value} (h : w.ownsRow base e size v n xs) (hk : ∀ k, v.ownBlock = some k → w'.heap[k]? = w.heap[k]?) : w'.ownsRow base e size v n xs := by
  refine ⟨h.1, h.2.imp id ?_⟩
  rintro ⟨g, cap, cur, rfl, e2, hh, e3⟩
  exact ⟨g, cap, cur, rfl, e2, (hk g rfl).trans hh, e3⟩
theorem own_mono {w : World} {base base' : Nat} {e : TypeId} {size n : Nat} {v : Value} {xs : List Value} (h : w.ownsRow base e size v n xs) (hb : base' ≤ base) : w.ownsRow base' e size v n xs :=
  ⟨h.1, h.2.imp id (fun ⟨g, cap, cur, h1, h2, h3⟩ => ⟨g, cap, cur, h1, Nat.le_trans hb h2, h3⟩)⟩
theorem own_lt {w : World} {base : Nat} {e : TypeId} {size n : Nat} {v : Value} {xs : List Value} (h : w.ownsRow base e size v n xs) {k : Nat} (hk : v.ownBlock = some k) : base ≤ k ∧ ∃ cur, w.heap[k]? = some (.cells cur e (0, 0)) := by
  rcases h.2 with ⟨rfl, _⟩ | ⟨g, cap, cur, rfl, hb, hh, _⟩
  · simp [Value.ownBlock] at hk
  · have : g = k := by simpa [Value.ownBlock] using hk
    subst this
    exact ⟨hb, cur, hh⟩
theorem own_ne {w : World} {base g : Nat} {e t : TypeId} {size n : Nat} {v : Value} {xs : List Value} {cs : Array Value} {f : Nat × Nat} (h : w.ownsRow base e size v n xs) (hg : w.heap[g]? = some (.cells cs t f)) (hne : e ≠ t) : v.ownBlock ≠ some g := fun he => by
  obtain ⟨_, cur, hh⟩ := own_lt h he
  exact ne_of hh hg hne rfl
theorem own_sl {w : World} {base : Nat} {e : TypeId} {size n : Nat} {A : Option Addr} {c : Nat} {xs : List Value} {N : Nat → Prop} (h : w.ownsRow base e size (.slice A n c) n xs) (hN : ∀ b, base ≤ b → ¬ N b) : Sl w N A xs := by
  rcases h.2 with ⟨e1, e2⟩ | ⟨g, cap, cur, e1, hb, hh, hn, hm, hs, rfl⟩
  · have h1 := h.1
    rw [e2] at h1
    exact .inl (List.eq_nil_of_length_eq_zero (by simpa using h1))
  · obtain ⟨rfl, _, _⟩ : A = some ⟨g, 0, none⟩ ∧ n = n ∧ c = cap := by simpa using e1
    refine .inr ⟨g, 0, rfl, hN g hb, lt_of hh, fun j u hu => ?_⟩
    rw [Nat.zero_add, cells_of hh]
    rw [List.getElem?_take] at hu
    split at hu
    · rw [← Array.getElem?_toList]; exact hu
    · cases hu
end Go.Proofs.Ytognedbehplaeaa
