/- A map from 64-bit words to pages of bytes: what a look-up and a store come to. Plain words of the model's heap. -/
import Derived.Test.YtognedbehplaeaaBase
import Derived.Maps.Keyed
import Derived.Maps.RangeRun
namespace Go.Proofs.Ytognedbehplaeaa
open Go.RowKit

/-- The value that a key has among some entries, the first one counting. -/
def entryOf : List MapEntry → Int → Option Value
  | [], _ => none
  | e :: es, x => match e.key with
    | .int .u64 k => if x = k then some e.val else entryOf es x
    | _ => entryOf es x

/-- All keys are 64-bit words. -/
def WordKeys (es : List MapEntry) : Prop := ∀ e ∈ es, ∃ k, e.key = .int .u64 k

/-- The place of a key. -/
def placeOf : List MapEntry → Int → Nat → Option (Nat × Value)
  | [], _, _ => none
  | e :: es, x, i => match e.key with
    | .int .u64 k => if x = k then some (i, e.val) else placeOf es x (i + 1)
    | _ => placeOf es x (i + 1)

theorem findNow_word (x : Int) : ∀ (es : List MapEntry) (i : Nat), WordKeys es → Instr.findNow (.int .u64) (.int .u64 x) es i = some (placeOf es x i)
  | [], i, _ => rfl
  | e :: es, i, h => by
    obtain ⟨k, hk⟩ := h e (by simp)
    have ih := findNow_word x es (i + 1) (fun e he => h e (by simp [he]))
    by_cases hx : x = k
    · simp [Instr.findNow, Instr.sameNow, placeOf, hk, hx]
    · have hb : (x == k) = false := by simpa using hx
      simp [Instr.findNow, Instr.sameNow, placeOf, hk, hx, ih, hb]

theorem placeOf_entryOf (x : Int) : ∀ (es : List MapEntry) (i : Nat), (placeOf es x i).map (·.2) = entryOf es x
  | [], _ => rfl
  | e :: es, i => by
    have ih := placeOf_entryOf x es (i + 1)
    unfold placeOf entryOf
    split
    · split <;> simp [ih]
    · exact ih

theorem placeOf_none {x : Int} {es : List MapEntry} {i : Nat} (h : entryOf es x = none) : placeOf es x i = none := by
  have := placeOf_entryOf x es i
  rw [h] at this
  simpa using this
theorem placeOf_some {x : Int} {es : List MapEntry} {i : Nat} {v : Value} (h : entryOf es x = some v) : ∃ j, placeOf es x i = some (j, v) := by
  have := placeOf_entryOf x es i
  rw [h] at this
  cases hp : placeOf es x i with
  | none => rw [hp] at this; simp at this
  | some p => rw [hp] at this; obtain ⟨j, u⟩ := p; simp at this; exact ⟨j, by rw [this]⟩

theorem entryOf_mem {x : Int} {v : Value} : ∀ {es : List MapEntry}, entryOf es x = some v → ∃ e ∈ es, e.key = .int .u64 x ∧ e.val = v
  | [], h => by simp [entryOf] at h
  | e :: es, h => by
    unfold entryOf at h
    split at h
    · rename_i k hk
      split at h
      · rename_i hx
        exact ⟨e, by simp, by rw [hk, hx], by simpa using h⟩
      · obtain ⟨e', h1, h2⟩ := entryOf_mem h
        exact ⟨e', by simp [h1], h2⟩
    · obtain ⟨e', h1, h2⟩ := entryOf_mem h
      exact ⟨e', by simp [h1], h2⟩
theorem entryOf_none {x : Int} : ∀ {es : List MapEntry}, entryOf es x = none → ∀ e ∈ es, e.key ≠ .int .u64 x
  | [], _ => by simp
  | e :: es, h => by
    intro e' he'
    unfold entryOf at h
    rcases List.mem_cons.1 he' with rfl | he'
    · intro hk
      rw [hk] at h
      simp at h
    · split at h
      · split at h
        · simp at h
        · exact entryOf_none h e' he'
      · exact entryOf_none h e' he'
theorem entryOf_append_none {x : Int} (es fs : List MapEntry) (h : entryOf es x = none) : entryOf (es ++ fs) x = entryOf fs x := by
  induction es with
  | nil => rfl
  | cons e es ih =>
    unfold entryOf at h
    rw [List.cons_append]
    conv => lhs; unfold entryOf
    split at h
    · split at h
      · simp at h
      · rename_i hx; rw [if_neg hx]; exact ih h
    · exact ih h
theorem entryOf_append_some {x : Int} {v : Value} (es fs : List MapEntry) (h : entryOf es x = some v) : entryOf (es ++ fs) x = some v := by
  induction es with
  | nil => simp [entryOf] at h
  | cons e es ih =>
    unfold entryOf at h
    rw [List.cons_append]
    unfold entryOf
    split at h
    · split at h
      · rename_i hx; rw [if_pos hx]; exact h
      · rename_i hx; rw [if_neg hx]; exact ih h
    · exact ih h

section
variable {P : Program} {w : World} {t kt et r : Nat} {es : Array MapEntry} {clock : Nat}
theorem checkKey_word (hk : P.underlying kt = some (.int .u64)) (b : Bool) (x : Int) (w : World) : (Instr.checkKey b 10000 kt (.int .u64 x)).run P w = .ok () w := by
  have e : (10000 : Nat) = 9999 + 1 := rfl
  rw [e]
  generalize 9999 = n
  simp [Instr.checkKey, run_underlying hk, Result.andThen]

theorem run_look_word (ht : P.underlying t = some (.map kt et)) (hk : P.underlying kt = some (.int .u64)) (hz : ∀ w, (zeroValue et).run P w = .ok (.pointer none) w)
    (hm : w.heap[r]? = some (.map es clock)) (hw : WordKeys es.toList) (x : Int) :
    (Instr.lookup t (.map (some r)) (.int .u64 x) true).run P w = .ok (.tuple #[(entryOf es.toList x).getD (.pointer none), .bool (entryOf es.toList x).isSome]) w := by
  cases h : entryOf es.toList x with
  | none => simp [Instr.lookup, run_underlying ht, MapKept.run_getObj_map hm, checkKey_word hk, Instr.findKey, run_underlying hk, findNow_word x es.toList 0 hw, placeOf_none h, hz, Result.andThen]
  | some v =>
    obtain ⟨j, hj⟩ := placeOf_some (i := 0) h
    simp [Instr.lookup, run_underlying ht, MapKept.run_getObj_map hm, checkKey_word hk, Instr.findKey, run_underlying hk, findNow_word x es.toList 0 hw, hj, Result.andThen]

/-- The world with another object in a block that was there. -/
def put (w : World) (r : Nat) (o : Obj) : World := { w with heap := w.heap.setIfInBounds r o }
theorem put_size (w : World) (r : Nat) (o : Obj) : (put w r o).heap.size = w.heap.size := by simp [put]
theorem put_same (w : World) (r : Nat) (o : Obj) (h : r < w.heap.size) : (put w r o).heap[r]? = some o := by simp [put, h]
theorem put_other (w : World) (r k : Nat) (o : Obj) (h : k ≠ r) : (put w r o).heap[k]? = w.heap[k]? := by
  simp only [put, Array.getElem?_setIfInBounds]
  rw [if_neg (fun e => h e.symm)]
theorem Kept.put {F : Nat → Prop} {w w' : World} (h : Kept F w w') {r : Nat} (hr : F r ∨ w.heap.size ≤ r) (o : Obj) : Kept F w (put w' r o) :=
  ⟨h.os, h.tape, h.output, by rw [put_size]; exact h.size, fun k hk hf => (put_other w' r k o (by rintro rfl; rcases hr with h | h; exact hf h; omega)).trans (h.block k hk hf)⟩

/-- A store under a key that is not there: one entry more, at the end. -/
theorem run_store_new (ht : P.underlying t = some (.map kt et)) (hk : P.underlying kt = some (.int .u64)) (hm : w.heap[r]? = some (.map es clock)) (hw : WordKeys es.toList) (x : Int) (v : Value) (hn : entryOf es.toList x = none) :
    (Instr.mapUpdate t (.map (some r)) (.int .u64 x) v).run P w = .ok () (put w r (.map (es.push ⟨.int .u64 x, v, clock⟩) (clock + 1))) := by
  simp [Instr.mapUpdate, run_underlying ht, MapKept.run_getObj_map hm, checkKey_word hk, Instr.findKey, run_underlying hk, findNow_word x es.toList 0 hw, placeOf_none hn, MapKept.run_setObj_map _ hm, Result.andThen, put]
end

/-! ### Pages behind a map -/

/-- Pages of n bytes in blocks of type T, behind a map in block r, all in F: together they hold g. -/
structure PagesAt (w : World) (F : Nat → Prop) (T n r : Nat) (g : Int → Int) (es : Array MapEntry) (clock : Nat) : Prop where
  map : w.heap[r]? = some (.map es clock)
  inF : F r
  entry : ∀ e ∈ es.toList, ∃ (k : Int) (b : Nat) (cs : Array Value), e.key = .int .u64 k ∧ 0 ≤ k ∧ k ≤ 18446744073709551615 ∧ e.val = .pointer (some ⟨b, 0, none⟩) ∧ F b ∧ e.born < clock ∧
    w.heap[b]? = some (.cells cs T (0, 0)) ∧ cs.size = n ∧ ∀ i : Nat, i < n → cs[i]? = some (.int .u8 (g (k * n + i)))
  apart : es.toList.Pairwise fun a b => a.key ≠ b.key ∧ a.val ≠ b.val ∧ a.born ≠ b.born
  rest : ∀ k : Int, 0 ≤ k → entryOf es.toList k = none → ∀ i : Nat, i < n → g (k * n + i) = 0

/-- Another byte at one place. -/
def upd (g : Int → Int) (a v : Int) : Int → Int := fun o => if o = a then v else g o
theorem upd_at (g : Int → Int) (a v : Int) : upd g a v a = v := by simp [upd]
theorem upd_ne (g : Int → Int) {a o : Int} (v : Int) (h : o ≠ a) : upd g a v o = g o := by simp [upd, h]
theorem upd_id (g : Int → Int) (a : Int) : upd g a (g a) = g := by
  funext o
  unfold upd
  split
  · rename_i h; rw [h]
  · rfl

theorem place_inj {n : Nat} {k k' : Int} {i j : Nat} (hi : i < n) (hj : j < n) (h : k * n + i = k' * n + j) : k = k' ∧ i = j := by
  have e1 : (k * n + i) / n = k := by
    rw [Int.add_comm, Int.add_mul_ediv_right _ _ (by omega), Int.ediv_eq_zero_of_lt (by omega) (by omega)]; simp
  have e2 : (k' * n + j) / n = k' := by
    rw [Int.add_comm, Int.add_mul_ediv_right _ _ (by omega), Int.ediv_eq_zero_of_lt (by omega) (by omega)]; simp
  have hk : k = k' := by rw [← e1, ← e2, h]
  exact ⟨hk, by subst hk; omega⟩

theorem pair_of {R : MapEntry → MapEntry → Prop} (hs : ∀ a b, R a b → R b a) : ∀ {l : List MapEntry}, l.Pairwise R → ∀ a ∈ l, ∀ b ∈ l, a ≠ b → R a b
  | [], _, a, ha, _, _, _ => by simp at ha
  | x :: l, h, a, ha, b, hb, hne => by
    rw [List.pairwise_cons] at h
    rcases List.mem_cons.1 ha with rfl | ha1 <;> rcases List.mem_cons.1 hb with rfl | hb1
    · exact absurd rfl hne
    · exact h.1 b hb1
    · exact hs _ _ (h.1 a ha1)
    · exact pair_of hs h.2 a ha1 b hb1 hne

section
variable {w w' : World} {F F' : Nat → Prop} {T n r clock : Nat} {g : Int → Int} {es : Array MapEntry}
theorem PagesAt.words (h : PagesAt w F T n r g es clock) : WordKeys es.toList := fun e he => by
  obtain ⟨k, _, _, hk, _⟩ := h.entry e he
  exact ⟨k, hk⟩
theorem PagesAt.two (h : PagesAt w F T n r g es clock) {a b : MapEntry} (ha : a ∈ es.toList) (hb : b ∈ es.toList) (hne : a ≠ b) : a.key ≠ b.key ∧ a.val ≠ b.val ∧ a.born ≠ b.born :=
  pair_of (fun _ _ h => ⟨h.1.symm, h.2.1.symm, h.2.2.symm⟩) h.apart a ha b hb hne
theorem PagesAt.found (h : PagesAt w F T n r g es clock) {x : Int} {v : Value} (hx : entryOf es.toList x = some v) :
    ∃ (b : Nat) (cs : Array Value), v = .pointer (some ⟨b, 0, none⟩) ∧ F b ∧ w.heap[b]? = some (.cells cs T (0, 0)) ∧ cs.size = n ∧ ∀ i : Nat, i < n → cs[i]? = some (.int .u8 (g (x * n + i))) := by
  obtain ⟨e, he, hk, hv⟩ := entryOf_mem hx
  obtain ⟨k, b, cs, hk', _, _, hv', hF, _, hb, hs, hc⟩ := h.entry e he
  rw [hk] at hk'
  obtain rfl : x = k := by injection hk'
  exact ⟨b, cs, by rw [← hv, hv'], hF, hb, hs, hc⟩
/-- What leaves the blocks of F alone leaves the pages. -/
theorem PagesAt.stay (h : PagesAt w F T n r g es clock) (hk : ∀ b, F b → w'.heap[b]? = w.heap[b]?) : PagesAt w' F T n r g es clock where
  map := (hk r h.inF).trans h.map
  inF := h.inF
  entry := fun e he => by
    obtain ⟨k, b, cs, h1, h2, h3, h4, h5, h6, h7, h8⟩ := h.entry e he
    exact ⟨k, b, cs, h1, h2, h3, h4, h5, h6, (hk b h5).trans h7, h8⟩
  apart := h.apart
  rest := h.rest
theorem PagesAt.more (h : PagesAt w F T n r g es clock) (hF : ∀ b, F b → F' b) : PagesAt w F' T n r g es clock where
  map := h.map
  inF := hF _ h.inF
  entry := fun e he => by
    obtain ⟨k, b, cs, h1, h2, h3, h4, h5, h6, h7, h8⟩ := h.entry e he
    exact ⟨k, b, cs, h1, h2, h3, h4, hF b h5, h6, h7, h8⟩
  apart := h.apart
  rest := h.rest
/-- A byte of a page that is there. -/
theorem PagesAt.set_old (h : PagesAt w F T n r g es clock) {x : Int} {b i : Nat} (hx : entryOf es.toList x = some (.pointer (some ⟨b, 0, none⟩))) (hi : i < n) (v : Int) :
    PagesAt (w.setCell ⟨b, i, none⟩ (.int .u8 v)) F T n r (upd g (x * n + i) v) es clock := by
  obtain ⟨e0, he0, hk0, hv0⟩ := entryOf_mem hx
  obtain ⟨k0, b0, cs0, hk0', _, _, hv0', hF0, _, hb0, hs0, hc0⟩ := h.entry e0 he0
  rw [hk0] at hk0'
  obtain rfl : x = k0 := by injection hk0'
  rw [hv0] at hv0'
  obtain rfl : b = b0 := by simpa using hv0'
  refine ⟨at_far h.map (p := ⟨b, i, none⟩) (ne_map hb0 h.map).symm _, h.inF, fun e he => ?_, h.apart, fun k hk hn j hj => ?_⟩
  · obtain ⟨k, b', cs, h1, h2, h3, h4, h5, h6, h7, h8, h9⟩ := h.entry e he
    by_cases hbb : b' = b
    · subst hbb
      have hee : e = e0 := by
        refine Classical.byContradiction fun hne => (h.two he he0 hne).2.1 ?_
        rw [h4, hv0]
      subst hee
      rw [hk0] at h1
      obtain rfl : x = k := by injection h1
      rw [hb0] at h7
      obtain rfl : cs0 = cs := by injection h7 with h7; injection h7
      refine ⟨x, b', cs0.setIfInBounds i (.int .u8 v), hk0, h2, h3, h4, h5, h6, at_set hb0 i _, by simpa using hs0, fun j hj => ?_⟩
      rw [Array.getElem?_setIfInBounds]
      by_cases hij : i = j
      · subst hij
        rw [if_pos rfl, if_pos (by omega), upd_at]
      · rw [if_neg hij, upd_ne _ _ (fun e => hij (place_inj hj hi e).2.symm)]
        exact hc0 j hj
    · have hkk : k ≠ x := by
        rintro rfl
        refine hbb ?_
        have hee : e = e0 := Classical.byContradiction fun hne => (h.two he he0 hne).1 (by rw [h1, hk0])
        subst hee
        rw [hv0] at h4
        simpa using h4.symm
      exact ⟨k, b', cs, h1, h2, h3, h4, h5, h6, at_far h7 (p := ⟨b, i, none⟩) hbb _, h8, fun j hj => by rw [upd_ne _ _ (fun e => hkk (place_inj hj hi e).1)]; exact h9 j hj⟩
  · have hkk : k ≠ x := by rintro rfl; rw [hx] at hn; cases hn
    rw [upd_ne _ _ (fun e => hkk (place_inj hj hi e).1)]
    exact h.rest k hk hn j hj
/-- A page more. -/
theorem PagesAt.page_new' (h : PagesAt w F T n r g es clock) (hF : ∀ b, F b → b < w.heap.size) {Z : Array Value} (hZ : Z.size = n) {x : Int} (x0 : 0 ≤ x) (x1 : x ≤ 18446744073709551615) {g' : Int → Int}
    (hz : ∀ i : Nat, i < n → Z[i]? = some (.int .u8 (g' (x * n + i)))) (hg : ∀ (k : Int) (i : Nat), k ≠ x → i < n → g' (k * n + i) = g (k * n + i)) (hx : entryOf es.toList x = none) :
    PagesAt (put (w.alloc (.cells Z T)) r (.map (es.push ⟨.int .u64 x, .pointer (some ⟨w.heap.size, 0, none⟩), clock⟩) (clock + 1))) (Or2 F (· = w.heap.size)) T n r g' (es.push ⟨.int .u64 x, .pointer (some ⟨w.heap.size, 0, none⟩), clock⟩) (clock + 1) := by
  have hrl := lt_of h.map
  refine ⟨put_same _ _ _ (by simp; omega), .inl h.inF, fun e he => ?_, ?_, fun k hk hn j hj => ?_⟩
  · rw [Array.toList_push] at he
    rcases List.mem_append.1 he with he1 | he1
    · obtain ⟨k, b, cs, h1, h2, h3, h4, h5, h6, h7, h8⟩ := h.entry e he1
      have hkx : k ≠ x := by rintro rfl; exact entryOf_none hx e he1 h1
      exact ⟨k, b, cs, h1, h2, h3, h4, .inl h5, by omega, (put_other _ _ _ _ (ne_map h7 h.map)).trans (at_alloc h7 _), h8.1, fun i hi => by rw [hg k i hkx hi]; exact h8.2 i hi⟩
    · obtain rfl := List.mem_singleton.1 he1
      exact ⟨x, w.heap.size, Z, rfl, x0, x1, rfl, .inr rfl, by simp, (put_other _ _ _ _ (by omega)).trans (at_new w _), hZ, hz⟩
  · rw [Array.toList_push, List.pairwise_append]
    refine ⟨h.apart, by simp, fun a ha b hb => ?_⟩
    obtain rfl := List.mem_singleton.1 hb
    obtain ⟨k, b, cs, h1, h2, h3, h4, h5, h6, h7, h8⟩ := h.entry a ha
    refine ⟨entryOf_none hx a ha, fun e => ?_, by simp; omega⟩
    rw [h4] at e
    have hlt := hF b h5
    have hb : b = w.heap.size := by injection e with e; injection e with e; injection e
    omega
  · have hkx : k ≠ x := by
      rintro rfl
      rw [Array.toList_push, entryOf_append_none _ _ hx] at hn
      simp [entryOf] at hn
    rw [hg k j hkx hj]
    refine h.rest k hk ?_ j hj
    rw [Array.toList_push] at hn
    cases hh : entryOf es.toList k with
    | none => rfl
    | some v => rw [entryOf_append_some _ _ hh] at hn; cases hn
theorem PagesAt.page_new (h : PagesAt w F T n r g es clock) (hF : ∀ b, F b → b < w.heap.size) {Z : Array Value} (hZ : Z.size = n) {x : Int} (x0 : 0 ≤ x) (x1 : x ≤ 18446744073709551615)
    (hz : ∀ i : Nat, i < n → Z[i]? = some (.int .u8 (g (x * n + i)))) (hx : entryOf es.toList x = none) :
    PagesAt (put (w.alloc (.cells Z T)) r (.map (es.push ⟨.int .u64 x, .pointer (some ⟨w.heap.size, 0, none⟩), clock⟩) (clock + 1))) (Or2 F (· = w.heap.size)) T n r g (es.push ⟨.int .u64 x, .pointer (some ⟨w.heap.size, 0, none⟩), clock⟩) (clock + 1) :=
  h.page_new' hF hZ x0 x1 hz (fun _ _ _ _ => rfl) hx
/-- Only what stands at a place from 0 on counts. -/
theorem PagesAt.congr {g' : Int → Int} (h : PagesAt w F T n r g es clock) (hg : ∀ o, 0 ≤ o → g' o = g o) : PagesAt w F T n r g' es clock where
  map := h.map
  inF := h.inF
  entry := fun e he => by
    obtain ⟨k, b, cs, h1, h2, h3, h4, h5, h6, h7, h8, h9⟩ := h.entry e he
    refine ⟨k, b, cs, h1, h2, h3, h4, h5, h6, h7, h8, fun i hi => ?_⟩
    rw [hg _ (by have := Int.mul_nonneg h2 (Int.natCast_nonneg n); omega)]
    exact h9 i hi
  apart := h.apart
  rest := fun k hk hn i hi => by
    rw [hg _ (by have := Int.mul_nonneg hk (Int.natCast_nonneg n); omega)]
    exact h.rest k hk hn i hi
theorem PagesAt.borns (h : PagesAt w F T n r g es clock) : (es.toList.map (·.born)).Nodup := by
  rw [List.Nodup, List.pairwise_map]
  exact h.apart.imp fun h => h.2.2
theorem PagesAt.young (h : PagesAt w F T n r g es clock) : ∀ e ∈ es.toList, e.born < clock := fun e he => by
  obtain ⟨_, _, _, _, _, _, _, _, h6, _⟩ := h.entry e he
  exact h6
end


/-! ### A map that is copied page by page -/
/-- Of a memory the pages (of n bytes) that have an entry. -/
def keptG (g : Int → Int) (n : Nat) (es : Array MapEntry) : Int → Int := fun o => if (entryOf es.toList (o / n)).isSome = true then g o else 0
theorem keptG_byte {g : Int → Int} (hg : ∀ o, 0 ≤ g o ∧ g o ≤ 255) (n : Nat) (es : Array MapEntry) (o : Int) : 0 ≤ keptG g n es o ∧ keptG g n es o ≤ 255 := by
  unfold keptG
  split
  · exact hg o
  · omega
theorem place_div {n : Nat} (k : Int) {i : Nat} (hi : i < n) : (k * n + i) / n = k := by
  rw [Int.add_comm, Int.add_mul_ediv_right _ _ (by omega), Int.ediv_eq_zero_of_lt (by omega) (by omega)]; simp
theorem entryOf_push (es : Array MapEntry) (x y : Int) (v : Value) (b : Nat) (hx : entryOf es.toList x = none) : entryOf (es.push ⟨.int .u64 x, v, b⟩).toList y = if y = x then some v else entryOf es.toList y := by
  rw [Array.toList_push]
  by_cases h : y = x
  · subst h
    rw [if_pos rfl, entryOf_append_none _ _ hx]
    simp [entryOf]
  · rw [if_neg h]
    cases hy : entryOf es.toList y with
    | none => rw [entryOf_append_none _ _ hy]; simp [entryOf, h]
    | some u => rw [entryOf_append_some _ _ hy]

/-- The copy's map r2, as far as the iterator it has come over the map of es: what was met, and nothing else. -/
structure CopyRel (w : World) (F : Nat → Prop) (T n r r2 it : Nat) (g : Int → Int) (es : Array MapEntry) (clock : Nat) (seen : Array Nat) (es2 : Array MapEntry) (clock2 : Nat) (wr : World) : Prop where
  iter : wr.heap[it]? = some (.mapIter (some r) clock seen clock)
  pages : PagesAt wr F T n r2 (keptG g n es2) es2 clock2
  inF : ∀ b, F b → w.heap.size ≤ b ∧ b < wr.heap.size ∧ b ≠ it
  keys : ∀ x, (entryOf es2.toList x).isSome = true ↔ ∃ e ∈ es.toList, seen.contains e.born = true ∧ e.key = .int .u64 x
  kept : Kept No w wr
  itNew : w.heap.size ≤ it

section
variable {w wr : World} {F F0 : Nat → Prop} {T n r r2 it clock clock2 : Nat} {g : Int → Int} {es es2 : Array MapEntry} {seen : Array Nat}
/-- Everything was met: the copy holds what there is. -/
theorem CopyRel.all (h : CopyRel w F T n r r2 it g es clock seen es2 clock2 wr) (hP : PagesAt w F0 T n r g es clock) (hn : 0 < n) (hl : (leftOf es seen).size = 0) : PagesAt wr F T n r2 g es2 clock2 := by
  refine h.pages.congr fun o ho => ?_
  unfold keptG
  split
  · rfl
  · rename_i hno
    have hq : 0 ≤ o / n := Int.ediv_nonneg ho (by omega)
    have e1 : o / n * n + ((o % n).toNat : Nat) = o := by
      have h1 := Int.emod_nonneg o (b := (n : Int)) (by omega)
      rw [Int.toNat_of_nonneg h1, Int.mul_comm]
      exact Int.mul_ediv_add_emod o n
    rw [← e1]
    refine hP.rest (o / n) hq ?_ (o % n).toNat (by have h1 := Int.emod_nonneg o (b := (n : Int)) (by omega); have h2 := Int.emod_lt_of_pos o (b := (n : Int)) (by omega); omega)
    cases hx : entryOf es.toList (o / n) with
    | none => rfl
    | some v =>
      obtain ⟨e, he, hk, _⟩ := entryOf_mem hx
      exact absurd ((h.keys (o / n)).2 ⟨e, he, all_seen es seen hl e he, hk⟩) hno

/-- An entry more. W: the world behind the iterator's step. -/
theorem CopyRel.step (h : CopyRel w F T n r r2 it g es clock seen es2 clock2 wr) (hP : PagesAt w F0 T n r g es clock) {W : World} {e : MapEntry} (hWs : W.heap.size = wr.heap.size) (hWi : W.heap[it]? = some (.mapIter (some r) clock (seen.push e.born) clock))
    (hWo : ∀ j, j ≠ it → W.heap[j]? = wr.heap[j]?) (hWk : Kept No w W) (he : e ∈ es.toList) (hs : seen.contains e.born = false) {k : Int} (hk : e.key = .int .u64 k) (k0 : 0 ≤ k) (k1 : k ≤ 18446744073709551615) {cs : Array Value} (hcs : cs.size = n)
    (hc : ∀ i : Nat, i < n → cs[i]? = some (.int .u8 (g (k * n + i)))) :
    entryOf es2.toList k = none ∧ PagesAt W F T n r2 (keptG g n es2) es2 clock2 ∧
    CopyRel w (Or2 F (· = W.heap.size)) T n r r2 it g es clock (seen.push e.born) (es2.push ⟨.int .u64 k, .pointer (some ⟨W.heap.size, 0, none⟩), clock2⟩) (clock2 + 1) (put (W.alloc (.cells cs T)) r2 (.map (es2.push ⟨.int .u64 k, .pointer (some ⟨W.heap.size, 0, none⟩), clock2⟩) (clock2 + 1))) := by
  have hx : entryOf es2.toList k = none := by
    cases hx : entryOf es2.toList k with
    | none => rfl
    | some v =>
      obtain ⟨e', he', hs', hk'⟩ := (h.keys k).1 (by rw [hx]; rfl)
      have hee : e' = e := Classical.byContradiction fun hne => (hP.two he' he hne).1 (by rw [hk, hk'])
      rw [hee, hs] at hs'
      cases hs'
  have hPW := h.pages.stay (w' := W) (fun b hb => hWo b (h.inF b hb).2.2)
  have hil := lt_of hWi
  have hr2 := lt_of hPW.map
  have hri := (h.inF r2 h.pages.inF).2.2
  have hr2w := (h.inF r2 h.pages.inF).1
  refine ⟨hx, hPW, ?_, ?_, fun b hb => ?_, fun x => ?_, ?_, h.itNew⟩
  · exact (put_other _ _ _ _ hri.symm).trans (at_alloc hWi _)
  · refine hPW.page_new' (fun b hb => by rw [hWs]; exact (h.inF b hb).2.1) hcs k0 k1 (fun i hi => ?_) (fun k' i hne hi => ?_) hx
    · rw [hc i hi]
      unfold keptG
      rw [place_div k hi, entryOf_push _ _ _ _ _ hx, if_pos rfl]
      rfl
    · unfold keptG
      rw [place_div k' hi, entryOf_push _ _ _ _ _ hx, if_neg hne]
  · rw [put_size, World.size_alloc]
    rcases hb with hb | hb
    · have := h.inF b hb
      exact ⟨this.1, by omega, this.2.2⟩
    · have : b = W.heap.size := hb
      have := hWk.size
      exact ⟨by omega, by omega, by omega⟩
  · rw [entryOf_push _ _ _ _ _ hx]
    by_cases hxk : x = k
    · subst hxk
      rw [if_pos rfl]
      exact ⟨fun _ => ⟨e, he, by rw [contains_push]; simp, hk⟩, fun _ => rfl⟩
    · rw [if_neg hxk]
      constructor
      · intro h1
        obtain ⟨e', he', hs', hk'⟩ := (h.keys x).1 h1
        exact ⟨e', he', by rw [contains_push, hs']; rfl, hk'⟩
      · rintro ⟨e', he', hs', hk'⟩
        refine (h.keys x).2 ⟨e', he', ?_, hk'⟩
        rw [contains_push] at hs'
        rcases Bool.or_eq_true _ _ ▸ hs' with h1 | h1
        · exact h1
        · exfalso
          have hb : e'.born = e.born := by simpa using h1
          have hee : e' = e := Classical.byContradiction fun hne => (hP.two he' he hne).2.2 hb
          rw [hee, hk] at hk'
          injection hk' with _ h2
          exact hxk h2.symm
  · exact (hWk.alloc _).put (.inr hr2w) _
end
end Go.Proofs.Ytognedbehplaeaa
