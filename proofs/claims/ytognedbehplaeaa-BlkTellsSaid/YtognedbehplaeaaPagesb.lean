/- A map from 64-bit words to pages: a page under a key that is there, or not. Plain words of the model's heap. -/
import Derived.Test.YtognedbehplaeaaPages
import Derived.Laws.CopyRow
namespace Go.Proofs.Ytognedbehplaeaa
open Go.RowKit

theorem placeOf_split {x : Int} {v : Value} : ∀ {es : List MapEntry} {i j : Nat}, placeOf es x i = some (j, v) → ∃ l1 e l2, es = l1 ++ e :: l2 ∧ j = i + l1.length ∧ e.key = .int .u64 x ∧ e.val = v
  | [], _, _, h => by simp [placeOf] at h
  | e :: es, i, j, h => by
    unfold placeOf at h
    split at h
    · rename_i k hk
      split at h
      · rename_i hx
        simp only [Option.some.injEq, Prod.mk.injEq] at h
        exact ⟨[], e, es, rfl, by simp [h.1], by rw [hk, hx], h.2⟩
      · obtain ⟨l1, e', l2, rfl, rfl, h3, h4⟩ := placeOf_split h
        exact ⟨e :: l1, e', l2, rfl, by simp; omega, h3, h4⟩
    · obtain ⟨l1, e', l2, rfl, rfl, h3, h4⟩ := placeOf_split h
      exact ⟨e :: l1, e', l2, rfl, by simp; omega, h3, h4⟩
theorem modify_mid {α : Type} (f : α → α) (e : α) (l2 : List α) : ∀ (l1 : List α), (l1 ++ e :: l2).modify l1.length f = l1 ++ f e :: l2
  | [] => rfl
  | a :: l1 => by
    have ih := modify_mid f e l2 l1
    simpa using ih

section
variable {P : Program} {w : World} {t kt et r : Nat} {es : Array MapEntry} {clock : Nat}
/-- A store under a key that is there: another value. -/
theorem run_store_old (ht : P.underlying t = some (.map kt et)) (hk : P.underlying kt = some (.int .u64)) (hm : w.heap[r]? = some (.map es clock)) (hw : WordKeys es.toList) (x : Int) (v u : Value) (hx : entryOf es.toList x = some u) :
    ∃ l1 e l2, es.toList = l1 ++ e :: l2 ∧ e.key = .int .u64 x ∧ (Instr.mapUpdate t (.map (some r)) (.int .u64 x) v).run P w = .ok () (put w r (.map (l1 ++ { e with val := v } :: l2).toArray clock)) := by
  obtain ⟨j, hj⟩ := placeOf_some (i := 0) hx
  obtain ⟨l1, e, l2, h1, h2, h3, h4⟩ := placeOf_split hj
  refine ⟨l1, e, l2, h1, h3, ?_⟩
  have hjl : j = l1.length := by omega
  have hg : es[j]? = some e := by rw [← Array.getElem?_toList, h1, hjl]; simp
  have hmod : (es.modify j fun e => { e with key := .int .u64 x, val := v }) = (l1 ++ { e with val := v } :: l2).toArray := by
    apply Array.ext'
    rw [Array.toList_modify, h1, hjl, modify_mid, ← h3]
  have hs : Instr.sameBits 10000 (.int .u64 x) (.int .u64 x) = true := by
    rw [show (10000 : Nat) = 9999 + 1 from rfl]
    generalize 9999 = n
    simp [Instr.sameBits]
  simp [Instr.mapUpdate, run_underlying ht, MapKept.run_getObj_map hm, checkKey_word hk, Instr.findKey, run_underlying hk, findNow_word x es.toList 0 hw, hj, hg, h3, Instr.keyThatStays, hs, MapKept.run_setObj_map _ hm, Result.andThen, put, hmod]
end

section
variable {w w' : World} {F F' : Nat → Prop} {T n r clock : Nat} {g : Int → Int} {es : Array MapEntry}
/-- Another page under a key. -/
theorem PagesAt.page_old (h : PagesAt w F T n r g es clock) (hF : ∀ b, F b → b < w.heap.size) {Z : Array Value} (hZ : Z.size = n) {x : Int} (x0 : 0 ≤ x) (x1 : x ≤ 18446744073709551615) {g' : Int → Int}
    (hz : ∀ i : Nat, i < n → Z[i]? = some (.int .u8 (g' (x * n + i)))) (hg : ∀ (k : Int) (i : Nat), k ≠ x → i < n → g' (k * n + i) = g (k * n + i)) {l1 l2 : List MapEntry} {e0 : MapEntry} (hes : es.toList = l1 ++ e0 :: l2) (hk0 : e0.key = .int .u64 x) :
    PagesAt (put (w.alloc (.cells Z T)) r (.map (l1 ++ { e0 with val := .pointer (some ⟨w.heap.size, 0, none⟩) } :: l2).toArray clock)) (Or2 F (· = w.heap.size)) T n r g' (l1 ++ { e0 with val := .pointer (some ⟨w.heap.size, 0, none⟩) } :: l2).toArray clock := by
  have hrl := lt_of h.map
  have hap := h.apart
  rw [hes, List.pairwise_append, List.pairwise_cons] at hap
  obtain ⟨ha1, ⟨ha2, ha3⟩, ha4⟩ := hap
  have hold : ∀ e ∈ l1 ++ l2, ∃ (k : Int) (b : Nat) (cs : Array Value), e.key = .int .u64 k ∧ 0 ≤ k ∧ k ≤ 18446744073709551615 ∧ e.val = .pointer (some ⟨b, 0, none⟩) ∧ F b ∧ e.born < clock ∧ w.heap[b]? = some (.cells cs T (0, 0)) ∧ cs.size = n ∧ (∀ i : Nat, i < n → cs[i]? = some (.int .u8 (g (k * n + i)))) ∧ k ≠ x := by
    intro e he
    have hm : e ∈ es.toList := by
      rw [hes]
      rcases List.mem_append.1 he with h | h
      · exact List.mem_append_left _ h
      · exact List.mem_append_right _ (List.mem_cons_of_mem _ h)
    obtain ⟨k, b, cs, h1, h2, h3, h4, h5, h6, h7, h8, h9⟩ := h.entry e hm
    refine ⟨k, b, cs, h1, h2, h3, h4, h5, h6, h7, h8, h9, ?_⟩
    rintro rfl
    rcases List.mem_append.1 he with h | h
    · exact (ha4 e h e0 (by simp)).1 (by rw [h1, hk0])
    · exact (ha2 e h).1 (by rw [h1, hk0])
  have hval : ∀ e ∈ l1 ++ l2, e.val ≠ .pointer (some ⟨w.heap.size, 0, none⟩) := by
    intro e he hv
    obtain ⟨k, b, cs, h1, h2, h3, h4, h5, _⟩ := hold e he
    rw [h4] at hv
    have := hF b h5
    have hb : b = w.heap.size := by injection hv with hv; injection hv with hv; injection hv
    omega
  obtain ⟨k0, b0, cs0, hk0', h2, h3, _, _, hb0, _⟩ := h.entry e0 (by rw [hes]; simp)
  refine ⟨put_same _ _ _ (by simp; omega), .inl h.inF, fun e he => ?_, ?_, fun k hk hn j hj => ?_⟩
  · rw [List.toList_toArray] at he
    rcases List.mem_append.1 he with he1 | he1
    · obtain ⟨k, b, cs, h1, h2, h3, h4, h5, h6, h7, h8, h9, hkx⟩ := hold e (List.mem_append_left _ he1)
      exact ⟨k, b, cs, h1, h2, h3, h4, .inl h5, h6, (put_other _ _ _ _ (ne_map h7 h.map)).trans (at_alloc h7 _), h8, fun i hi => by rw [hg k i hkx hi]; exact h9 i hi⟩
    · rcases List.mem_cons.1 he1 with rfl | he2
      · exact ⟨x, w.heap.size, Z, hk0, x0, x1, rfl, .inr rfl, hb0, (put_other _ _ _ _ (by omega)).trans (at_new w _), hZ, hz⟩
      · obtain ⟨k, b, cs, h1, h2, h3, h4, h5, h6, h7, h8, h9, hkx⟩ := hold e (List.mem_append_right _ he2)
        exact ⟨k, b, cs, h1, h2, h3, h4, .inl h5, h6, (put_other _ _ _ _ (ne_map h7 h.map)).trans (at_alloc h7 _), h8, fun i hi => by rw [hg k i hkx hi]; exact h9 i hi⟩
  · rw [List.toList_toArray, List.pairwise_append, List.pairwise_cons]
    refine ⟨ha1, ⟨fun b hb => ⟨(ha2 b hb).1, fun e => hval b (List.mem_append_right _ hb) e.symm, (ha2 b hb).2.2⟩, ha3⟩, fun a ha b hb => ?_⟩
    rcases List.mem_cons.1 hb with rfl | hb2
    · exact ⟨(ha4 a ha e0 (by simp)).1, hval a (List.mem_append_left _ ha), (ha4 a ha e0 (by simp)).2.2⟩
    · exact ha4 a ha b (List.mem_cons_of_mem _ hb2)
  · rw [List.toList_toArray] at hn
    have hno := entryOf_none hn
    have hkx : k ≠ x := by
      rintro rfl
      exact hno { e0 with val := .pointer (some ⟨w.heap.size, 0, none⟩) } (by simp) hk0
    rw [hg k j hkx hj]
    refine h.rest k hk ?_ j hj
    cases hh : entryOf es.toList k with
    | none => rfl
    | some v =>
      obtain ⟨e, he, hke, _⟩ := entryOf_mem hh
      rw [hes] at he
      rcases List.mem_append.1 he with h1 | h1
      · exact absurd hke (hno e (List.mem_append_left _ h1))
      · rcases List.mem_cons.1 h1 with rfl | h2
        · rw [hk0] at hke
          injection hke with _ hke
          exact absurd hke.symm hkx
        · exact absurd hke (hno e (List.mem_append_right _ (List.mem_cons_of_mem _ h2)))
/-- A page laid under a key, there or not. -/
theorem PagesAt.lay {P : Program} {t kt et : Nat} (ht : P.underlying t = some (.map kt et)) (hk : P.underlying kt = some (.int .u64)) (h : PagesAt w F T n r g es clock) (hF : ∀ b, F b → b < w.heap.size) {Z : Array Value} (hZ : Z.size = n) {x : Int} (x0 : 0 ≤ x) (x1 : x ≤ 18446744073709551615) {g' : Int → Int}
    (hz : ∀ i : Nat, i < n → Z[i]? = some (.int .u8 (g' (x * n + i)))) (hg : ∀ (k : Int) (i : Nat), k ≠ x → i < n → g' (k * n + i) = g (k * n + i)) :
    ∃ es' clock', (Instr.mapUpdate t (.map (some r)) (.int .u64 x) (.pointer (some ⟨w.heap.size, 0, none⟩))).run P (w.alloc (.cells Z T)) = .ok () (put (w.alloc (.cells Z T)) r (.map es' clock')) ∧
      PagesAt (put (w.alloc (.cells Z T)) r (.map es' clock')) (Or2 F (· = w.heap.size)) T n r g' es' clock' := by
  have hm := at_alloc h.map (.cells Z T)
  cases hx : entryOf es.toList x with
  | none => exact ⟨_, _, run_store_new ht hk hm h.words x _ hx, h.page_new' hF hZ x0 x1 hz hg hx⟩
  | some u =>
    obtain ⟨l1, e, l2, h1, h2, h3⟩ := run_store_old ht hk hm h.words x (.pointer (some ⟨w.heap.size, 0, none⟩)) u hx
    exact ⟨_, _, h3, h.page_old hF hZ x0 x1 hz hg h1 h2⟩
end
theorem push_modify {α : Type} (a : Array α) (o : α) (f : α → α) : (a.push o).modify a.size f = a.push (f o) := by
  apply Array.ext'
  rw [Array.toList_modify, Array.toList_push, Array.toList_push]
  exact modify_mid f o [] a.toList
/-- A block made and then filled. -/
theorem alloc_setRow (w : World) (a b : Array Value) (T : TypeId) : (w.alloc (.cells a T)).setRow w.heap.size b = w.alloc (.cells b T) := by
  have h := push_modify w.heap (.cells a T) (fun | .cells _ elem frozen => .cells b elem frozen | o => o)
  unfold World.setRow World.alloc
  exact congrArg (fun x => { w with heap := x }) h
theorem alloc_setRow_drew (w : World) (a b : Array Value) (T : TypeId) : ((w.alloc (.cells a T)).drew).setRow w.heap.size b = (w.alloc (.cells b T)).drew := congrArg World.drew (alloc_setRow w a b T)
end Go.Proofs.Ytognedbehplaeaa
