/- The laws' arguments, opened: lists of bytes that are put into memory; layouts. -/
import Derived.Test.YtognedbehplaeaaMem
import Derived.WalkKit
import Derived.ProofKit
import Derived.OpenShut
import Derived.ShutString
import Derived.ChangeOld
import Derived.Below
import Derived.SizedLaws
import Derived.Deep.Slices
import Derived.ChangeArms
import Derived.Carry
set_option linter.unusedVariables false
namespace Go.Proofs.Ytognedbehplaeaa
open Go.ChangeShapes Go.WideShapes Go.ChangeAt Go.RowKit Go.Deep

theorem exists_list {α : Type} {P : Nat → α → Prop} : ∀ (n : Nat), (∀ i, i < n → ∃ x, P i x) → ∃ l : List α, l.length = n ∧ ∀ i x, l[i]? = some x → P i x
  | 0, _ => ⟨[], rfl, by simp⟩
  | n + 1, h => by
    obtain ⟨l, hl, hP⟩ := exists_list n (fun i hi => h i (by omega))
    obtain ⟨x, hx⟩ := h n (by omega)
    refine ⟨l ++ [x], by simp [hl], fun i y hy => ?_⟩
    rcases Nat.lt_or_ge i l.length with hi | hi
    · rw [List.getElem?_append_left hi] at hy; exact hP i y hy
    · rw [List.getElem?_append_right hi] at hy
      have : i - l.length = 0 := by
        rcases Nat.eq_zero_or_pos (i - l.length) with h0 | h0
        · exact h0
        · rw [List.getElem?_eq_none (by simp; omega)] at hy; cases hy
      rw [this] at hy
      have hn : i = n := by omega
      subst hn
      simp at hy
      exact hy ▸ hx
theorem range_u64 {n : Int} (h : (Lit.int .u64 n).wf = true) : 0 ≤ n ∧ n ≤ 18446744073709551615 := by
  simp only [Lit.wf, Bool.and_eq_true, decide_eq_true_eq] at h
  exact h
theorem range_u8 {n : Int} (h : (Lit.int .u8 n).wf = true) : 0 ≤ n ∧ n ≤ 255 := by
  simp only [Lit.wf, Bool.and_eq_true, decide_eq_true_eq] at h
  exact h
theorem range_i64 {n : Int} (h : (Lit.int .i64 n).wf = true) : -9223372036854775808 ≤ n ∧ n ≤ 9223372036854775807 := by
  simp only [Lit.wf, Bool.and_eq_true, decide_eq_true_eq] at h
  exact h
theorem spot_of {w : World} {a : Addr} {v : Value} (h : w.cell? a = some v) : ∃ b o, a = ⟨b, o, none⟩ ∧ b < w.heap.size := by
  obtain ⟨b, o, s⟩ := a
  unfold World.cell? at h
  simp only at h
  cases hb : w.heap[b]? with
  | none => rw [hb] at h; cases h
  | some x =>
    have hlt := (Array.getElem?_eq_some_iff.1 hb).1
    rw [hb] at h
    cases x with
    | cells c e f =>
      simp only at h
      cases s with
      | none => exact ⟨b, o, rfl, hlt⟩
      | some q => simp at h
    | map es cl => cases h
    | _ => cases h

section
variable {H : Type} {enc : TypeId × Value → H} {w : World}
/-- Bytes that came in. -/
theorem open_bytes {fuel : Nat} {v : Value} {x : DataW H × List MemPlace} (h : DataW.trod enc Try.prog w 0 (fun _ => true) true fuel 49 [v] = some x) :
    ∃ (A : Option Addr) (l : List Int) (c : Nat), v = .slice A l.length c ∧ Sl w No A (by8 l) ∧ Byt l ∧ l.length ≤ 9223372036854775807 ∧ l.length ≤ c := by
  rcases open_ints Try.underlying49 Try.underlying5 (by kernel_rfl) h with ⟨hcs, _⟩ | ⟨a, len, cap, zs, hcs, _, hl, hm, hz, _, hcell, hwz⟩
  · obtain rfl : v = .slice none 0 0 := by simpa using hcs
    exact ⟨none, [], 0, rfl, Sl.nil _ _ _, by intro x hx; simp at hx, by simp, by simp⟩
  · obtain rfl : v = .slice (some a) len cap := by simpa using hcs
    simp only [if_true] at hz
    unfold maxLen at hm
    have e : (zs.take len).length = len := by rw [List.length_take]; omega
    refine ⟨some a, zs.take len, cap, by rw [e], ?_, fun x hx => range_u8 (hwz x (List.mem_of_mem_take hx)), by omega, by omega⟩
    rcases Nat.eq_zero_or_pos len with h0 | h0
    · subst h0; exact .inl (by simp [by8])
    · have hc0 := hcell 0 (by omega)
      have : a.add 0 = a := by simp [Addr.add]
      rw [this] at hc0
      obtain ⟨b, o, rfl, hlt⟩ := spot_of hc0
      refine .inr ⟨b, o, rfl, fun h => h, hlt, fun j u hu => ?_⟩
      have hj : j < len := by
        have := (List.getElem?_eq_some_iff.1 hu).1
        rw [by8_length, e] at this
        exact this
      have hx := hcell j (by omega)
      have e2 : (⟨b, o, none⟩ : Addr).add j = ⟨b, o + j, none⟩ := by unfold Addr.add; split <;> simp_all
      rw [e2] at hx
      rw [hx]
      rw [by8_at (by rw [e]; exact hj)] at hu
      rw [← hu]
      simp only [List.getD, List.getElem?_take]
      rw [if_pos hj]

theorem cells_two {w : World} {a : Addr} {cs : List Value} (h : w.cells? 0 a 2 = some cs) : ∃ x y, cs = [x, y] ∧ w.cell? a = some x ∧ w.cell? (a.add 1) = some y := by
  unfold World.cells? at h
  rw [if_pos (Nat.zero_le _)] at h
  have e0 : a.add 0 = a := by simp [Addr.add]
  cases h0 : w.cell? a with
  | none => simp [List.range, List.range.loop, List.mapM_cons, e0, h0] at h
  | some x =>
    cases h1 : w.cell? (a.add 1) with
    | none => simp [List.range, List.range.loop, List.mapM_cons, e0, h0, h1] at h
    | some y =>
      simp [List.range, List.range.loop, List.mapM_cons, e0, h0, h1] at h
      exact ⟨x, y, h.symm, rfl, rfl⟩

set_option maxRecDepth 100000 in
/-- A list of bytes that are put into memory. -/
theorem open_puts {b0 : Nat} {v : Value} {d : DataW H} {p : List MemPlace} (hv : Value.okWide Try.prog w .any b0 22 v) (h : DataW.Trod enc Try.prog w 0 (fun _ => true) true 22 v d p) :
    ∃ (A : Option Addr) (ps : List PutV) (c : Nat), v = .slice A ps.length c ∧ PutsAt w A ps := by
  obtain ⟨a0, len0, cap0, rfl⟩ := okWide_slice Try.underlying22 hv
  obtain ⟨fuel, hf⟩ := h
  have hC : Try.prog.cellsOf 156 = 2 := by kernel_rfl
  rcases open_slice Try.underlying22 hf with ⟨hcs, _⟩ | ⟨a, len, cap, m, n, D, Pl, hcs, _, hl, hm, hmm, _, hi⟩
  · simp [Value.cells] at hcs
    obtain ⟨rfl, rfl, rfl⟩ := hcs
    exact ⟨none, [], 0, rfl, ⟨Sl.nil _ _ _, by simp, by simp⟩⟩
  · simp [Value.cells] at hcs
    obtain ⟨rfl, rfl, rfl⟩ := hcs
    simp only [if_true] at hmm
    subst hmm
    unfold maxLen at hm
    rw [hC] at hi
    have each : ∀ i, i < len0 → ∃ q : PutV, w.cell? (a.add (i * 2)) = some (.int .u64 q.at_) ∧ w.cell? (a.add (i * 2 + 1)) = some (.slice q.A q.l.length q.c) ∧ q.Ok w := by
      intro i hlt
      obtain ⟨cs', hc, ht⟩ := hi i (by omega)
      obtain ⟨x, y, rfl, hx, hy⟩ := cells_two hc
      obtain ⟨xs, k, _, _, _, _, hg⟩ := DataW.trod_struct Try.underlying156 ht
      have h0 : DataW.trod enc Try.prog w 0 (fun _ => true) true k 23 (([x, y].drop 0).take (Try.prog.cellsOf 23)) = xs[0]? := hg 0 _ rfl
      have h1 : DataW.trod enc Try.prog w 0 (fun _ => true) true k 49 (([x, y].drop 1).take (Try.prog.cellsOf 49)) = xs[1]? := hg 1 _ rfl
      have c23 : Try.prog.cellsOf 23 = 1 := by kernel_rfl
      have c49 : Try.prog.cellsOf 49 = 1 := by kernel_rfl
      simp only [c23, c49, List.drop_zero, List.take_succ_cons, List.take_zero, List.drop_succ_cons] at h0 h1
      obtain ⟨y0, e0⟩ : ∃ y0, xs[0]? = some y0 := by
        cases hh : xs[0]? with
        | some y0 => exact ⟨y0, rfl⟩
        | none => rw [List.getElem?_eq_none_iff] at hh; simp_all
      obtain ⟨y1, e1⟩ : ∃ y1, xs[1]? = some y1 := by
        cases hh : xs[1]? with
        | some y1 => exact ⟨y1, rfl⟩
        | none => rw [List.getElem?_eq_none_iff] at hh; simp_all
      rw [e0] at h0
      rw [e1] at h1
      obtain ⟨nn, hxn, _, hwf⟩ := DataW.trod_int Try.underlying23 h0
      obtain rfl : x = .int .u64 nn := by simpa using hxn
      obtain ⟨A, l, c, rfl, hs, hb, hle, _⟩ := open_bytes h1
      refine ⟨⟨nn, A, l, c⟩, hx, ?_, range_u64 hwf, hs, hb, hle⟩
      have : (a.add (i * 2)).add 1 = a.add (i * 2 + 1) := by
        unfold Addr.add
        by_cases h : i * 2 = 0 <;> simp [h, Nat.add_assoc]
      rw [← this]
      exact hy
    obtain ⟨ps, hps, hP⟩ := exists_list len0 each
    refine ⟨some a, ps, m, by rw [hps], ?_, fun q hq => ?_, by omega⟩
    · rcases Nat.eq_zero_or_pos len0 with h0 | h0
      · subst h0
        obtain rfl := List.eq_nil_of_length_eq_zero hps
        exact .inl rfl
      · obtain ⟨q0, hq0⟩ : ∃ q, ps[0]? = some q := ⟨_, List.getElem?_eq_getElem (by omega)⟩
        have hc0 := (hP 0 q0 hq0).1
        have : a.add (0 * 2) = a := by simp [Addr.add]
        rw [this] at hc0
        obtain ⟨b, o, rfl, hlt⟩ := spot_of hc0
        have ad : ∀ j, (⟨b, o, none⟩ : Addr).add j = ⟨b, o + j, none⟩ := fun j => by unfold Addr.add; split <;> simp_all
        refine .inr ⟨b, o, rfl, fun h => h, hlt, fun j u hu => ?_⟩
        have hj : j < (pcells ps).length := (List.getElem?_eq_some_iff.1 hu).1
        have hlen : (pcells ps).length = ps.length * 2 := by
          clear hP hu hj hq0 hps each
          induction ps with
          | nil => rfl
          | cons t l ih => simp [pcells, PutV.cells] at ih ⊢; omega
        obtain ⟨q, hq⟩ : ∃ q, ps[j / 2]? = some q := ⟨_, List.getElem?_eq_getElem (by omega)⟩
        have hc := hP _ q hq
        have hp := pcells_at hq
        rw [ad, ad] at hc
        rcases (show j % 2 = 0 ∨ j % 2 = 1 by omega) with hm2 | hm2
        · have e : j / 2 * 2 = j := by omega
          rw [e] at hc hp
          rw [hp.1] at hu
          rw [hc.1, hu]
        · have e : j / 2 * 2 + 1 = j := by omega
          rw [e] at hc hp
          rw [hp.2] at hu
          rw [hc.2.1, hu]
    · obtain ⟨i, hi2⟩ := List.getElem?_of_mem hq
      exact (hP i q hi2).2.2

set_option maxRecDepth 100000 in
theorem open_layout {fuel : Nat} {cs : List Value} {x : DataW H × List MemPlace} (h : DataW.trod enc Try.prog w 0 (fun _ => true) true fuel 25 cs = some x) :
    ∃ sz d a u : Int, cs = [.int .i64 sz, .int .u64 d, .int .u64 a, .int .u64 u] ∧ (-9223372036854775808 ≤ sz ∧ sz ≤ 9223372036854775807) ∧ (0 ≤ d ∧ d ≤ 18446744073709551615) ∧ (0 ≤ a ∧ a ≤ 18446744073709551615) ∧ (0 ≤ u ∧ u ≤ 18446744073709551615) := by
  have c23 : Try.prog.cellsOf 23 = 1 := by kernel_rfl
  have c3 : Try.prog.cellsOf 3 = 1 := by kernel_rfl
  have c25 : Try.prog.cellsOf 25 = 4 := by kernel_rfl
  obtain ⟨xs, k, _, _, hlen, hxs, hg⟩ := DataW.trod_struct Try.underlying25 h
  rw [c25] at hlen
  match cs, hlen with
  | [x0, x1, x2, x3], _ =>
    have h0 : DataW.trod enc Try.prog w 0 (fun _ => true) true k 3 (([x0, x1, x2, x3].drop 0).take (Try.prog.cellsOf 3)) = xs[0]? := hg 0 _ rfl
    have h1 : DataW.trod enc Try.prog w 0 (fun _ => true) true k 23 (([x0, x1, x2, x3].drop 1).take (Try.prog.cellsOf 23)) = xs[1]? := hg 1 _ rfl
    have h2 : DataW.trod enc Try.prog w 0 (fun _ => true) true k 23 (([x0, x1, x2, x3].drop 2).take (Try.prog.cellsOf 23)) = xs[2]? := hg 2 _ rfl
    have h3 : DataW.trod enc Try.prog w 0 (fun _ => true) true k 23 (([x0, x1, x2, x3].drop 3).take (Try.prog.cellsOf 23)) = xs[3]? := hg 3 _ rfl
    simp only [c23, c3, List.drop_zero, List.take_succ_cons, List.take_zero, List.drop_succ_cons] at h0 h1 h2 h3
    match xs, hxs with
    | [y0, y1, y2, y3], _ =>
      simp only [List.getElem?_cons_zero, List.getElem?_cons_succ] at h0 h1 h2 h3
      obtain ⟨n0, e0, _, w0⟩ := DataW.trod_int Try.underlying3 h0
      obtain ⟨n1, e1, _, w1⟩ := DataW.trod_int Try.underlying23 h1
      obtain ⟨n2, e2, _, w2⟩ := DataW.trod_int Try.underlying23 h2
      obtain ⟨n3, e3, _, w3⟩ := DataW.trod_int Try.underlying23 h3
      simp only [List.cons.injEq, and_true] at e0 e1 e2 e3
      subst e0 e1 e2 e3
      exact ⟨n0, n1, n2, n3, rfl, range_i64 w0, range_u64 w1, range_u64 w2, range_u64 w3⟩

set_option maxRecDepth 100000 in
theorem open_ask {b0 : Nat} {v : Value} {d : DataW H} {p : List MemPlace} (hv : Value.okWide Try.prog w .any b0 27 v) (h : DataW.Trod enc Try.prog w 0 (fun _ => true) true 27 v d p) :
    ∃ (sz d a u head : Int) (ind : Bool), v = .agg #[.int .i64 sz, .int .u64 d, .int .u64 a, .int .u64 u, .int .i64 head, .bool ind] ∧ (-9223372036854775808 ≤ sz ∧ sz ≤ 9223372036854775807) ∧ (0 ≤ d ∧ d ≤ 18446744073709551615) ∧ (0 ≤ a ∧ a ≤ 18446744073709551615) ∧ (0 ≤ u ∧ u ≤ 18446744073709551615) ∧ (-9223372036854775808 ≤ head ∧ head ≤ 9223372036854775807) := by
  have c25 : Try.prog.cellsOf 25 = 4 := by kernel_rfl
  have c3 : Try.prog.cellsOf 3 = 1 := by kernel_rfl
  have c4 : Try.prog.cellsOf 4 = 1 := by kernel_rfl
  have c27 : Try.prog.cellsOf 27 = 6 := by kernel_rfl
  obtain ⟨cs, rfl, hsz⟩ := okWide_struct Try.underlying27 hv
  rw [c27] at hsz
  obtain ⟨l⟩ := cs
  match l, hsz with
  | [x0, x1, x2, x3, x4, x5], _ =>
    obtain ⟨fuel, hf⟩ := h
    obtain ⟨xs, n, _, _, _, hxs, hg⟩ := DataW.trod_struct Try.underlying27 hf
    have h0 : DataW.trod enc Try.prog w 0 (fun _ => true) true n 25 (([x0, x1, x2, x3, x4, x5].drop 0).take (Try.prog.cellsOf 25)) = xs[0]? := hg 0 _ rfl
    have h1 : DataW.trod enc Try.prog w 0 (fun _ => true) true n 3 (([x0, x1, x2, x3, x4, x5].drop 4).take (Try.prog.cellsOf 3)) = xs[1]? := hg 1 _ rfl
    have h2 : DataW.trod enc Try.prog w 0 (fun _ => true) true n 4 (([x0, x1, x2, x3, x4, x5].drop 5).take (Try.prog.cellsOf 4)) = xs[2]? := hg 2 _ rfl
    simp only [c25, c3, c4, List.drop_zero, List.take_succ_cons, List.take_zero, List.drop_succ_cons] at h0 h1 h2
    match xs, hxs with
    | [y0, y1, y2], _ =>
      simp only [List.getElem?_cons_zero, List.getElem?_cons_succ] at h0 h1 h2
      obtain ⟨sz, d, a, u, e0, r0, r1, r2, r3⟩ := open_layout h0
      obtain ⟨n1, e1, _, w1⟩ := DataW.trod_int Try.underlying3 h1
      obtain ⟨b2, e2, _⟩ := DataW.trod_bool Try.underlying4 h2
      simp only [List.cons.injEq, and_true] at e0 e1 e2
      obtain ⟨rfl, rfl, rfl, rfl⟩ := e0
      subst e1 e2
      exact ⟨sz, d, a, u, n1, b2, rfl, r0, r1, r2, r3, range_i64 w1⟩

set_option maxRecDepth 100000 in
theorem open_write {b0 : Nat} {v : Value} {d : DataW H} {p : List MemPlace} (hv : Value.okWide Try.prog w .any b0 51 v) (h : DataW.Trod enc Try.prog w 0 (fun _ => true) true 51 v d p) :
    ∃ (f : Int) (A : Option Addr) (l : List Int) (c : Nat), v = .agg #[.int .u64 f, .slice A l.length c] ∧ (0 ≤ f ∧ f ≤ 18446744073709551615) ∧ Sl w No A (by8 l) ∧ Byt l ∧ l.length ≤ 9223372036854775807 ∧ l.length ≤ c := by
  have c23 : Try.prog.cellsOf 23 = 1 := by kernel_rfl
  have c49 : Try.prog.cellsOf 49 = 1 := by kernel_rfl
  have c51 : Try.prog.cellsOf 51 = 2 := by kernel_rfl
  obtain ⟨cs, rfl, hsz⟩ := okWide_struct Try.underlying51 hv
  rw [c51] at hsz
  obtain ⟨l⟩ := cs
  match l, hsz with
  | [x0, x1], _ =>
    obtain ⟨fuel, hf⟩ := h
    obtain ⟨xs, n, _, _, _, hxs, hg⟩ := DataW.trod_struct Try.underlying51 hf
    have h0 : DataW.trod enc Try.prog w 0 (fun _ => true) true n 23 (([x0, x1].drop 0).take (Try.prog.cellsOf 23)) = xs[0]? := hg 0 _ rfl
    have h1 : DataW.trod enc Try.prog w 0 (fun _ => true) true n 49 (([x0, x1].drop 1).take (Try.prog.cellsOf 49)) = xs[1]? := hg 1 _ rfl
    simp only [c23, c49, List.drop_zero, List.take_succ_cons, List.take_zero, List.drop_succ_cons] at h0 h1
    match xs, hxs with
    | [y0, y1], _ =>
      simp only [List.getElem?_cons_zero, List.getElem?_cons_succ] at h0 h1
      obtain ⟨n0, e0, _, w0⟩ := DataW.trod_int Try.underlying23 h0
      obtain ⟨A, l, c, rfl, hs, hb, hle, hlc⟩ := open_bytes h1
      simp only [List.cons.injEq, and_true] at e0
      subst e0
      exact ⟨n0, A, l, c, rfl, range_u64 w0, hs, hb, hle, hlc⟩
end
end Go.Proofs.Ytognedbehplaeaa
