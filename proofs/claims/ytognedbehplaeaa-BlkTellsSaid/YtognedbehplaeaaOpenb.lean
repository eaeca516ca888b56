/- A start's argument, opened. -/
import Derived.Test.YtognedbehplaeaaOpen
set_option linter.unusedVariables false
namespace Go.Proofs.Ytognedbehplaeaa
open Go.ChangeShapes Go.WideShapes Go.ChangeAt Go.RowKit Go.Deep
section
variable {H : Type} {enc : TypeId × Value → H} {w : World}
set_option maxRecDepth 100000 in
theorem open_start {b0 : Nat} {v : Value} {d : DataW H} {p : List MemPlace} (hv : Value.okWide Try.prog w .any b0 67 v) (h : DataW.Trod enc Try.prog w 0 (fun _ => true) true 67 v d p) :
    ∃ (lk : Bool) (A : Option Addr) (l : List Int) (c : Nat) (f : Int) (s : ByteArray), v = .agg #[.bool lk, .slice A l.length c, .int .u64 f, .string s] ∧ Sl w No A (by8 l) ∧ Byt l ∧ l.length ≤ c ∧ (0 ≤ f ∧ f ≤ 18446744073709551615) ∧ l.length ≤ 9223372036854775807 := by
  have c4 : Try.prog.cellsOf 4 = 1 := by kernel_rfl
  have c23 : Try.prog.cellsOf 23 = 1 := by kernel_rfl
  have c49 : Try.prog.cellsOf 49 = 1 := by kernel_rfl
  have c9 : Try.prog.cellsOf 9 = 1 := by kernel_rfl
  have c67 : Try.prog.cellsOf 67 = 4 := by kernel_rfl
  obtain ⟨cs, rfl, hsz⟩ := okWide_struct Try.underlying67 hv
  rw [c67] at hsz
  obtain ⟨l⟩ := cs
  match l, hsz with
  | [x0, x1, x2, x3], _ =>
    obtain ⟨fuel, hf⟩ := h
    obtain ⟨xs, n, _, _, _, hxs, hg⟩ := DataW.trod_struct Try.underlying67 hf
    have h0 : DataW.trod enc Try.prog w 0 (fun _ => true) true n 4 (([x0, x1, x2, x3].drop 0).take (Try.prog.cellsOf 4)) = xs[0]? := hg 0 _ rfl
    have h1 : DataW.trod enc Try.prog w 0 (fun _ => true) true n 49 (([x0, x1, x2, x3].drop 1).take (Try.prog.cellsOf 49)) = xs[1]? := hg 1 _ rfl
    have h2 : DataW.trod enc Try.prog w 0 (fun _ => true) true n 23 (([x0, x1, x2, x3].drop 2).take (Try.prog.cellsOf 23)) = xs[2]? := hg 2 _ rfl
    have h3 : DataW.trod enc Try.prog w 0 (fun _ => true) true n 9 (([x0, x1, x2, x3].drop 3).take (Try.prog.cellsOf 9)) = xs[3]? := hg 3 _ rfl
    simp only [c4, c23, c49, c9, List.drop_zero, List.take_succ_cons, List.take_zero, List.drop_succ_cons] at h0 h1 h2 h3
    match xs, hxs with
    | [y0, y1, y2, y3], _ =>
      simp only [List.getElem?_cons_zero, List.getElem?_cons_succ] at h0 h1 h2 h3
      obtain ⟨lk, e0, _⟩ := DataW.trod_bool Try.underlying4 h0
      obtain ⟨A, l, c, rfl, hs, hb, hle, hlc⟩ := open_bytes h1
      obtain ⟨f, e2, _, w2⟩ := DataW.trod_int Try.underlying23 h2
      obtain ⟨s, e3, _⟩ := DataW.trod_string Try.underlying9 h3
      simp only [List.cons.injEq, and_true] at e0 e2 e3
      subst e0 e2 e3
      exact ⟨lk, A, l, c, f, s, rfl, hs, hb, hlc, range_u64 w2, hle⟩
end
end Go.Proofs.Ytognedbehplaeaa
