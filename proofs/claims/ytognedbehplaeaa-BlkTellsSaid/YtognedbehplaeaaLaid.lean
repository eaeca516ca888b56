/- Bytes laid one by one, pieces of a chain, spans at which two memories differ: plain law, no program in sight. -/
import Derived.Test.YtognedbehplaeaaSame
import Derived.Test.YtognedbehplaeaaRam
set_option linter.unusedVariables false
namespace Go.Proofs.Ytognedbehplaeaa
open Go.RowKit

/-- Addresses one behind the other. -/
def seqA (a : Int) (n : Nat) : List Int := (List.range n).map fun i : Nat => a + (i : Int)
theorem seqA_length (a : Int) (n : Nat) : (seqA a n).length = n := by simp [seqA]
theorem seqA_snoc (a : Int) (n : Nat) : seqA a (n + 1) = seqA a n ++ [a + n] := by simp [seqA, List.range_succ]
theorem seqA_at (a : Int) {n i : Nat} (h : i < n) : (seqA a n)[i]? = some (a + i) := by simp [seqA, h]
theorem mem_seqA {a x : Int} {n : Nat} : x ∈ seqA a n ↔ a ≤ x ∧ x < a + n := by
  unfold seqA
  rw [List.mem_map]
  constructor
  · rintro ⟨i, hi, rfl⟩
    have := List.mem_range.1 hi
    omega
  · rintro ⟨h1, h2⟩
    exact ⟨(x - a).toNat, List.mem_range.2 (by omega), by omega⟩
theorem seqA_drop (a : Int) (n j : Nat) : (seqA a n).drop j = seqA (a + j) (n - j) := by
  apply List.ext_getElem?
  intro i
  rw [List.getElem?_drop]
  by_cases h : j + i < n
  · rw [seqA_at a h, seqA_at _ (by omega)]
    congr 1
    omega
  · rw [List.getElem?_eq_none (by rw [seqA_length]; omega), List.getElem?_eq_none (by rw [seqA_length]; omega)]
theorem seqA_take (a : Int) (n j : Nat) : (seqA a n).take j = seqA a (min j n) := by
  apply List.ext_getElem?
  intro i
  rw [List.getElem?_take]
  by_cases h : i < min j n
  · rw [if_pos (by omega), seqA_at a (by omega), seqA_at a h]
  · by_cases h2 : i < j
    · rw [if_pos h2, List.getElem?_eq_none (by rw [seqA_length]; omega), List.getElem?_eq_none (by rw [seqA_length]; omega)]
    · rw [if_neg h2, List.getElem?_eq_none (by rw [seqA_length]; omega)]

/-- Bytes laid one by one. -/
def laid (g : Int → Int) (ps : List (Int × Int)) : Int → Int := ps.foldl (fun g p => upd g (p.1 - 2147483648) p.2) g
theorem laid_append (g : Int → Int) (ps qs : List (Int × Int)) : laid g (ps ++ qs) = laid (laid g ps) qs := by simp [laid]
theorem laid_snoc (g : Int → Int) (ps : List (Int × Int)) (p : Int × Int) : laid g (ps ++ [p]) = upd (laid g ps) (p.1 - 2147483648) p.2 := by simp [laid]
theorem laid_nil (g : Int → Int) : laid g [] = g := rfl
theorem laid_other {ps : List (Int × Int)} {o : Int} (h : ∀ p ∈ ps, p.1 - 2147483648 ≠ o) : ∀ g : Int → Int, laid g ps o = g o := by
  induction ps with
  | nil => intro g; rfl
  | cons p ps ih =>
    intro g
    show laid (upd g (p.1 - 2147483648) p.2) ps o = g o
    rw [ih (fun q hq => h q (by simp [hq]))]
    exact upd_ne _ _ (fun e => h p (by simp) e.symm)
theorem laid_byte {ps : List (Int × Int)} (h : ∀ p ∈ ps, 0 ≤ p.2 ∧ p.2 ≤ 255) : ∀ {g : Int → Int}, (∀ o, 0 ≤ g o ∧ g o ≤ 255) → ∀ o, 0 ≤ laid g ps o ∧ laid g ps o ≤ 255 := by
  induction ps with
  | nil => intro g hg; exact hg
  | cons p ps ih =>
    intro g hg
    refine ih (fun q hq => h q (by simp [hq])) (fun o => ?_)
    show 0 ≤ upd g (p.1 - 2147483648) p.2 o ∧ upd g (p.1 - 2147483648) p.2 o ≤ 255
    unfold upd
    by_cases ho : o = p.1 - 2147483648
    · rw [if_pos ho]; exact h p (by simp)
    · rw [if_neg ho]; exact hg o
theorem take_snoc_getD {l : List Int} {k : Nat} (h : k < l.length) : l.take (k + 1) = l.take k ++ [l.getD k 0] := by
  rw [List.take_add_one, List.getD, List.getElem?_eq_getElem h]; rfl
theorem laid_seq (g : Int → Int) (a : Int) (l : List Int) : laid g ((seqA a l.length).zip l) = wr g (a - 2147483648) l := by
  have key : ∀ k, k ≤ l.length → laid g ((seqA a k).zip (l.take k)) = wr g (a - 2147483648) (l.take k) := by
    intro k
    induction k with
    | zero => intro _; rw [List.take_zero, wr_nil]; rfl
    | succ k ih =>
      intro hk
      rw [wr_snoc g _ l k (by omega), ← ih (by omega), seqA_snoc, take_snoc_getD (by omega), List.zip_append (by rw [seqA_length, List.length_take]; omega)]
      show laid g (_ ++ [(a + k, l.getD k 0)]) = _
      rw [laid_snoc]
      congr 1
      omega
  have := key l.length (Nat.le_refl _)
  rwa [List.take_length] at this
theorem zip_append_left {α β : Type} (p q : List α) : ∀ D : List β, (p ++ q).zip D = p.zip D ++ q.zip (D.drop p.length) := by
  induction p with
  | nil => intro D; simp
  | cons x p ih =>
    intro D
    cases D with
    | nil => simp
    | cons y D => simp [ih D]
theorem laid_zip (g : Int → Int) (a : Int) (m : Nat) (D : List Int) : laid g ((seqA a m).zip D) = wr g (a - 2147483648) (D.take (min m D.length)) := by
  have hz : (seqA a m).zip D = ((seqA a m).take (min (seqA a m).length D.length)).zip (D.take (min (seqA a m).length D.length)) := List.zip_eq_zip_take_min
  rw [hz, seqA_length, seqA_take, show min (min m D.length) m = min m D.length from by omega]
  have el : (D.take (min m D.length)).length = min m D.length := by rw [List.length_take]; omega
  have := laid_seq g a (D.take (min m D.length))
  rw [el] at this
  exact this
/-- One piece more, as far as bytes and room go. -/
theorem scat_step (g : Int → Int) (xs : List Int) (a : Int) (m f : Nat) (D : List Int) :
    laid g (((xs ++ seqA a m).drop f).zip D) = wr (laid g ((xs.drop f).zip D)) (a + ((f - xs.length : Nat) : Int) - 2147483648) ((D.drop (xs.length - f)).take (min (m - (f - xs.length)) (D.length - (xs.length - f)))) := by
  rw [List.drop_append, zip_append_left, laid_append, List.length_drop, seqA_drop, laid_zip, List.length_drop]

/-! ### The pieces of a chain -/
/-- How many bytes are to be written, or read. -/
def segSum (b : Bool) (l : List Seg) : Int := (l.map fun s => if s.write = b then s.len else 0).sum
theorem segSum_nil (b : Bool) : segSum b [] = 0 := rfl
theorem segSum_snoc (b : Bool) (l : List Seg) (s : Seg) : segSum b (l ++ [s]) = segSum b l + (if s.write = b then s.len else 0) := by simp [segSum]
/-- All pieces lie in a memory. -/
structure SegsOk (size : Int) (l : List Seg) : Prop where
  each : ∀ s ∈ l, 0 ≤ s.len ∧ inside s.at_ s.len 2147483648 size = true
  len : l.length ≤ 100000
  size : 0 ≤ size ∧ size ≤ 268435456
theorem SegsOk.at_ {size : Int} {l : List Seg} (h : SegsOk size l) {s : Seg} (hs : s ∈ l) : 0 ≤ s.len ∧ s.len ≤ 268435456 ∧ 2147483648 ≤ s.at_ ∧ s.at_ + s.len ≤ 2147483648 + size := by
  have h1 := h.each s hs
  have h2 := inside_true h1.2
  have := h.size
  omega
theorem segSum_le {size : Int} (b : Bool) : ∀ {l : List Seg}, (∀ s ∈ l, 0 ≤ s.len ∧ s.len ≤ 268435456) → 0 ≤ segSum b l ∧ segSum b l ≤ l.length * 268435456
  | [], _ => by simp [segSum]
  | s :: l, h => by
    have h1 := h s (by simp)
    have h2 := segSum_le (size := size) b (l := l) (fun t ht => h t (by simp [ht]))
    have e : segSum b (s :: l) = (if s.write = b then s.len else 0) + segSum b l := by simp [segSum]
    rw [e, List.length_cons]
    split <;> omega
theorem SegsOk.sum {size : Int} {l : List Seg} (h : SegsOk size l) (b : Bool) (k : Nat) : 0 ≤ segSum b (l.take k) ∧ segSum b (l.take k) ≤ 26843545600000 := by
  have := segSum_le (size := size) b (l := l.take k) (fun s hs => by have := h.at_ (List.mem_of_mem_take hs); omega)
  have h2 := h.len
  have h3 : (l.take k).length ≤ l.length := by rw [List.length_take]; omega
  omega
theorem SegsOk.sum' {size : Int} {l : List Seg} (h : SegsOk size l) (b : Bool) : 0 ≤ segSum b l ∧ segSum b l ≤ 26843545600000 := by
  have := h.sum b l.length
  rwa [List.take_length] at this
theorem take_seg {l : List Seg} {k : Nat} {s : Seg} (h : l[k]? = some s) : l.take (k + 1) = l.take k ++ [s] := by rw [List.take_add_one, h]; rfl
/-- The addresses of the bytes that are to be written, or read, in order. -/
def addrs (b : Bool) (l : List Seg) : List Int := l.flatMap fun s => if s.write = b then seqA s.at_ s.len.toNat else []
theorem addrs_nil (b : Bool) : addrs b [] = [] := rfl
theorem addrs_snoc (b : Bool) (l : List Seg) (s : Seg) : addrs b (l ++ [s]) = addrs b l ++ (if s.write = b then seqA s.at_ s.len.toNat else []) := by simp [addrs]
theorem addrs_length (b : Bool) : ∀ {l : List Seg}, (∀ s ∈ l, 0 ≤ s.len) → ((addrs b l).length : Int) = segSum b l
  | [], _ => rfl
  | s :: l, h => by
    have h1 := h s (by simp)
    have h2 := addrs_length b (l := l) (fun t ht => h t (by simp [ht]))
    have e : segSum b (s :: l) = (if s.write = b then s.len else 0) + segSum b l := by simp [segSum]
    have e2 : addrs b (s :: l) = (if s.write = b then seqA s.at_ s.len.toNat else []) ++ addrs b l := by simp [addrs]
    rw [e, e2, List.length_append]
    split
    · rw [seqA_length]; omega
    · simp; omega
theorem SegsOk.addrs_length {size : Int} {l : List Seg} (h : SegsOk size l) (b : Bool) (k : Nat) : ((addrs b (l.take k)).length : Int) = segSum b (l.take k) :=
  Go.Proofs.Ytognedbehplaeaa.addrs_length b (fun s hs => (h.at_ (List.mem_of_mem_take hs)).1)
theorem mem_addrs {b : Bool} {l : List Seg} {a : Int} : a ∈ addrs b l ↔ ∃ s ∈ l, s.write = b ∧ s.at_ ≤ a ∧ a < s.at_ + s.len := by
  unfold addrs
  rw [List.mem_flatMap]
  constructor
  · rintro ⟨s, hs, h⟩
    by_cases hb : s.write = b
    · rw [if_pos hb, mem_seqA] at h
      exact ⟨s, hs, hb, h.1, by omega⟩
    · rw [if_neg hb] at h; simp at h
  · rintro ⟨s, hs, hb, h1, h2⟩
    refine ⟨s, hs, ?_⟩
    rw [if_pos hb, mem_seqA]
    omega
/-- Bytes written through a chain, from one on. -/
def scat (g : Int → Int) (l : List Seg) (f : Nat) (D : List Int) : Int → Int := laid g (((addrs true l).drop f).zip D)
theorem scat_nil (g : Int → Int) (f : Nat) (D : List Int) : scat g [] f D = g := by simp [scat, addrs, laid]
theorem scat_skip (g : Int → Int) (l : List Seg) (s : Seg) (f : Nat) (D : List Int) (h : s.write = false) : scat g (l ++ [s]) f D = scat g l f D := by
  unfold scat; rw [addrs_snoc, if_neg (by rw [h]; decide), List.append_nil]
theorem scat_seg (g : Int → Int) (l : List Seg) (s : Seg) (f : Nat) (D : List Int) (h : s.write = true) :
    scat g (l ++ [s]) f D = wr (scat g l f D) (s.at_ + ((f - (addrs true l).length : Nat) : Int) - 2147483648) ((D.drop ((addrs true l).length - f)).take (min (s.len.toNat - (f - (addrs true l).length)) (D.length - ((addrs true l).length - f)))) := by
  unfold scat; rw [addrs_snoc, if_pos h, scat_step]
theorem scat_other {g : Int → Int} {l : List Seg} {f : Nat} {D : List Int} {o : Int} (h : scat g l f D o ≠ g o) : 2147483648 + o ∈ addrs true l := by
  refine Classical.byContradiction fun hn => h ?_
  refine laid_other (fun p hp e => hn ?_) g
  have := List.mem_of_mem_drop (List.of_mem_zip (a := p.1) (b := p.2) hp).1
  rw [show 2147483648 + o = p.1 from by omega]
  exact this
theorem scat_byte {g : Int → Int} {l : List Seg} {f : Nat} {D : List Int} (hD : Byt D) (hg : ∀ o, 0 ≤ g o ∧ g o ≤ 255) : ∀ o, 0 ≤ scat g l f D o ∧ scat g l f D o ≤ 255 :=
  laid_byte (fun p hp => hD p.2 (List.of_mem_zip (a := p.1) (b := p.2) hp).2) hg
/-! ### Where two memories differ -/
def spanStep (most : Nat) (st : List (Int × Int) × Bool) (a : Int) : List (Int × Int) × Bool :=
  if st.2 = true then st else
    match st.1.getLast? with
    | some (x, n) => if x + n = a then (st.1.dropLast ++ [(x, n + 1)], false) else if most ≤ st.1.length then (st.1, true) else (st.1 ++ [(a, 1)], false)
    | none => if most ≤ st.1.length then (st.1, true) else (st.1 ++ [(a, 1)], false)
def spansOf (most : Nat) (l : List Int) : List (Int × Int) × Bool := l.foldl (spanStep most) ([], false)
theorem spansOf_snoc (most : Nat) (l : List Int) (a : Int) : spansOf most (l ++ [a]) = spanStep most (spansOf most l) a := by simp [spansOf]
theorem spanStep_done {most : Nat} {L : List (Int × Int)} {a : Int} : spanStep most (L, true) a = (L, true) := rfl
theorem spansOf_done {most : Nat} {L : List (Int × Int)} {l : List Int} (h : spansOf most l = (L, true)) (l' : List Int) : spansOf most (l ++ l') = (L, true) := by
  unfold spansOf at h ⊢
  rw [List.foldl_append, h]
  induction l' with
  | nil => rfl
  | cons a l' ih => exact ih
theorem spanStep_more {most : Nat} {L : List (Int × Int)} {x n a : Int} (h : x + n = a) : spanStep most (L ++ [(x, n)], false) a = (L ++ [(x, n + 1)], false) := by
  simp [spanStep, h]
theorem spanStep_new {most : Nat} {L : List (Int × Int)} {x n a : Int} (h : x + n ≠ a) (hm : (L ++ [(x, n)]).length < most) : spanStep most (L ++ [(x, n)], false) a = (L ++ [(x, n)] ++ [(a, 1)], false) := by
  unfold spanStep
  rw [if_neg (by simp)]
  simp only [List.getLast?_concat]
  rw [if_neg h, if_neg (by omega)]
theorem spanStep_full {most : Nat} {L : List (Int × Int)} {x n a : Int} (h : x + n ≠ a) (hm : most ≤ (L ++ [(x, n)]).length) : spanStep most (L ++ [(x, n)], false) a = (L ++ [(x, n)], true) := by
  unfold spanStep
  rw [if_neg (by simp)]
  simp only [List.getLast?_concat]
  rw [if_neg h, if_pos hm]
theorem spanStep_first {most : Nat} {a : Int} (hm : 0 < most) : spanStep most ([], false) a = ([(a, 1)], false) := by
  unfold spanStep
  rw [if_neg (by simp)]
  simp
  omega
theorem mem_spansOf {most : Nat} (l : List Int) : ∀ p ∈ (spansOf most l).1, 1 ≤ p.2 ∧ ∀ a, p.1 ≤ a → a < p.1 + p.2 → a ∈ l := by
  have key : ∀ (l' : List Int), (∀ p ∈ (spansOf most l'.reverse).1, 1 ≤ p.2 ∧ ∀ a, p.1 ≤ a → a < p.1 + p.2 → a ∈ l') := by
    intro l'
    induction l' with
    | nil => intro p hp; simp [spansOf] at hp
    | cons a l' ih =>
      rw [List.reverse_cons, spansOf_snoc]
      obtain ⟨⟨L, d⟩, hst⟩ : ∃ st, spansOf most l'.reverse = st := ⟨_, rfl⟩
      rw [hst] at ih ⊢
      cases d with
      | true => rw [spanStep_done]; intro p hp; exact ⟨(ih p hp).1, fun x h1 h2 => List.mem_cons_of_mem _ ((ih p hp).2 x h1 h2)⟩
      | false =>
        rcases List.eq_nil_or_concat L with rfl | ⟨L0, ⟨x, n⟩, rfl⟩
        · intro p hp
          unfold spanStep at hp
          simp at hp
          split at hp
          · simp at hp
          · simp at hp
            subst hp
            exact ⟨by simp, fun y h1 h2 => by simp at h1 h2; have : y = a := by omega
                                              simp [this]⟩
        · rw [List.concat_eq_append] at *
          by_cases hx : x + n = a
          · rw [spanStep_more hx]
            intro p hp
            rcases List.mem_append.1 hp with hp | hp
            · have := ih p (by simp [hp])
              exact ⟨this.1, fun y h1 h2 => List.mem_cons_of_mem _ (this.2 y h1 h2)⟩
            · obtain rfl := List.mem_singleton.1 hp
              have := ih (x, n) (by simp)
              refine ⟨by have := this.1; simp at this ⊢; omega, fun y h1 h2 => ?_⟩
              simp at h1 h2
              by_cases hy : y = a
              · simp [hy]
              · exact List.mem_cons_of_mem _ (this.2 y h1 (by simp; omega))
          · by_cases hm : (L0 ++ [(x, n)]).length < most
            · rw [spanStep_new hx hm]
              intro p hp
              rcases List.mem_append.1 hp with hp | hp
              · have := ih p hp
                exact ⟨this.1, fun y h1 h2 => List.mem_cons_of_mem _ (this.2 y h1 h2)⟩
              · obtain rfl := List.mem_singleton.1 hp
                exact ⟨by simp, fun y h1 h2 => by simp at h1 h2; have : y = a := by omega
                                                  simp [this]⟩
            · rw [spanStep_full hx (by omega)]
              intro p hp
              have := ih p hp
              exact ⟨this.1, fun y h1 h2 => List.mem_cons_of_mem _ (this.2 y h1 h2)⟩
  intro p hp
  have := key l.reverse
  rw [List.reverse_reverse] at this
  exact ⟨(this p hp).1, fun a h1 h2 => List.mem_reverse.1 ((this p hp).2 a h1 h2)⟩

/-- The addresses at which they differ. -/
def diffL (g g' : Int → Int) (m : Nat) : List Int := (List.range m).flatMap fun o : Nat => if g o = g' o then [] else [2147483648 + (o : Int)]
theorem diffL_zero (g g' : Int → Int) : diffL g g' 0 = [] := rfl
theorem diffL_same {g g' : Int → Int} {m : Nat} (h : g m = g' m) : diffL g g' (m + 1) = diffL g g' m := by
  unfold diffL; rw [List.range_succ, List.flatMap_append]; simp [h]
theorem diffL_other {g g' : Int → Int} {m : Nat} (h : g m ≠ g' m) : diffL g g' (m + 1) = diffL g g' m ++ [2147483648 + (m : Int)] := by
  unfold diffL; rw [List.range_succ, List.flatMap_append]; simp [h]
theorem diffL_skip {g g' : Int → Int} (m n : Nat) (h : ∀ i, i < n → g (m + i : Nat) = g' (m + i : Nat)) : diffL g g' (m + n) = diffL g g' m := by
  induction n with
  | zero => rfl
  | succ n ih => rw [← Nat.add_assoc, diffL_same (h n (by omega)), ih (fun i hi => h i (by omega))]
theorem diffL_add (g g' : Int → Int) (m n : Nat) : ∃ l, diffL g g' (m + n) = diffL g g' m ++ l := by
  unfold diffL
  rw [List.range_add, List.flatMap_append]
  exact ⟨_, rfl⟩
theorem mem_diffL {g g' : Int → Int} {m : Nat} {a : Int} (h : a ∈ diffL g g' m) : 2147483648 ≤ a ∧ a < 2147483648 + m ∧ g (a - 2147483648) ≠ g' (a - 2147483648) := by
  unfold diffL at h
  obtain ⟨o, ho, h⟩ := List.mem_flatMap.1 h
  have := List.mem_range.1 ho
  by_cases e : g o = g' o
  · simp [e] at h
  · simp [e] at h
    subst h
    refine ⟨by omega, by omega, ?_⟩
    rw [show 2147483648 + (o : Int) - 2147483648 = o from by omega]
    exact e
theorem diffL_nil {g : Int → Int} (m : Nat) : diffL g g m = [] := by unfold diffL; simp
def diffS (g g' : Int → Int) (m most : Nat) : List (Int × Int) := (spansOf most (diffL g g' m)).1
theorem diffS_nil (g : Int → Int) (m most : Nat) : diffS g g m most = [] := by unfold diffS; rw [diffL_nil]; rfl
end Go.Proofs.Ytognedbehplaeaa
