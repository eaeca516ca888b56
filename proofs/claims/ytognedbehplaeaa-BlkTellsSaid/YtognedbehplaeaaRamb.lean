/- A machine's memory: words loaded and stored, bytes read. -/
import Derived.Test.YtognedbehplaeaaRam
import Derived.Deep.OwnRows
set_option linter.unusedVariables false
namespace Go.Proofs.Ytognedbehplaeaa
open Go.RowKit

set_option maxRecDepth 100000 in
theorem load_yes (p : Nat) (F : Nat → Prop) (size : Int) (g : Int → Int) (a n : Int) (w : World) (h : RamAt w p F size g) (ha : 0 ≤ a ∧ a ≤ 18446744073709551615)
    (hn : sizedB n = true) (hi : inside a n 2147483648 size = true) :
    Calls Try.prog 33 #[.pointer (some ⟨p, 0, none⟩), .int .u64 a, .int .i64 n] w fun e w' => e = .returned (.tuple #[.int .u64 (le (rdl g (a - 2147483648) n.toNat)), .bool true]) ∧ w' = w := by
  have hin := inside_true hi
  have hs := h.size
  have hn' := sizedB_true hn
  have n0 : 1 ≤ n := by omega
  have n1 : n ≤ 8 := by omega
  go_enter Try.func33, Try.ntmps33
  go_wp2_with (first | (go_at_call 93; refine (has_calls _ _ _ _ _ _ _ h ha (by omega)).mono ?_; rintro e w1 ⟨rfl, h1⟩; subst h1) | (go_at_call 92; refine (sized_calls _ _).mono ?_; rintro e w1 ⟨rfl, h1⟩; subst h1))
  go_loop [8, 22] (fun v i => ∃ k : Nat, k ≤ n ∧ i = .int .i64 k ∧ v = .int .u64 (le (rdl g (a - 2147483648) k))) (fun _ i => (n - intOf i).toNat)
  case atStart => exact ⟨0, by omega, rfl, rfl⟩
  case round =>
    obtain ⟨k, hk, rfl, rfl⟩ := hrel
    by_cases hlt : (k : Int) < n
    · go_wp2_with (go_at_call 80; refine (get_calls _ _ _ _ _ _ h).mono ?_; rintro e w2 ⟨rfl, h2⟩; subst h2)
      go_round
      case rel => exact ⟨k + 1, by omega, by go_num, by rw [show (a + (k : Int) - 2147483648) % 18446744073709551616 = a - 2147483648 + k from by omega, load_step h.byte _ k (by omega)]⟩
      case measure => simp [intOf]; omega
    · have hkk : n = k := by omega
      subst hkk
      go_wp2
      go_ret2
      exact ⟨rfl, rfl⟩

/-- Does a word of n bytes at a lie in a memory? -/
def okw (a n size : Int) : Bool := sizedB n && inside a n 2147483648 size
/-- What a load answers. -/
def loaded (g : Int → Int) (a n size : Int) : Int := if okw a n size = true then le (rdl g (a - 2147483648) n.toNat) else 0

set_option maxRecDepth 100000 in
theorem load_calls (p : Nat) (F : Nat → Prop) (size : Int) (g : Int → Int) (a n : Int) (w : World) (h : RamAt w p F size g) (ha : 0 ≤ a ∧ a ≤ 18446744073709551615) :
    Calls Try.prog 33 #[.pointer (some ⟨p, 0, none⟩), .int .u64 a, .int .i64 n] w fun e w' => e = .returned (.tuple #[.int .u64 (loaded g a n size), .bool (okw a n size)]) ∧ w' = w := by
  cases hn : sizedB n with
  | false =>
    have e1 : okw a n size = false := by simp [okw, hn]
    have e2 : loaded g a n size = 0 := by simp [loaded, e1]
    rw [e1, e2]
    go_enter Try.func33, Try.ntmps33
    go_wp2_with (go_at_call 92; refine (sized_calls _ _).mono ?_; rintro e w1 ⟨rfl, h1⟩; subst h1)
    go_ret2
    exact ⟨rfl, rfl⟩
  | true =>
    have hn' := sizedB_true hn
    cases hi : inside a n 2147483648 size with
    | false =>
      have e1 : okw a n size = false := by simp [okw, hn, hi]
      have e2 : loaded g a n size = 0 := by simp [loaded, e1]
      rw [e1, e2]
      have n0 : 1 ≤ n := by omega
      have n1 : n ≤ 8 := by omega
      go_enter Try.func33, Try.ntmps33
      go_wp2_with (first | (go_at_call 93; refine (has_calls _ _ _ _ _ _ _ h ha (by omega)).mono ?_; rintro e w1 ⟨rfl, h1⟩; subst h1) | (go_at_call 92; refine (sized_calls _ _).mono ?_; rintro e w1 ⟨rfl, h1⟩; subst h1))
      go_ret2
      exact ⟨rfl, rfl⟩
    | true =>
      have e1 : okw a n size = true := by simp [okw, hn, hi]
      have e2 : loaded g a n size = le (rdl g (a - 2147483648) n.toNat) := by simp [loaded, e1]
      rw [e1, e2]
      exact load_yes p F size g a n w h ha hn hi

theorem store_byte (v : Int) (v0 : 0 ≤ v) (v1 : v ≤ 18446744073709551615) (k : Nat) : 0 ≤ v / 256 ^ k % 256 ∧ v / 256 ^ k % 256 ≤ 255 := by omega

set_option maxRecDepth 100000 in
theorem store_yes (p : Nat) (F : Nat → Prop) (size : Int) (g : Int → Int) (a n v : Int) (w : World) (h : RamAt w p F size g) (ha : 0 ≤ a ∧ a ≤ 18446744073709551615) (v0 : 0 ≤ v) (v1 : v ≤ 18446744073709551615)
    (hn : sizedB n = true) (hi : inside a n 2147483648 size = true) :
    Calls Try.prog 30 #[.pointer (some ⟨p, 0, none⟩), .int .u64 a, .int .i64 n, .int .u64 v] w (RamPost w p F size (.bool true) (wr g (a - 2147483648) (wby v n.toNat))) := by
  have hin := inside_true hi
  have hs := h.size
  have hn' := sizedB_true hn
  have n0 : 1 ≤ n := by omega
  have n1 : n ≤ 8 := by omega
  go_enter Try.func30, Try.ntmps30
  go_wp2_with (first | (go_at_call 93; refine (has_calls _ _ _ _ _ _ _ h ha (by omega)).mono ?_; rintro e w1 ⟨rfl, h1⟩; subst h1) | (go_at_call 92; refine (sized_calls _ _).mono ?_; rintro e w1 ⟨rfl, h1⟩; subst h1))
  go_loopw [22] (fun i wr_ => ∃ (k : Nat) (F' : Nat → Prop), k ≤ n ∧ i = .int .i64 k ∧ RamAt wr_ p F' size (wr g (a - 2147483648) (wby v k)) ∧ Change F F' w1 wr_) (fun i _ => (n - intOf i).toNat)
  case atStart => exact ⟨0, F, by omega, rfl, h.as (by simp [wby, wr_nil]), Change.refl _ _⟩
  case round =>
    obtain ⟨k, F', hk, rfl, hR, hC⟩ := hrel
    by_cases hlt : (k : Int) < n
    · have hpos : (a + (k : Int) - 2147483648) % 18446744073709551616 = a - 2147483648 + k := by omega
      have HP := hid hpos
      clear hpos
      go_wp2_with (go_at_call 94; refine (set_calls _ _ _ _ _ _ _ hR (by omega)).mono ?_; rintro e w2 ⟨F2, rfl, hR2, hC2⟩)
      go_roundw
      case rel =>
        refine ⟨k + 1, F2, by omega, by go_num, hR2.as ?_, hC.trans hC2⟩
        have hx := wr_snoc g (a - 2147483648) (wby v (k + 1)) k (by rw [wby_length]; omega)
        have e1 : (wby v (k + 1)).take k = wby v k := by rw [wby_snoc, List.take_append_of_le_length (by rw [wby_length]; omega), List.take_of_length_le (by rw [wby_length]; omega)]
        rw [wby_at v (by omega), e1, List.take_of_length_le (by rw [wby_length]; omega)] at hx
        rw [hx, HP.out, pow256']
      case measure => simp [intOf]; omega
    · have hkk : n = k := by omega
      subst hkk
      go_wp2_with (go_at_call 95; refine (wrote_calls _ _ _ _ _ _ _ hR).mono ?_; rintro e w2 ⟨rfl, h2⟩; subst h2)
      go_ret
      exact ⟨F', rfl, hR, hC⟩

set_option maxRecDepth 100000 in
theorem store_calls (p : Nat) (F : Nat → Prop) (size : Int) (g : Int → Int) (a n v : Int) (w : World) (h : RamAt w p F size g) (ha : 0 ≤ a ∧ a ≤ 18446744073709551615) (hv : 0 ≤ v ∧ v ≤ 18446744073709551615) :
    Calls Try.prog 30 #[.pointer (some ⟨p, 0, none⟩), .int .u64 a, .int .i64 n, .int .u64 v] w (RamPost w p F size (.bool (okw a n size)) (if okw a n size = true then wr g (a - 2147483648) (wby v n.toNat) else g)) := by
  cases hn : sizedB n with
  | false =>
    have e1 : okw a n size = false := by simp [okw, hn]
    rw [e1]
    refine calls_to (W := w) ?_ ⟨F, rfl, h, Change.refl _ _⟩
    go_enter Try.func30, Try.ntmps30
    go_wp2_with (go_at_call 92; refine (sized_calls _ _).mono ?_; rintro e w1 ⟨rfl, h1⟩; subst h1)
    go_ret
    exact ⟨rfl, rfl⟩
  | true =>
    have hn' := sizedB_true hn
    cases hi : inside a n 2147483648 size with
    | false =>
      have e1 : okw a n size = false := by simp [okw, hn, hi]
      rw [e1]
      have n0 : 1 ≤ n := by omega
      have n1 : n ≤ 8 := by omega
      refine calls_to (W := w) ?_ ⟨F, rfl, h, Change.refl _ _⟩
      go_enter Try.func30, Try.ntmps30
      go_wp2_with (first | (go_at_call 93; refine (has_calls _ _ _ _ _ _ _ h ha (by omega)).mono ?_; rintro e w1 ⟨rfl, h1⟩; subst h1) | (go_at_call 92; refine (sized_calls _ _).mono ?_; rintro e w1 ⟨rfl, h1⟩; subst h1))
      go_ret
      exact ⟨rfl, rfl⟩
    | true =>
      have e1 : okw a n size = true := by simp [okw, hn, hi]
      rw [e1, if_pos rfl]
      exact store_yes p F size g a n v w h ha hv.1 hv.2 hn hi

/-! ### Bytes that are read: a new list -/
theorem info_u8 : (Try.prog.info? 5).map (fun i => (i.zero, i.size, i.bytes)) = some (some (.int .u8 0), 1, 1) := by kernel_rfl
theorem made8 (n : Nat) : madeCells #[.int .u8 0] n = (by8 (List.replicate n 0)).toArray := by
  apply Array.ext'
  apply List.ext_getElem
  · simp [by8, madeCells]
  · intro i h1 h2
    simp [by8, madeCells, Nat.mod_one]
theorem run_make8 (kl kc : IntKind) (n : Nat) (h : n ≤ 281474976710656) (w : World) : (Instr.makeSlice 49 (.int kl (n : Int)) (.int kc (n : Int))).run Try.prog w = .ok (.slice (some ⟨w.heap.size, 0, none⟩) n n) (w.alloc (.cells (by8 (List.replicate n 0)).toArray 5)) := by
  rw [← made8]
  exact run_make_row' 49 5 (.int .u8 0) 1 Try.underlying49 info_u8 rfl kl kc n (by omega) (by omega) w

/-- What a call that reads bytes of a memory ends in: a new list of them. -/
def ReadPost (w : World) (l : List Int) (e : Ending) (w' : World) : Prop :=
  ∃ b : Nat, e = .returned (.tuple #[.slice (some ⟨b, 0, none⟩) l.length l.length, .bool true]) ∧ w.heap.size ≤ b ∧ w'.heap[b]? = some (.cells (by8 l).toArray 5 (0, 0)) ∧ Kept No w w'

theorem by8_set (l : List Int) (i : Nat) (x : Int) : (by8 l).toArray.setIfInBounds i (.int .u8 x) = (by8 (l.set i x)).toArray := by
  simp [by8, List.map_set]

/-- The first k bytes read, the others 0. -/
def part (l : List Int) (k : Nat) : List Int := l.take k ++ List.replicate (l.length - k) 0
theorem part_zero (l : List Int) : part l 0 = List.replicate l.length 0 := by simp [part]
theorem part_all (l : List Int) : part l l.length = l := by simp [part]
theorem part_length (l : List Int) {k : Nat} (h : k ≤ l.length) : (part l k).length = l.length := by simp [part]; omega
theorem part_snoc (l : List Int) {k : Nat} (h : k < l.length) : (part l k).set k (l.getD k 0) = part l (k + 1) := by
  apply List.ext_getElem
  · simp [part]; omega
  · intro i h1 h2
    simp only [part, List.getElem_set, List.getElem_append, List.length_take, List.getElem_take, List.getElem_replicate, List.getD, List.getElem?_eq_getElem h, Option.getD_some]
    by_cases e : k = i
    · subst e
      rw [if_pos rfl, dif_pos (by omega)]
    · rw [if_neg e]
      by_cases e2 : i < k
      · rw [dif_pos (by omega), dif_pos (by omega)]
      · rw [dif_neg (by omega), dif_neg (by omega)]

set_option maxRecDepth 100000 in
theorem read_yes (p : Nat) (F : Nat → Prop) (size : Int) (g : Int → Int) (a n : Int) (w : World) (h : RamAt w p F size g) (ha : 0 ≤ a ∧ a ≤ 18446744073709551615)
    (hn : 0 ≤ n ∧ n ≤ 18446744073709551615) (hi : inside a n 2147483648 size = true) :
    Calls Try.prog 34 #[.pointer (some ⟨p, 0, none⟩), .int .u64 a, .int .u64 n] w (ReadPost w (rdl g (a - 2147483648) n.toNat)) := by
  have hin := inside_true hi
  have hs := h.size
  obtain ⟨hn0, hn1⟩ := hn
  obtain ⟨m, rfl⟩ := Int.eq_ofNat_of_zero_le hn0
  rw [Int.toNat_natCast]
  have hmk := run_make8 .u64 .u64 m (by omega)
  have hlen := rdl_length g (a - 2147483648) m
  generalize hl : rdl g (a - 2147483648) m = l at *
  have HL := hid hl
  clear hl
  subst hlen
  go_enter Try.func34, Try.ntmps34
  go_wp2_with (go_at_call 93; refine (has_calls _ _ _ _ _ _ _ h ha (by omega)).mono ?_; rintro e w1 ⟨rfl, h1⟩; subst h1)
  go_loopw [19] (fun i wr_ => ∃ k : Nat, k ≤ l.length ∧ i = .int .i64 k ∧ wr_.heap[w1.heap.size]? = some (.cells (by8 (part l k)).toArray 5 (0, 0)) ∧ Kept No w1 wr_) (fun i _ => l.length - (intOf i).toNat)
  case atStart => exact ⟨0, by omega, rfl, by rw [part_zero]; exact at_new _ _, (Kept.refl _ _).alloc _⟩
  case round =>
    obtain ⟨k, hk, rfl, hB, hK⟩ := hrel
    by_cases hlt : k < l.length
    · have hR := h.no hK
      have hf := frozen_of hB k
      have hcell : wr.cell? ⟨w1.heap.size, k, none⟩ = some (.int .u8 ((part l k).getD k 0)) := by
        rw [cells_of hB, List.getElem?_toArray]
        exact by8_at (by rw [part_length l (by omega)]; exact hlt)
      have hx := l.getD k 0
      have hpos : (a + (k : Int) - 2147483648) % 18446744073709551616 = a - 2147483648 + k := by omega
      have hg : g ((a + (k : Int) - 2147483648) % 18446744073709551616) = l.getD k 0 := by
        rw [hpos, ← HL.out, List.getD, rdl_at g _ (by rw [← HL.out, rdl_length] at hlt; exact hlt)]; rfl
      have HG := hid hg
      have HB := hid hB
      clear hpos hg hx hB
      go_wp2_with (go_at_call 80; refine (get_calls _ _ _ _ _ _ hR).mono ?_; rintro e w2 ⟨rfl, h2⟩; subst h2)
      go_roundw
      case rel =>
        refine ⟨k + 1, by omega, by go_num, ?_, hK.set (.inr (Nat.le_refl _)) _⟩
        rw [at_set HB.out, HG.out, by8_set, part_snoc l hlt]
      case measure => simp [intOf]; omega
    · have hkk : k = l.length := by omega
      subst hkk
      rw [part_all] at hB
      have HB := hid hB
      clear hB
      obtain ⟨r, hc⟩ := (h.no hK).cells
      go_wp2
      go_ret2
      exact ⟨w1.heap.size, rfl, Nat.le_refl _, HB.out, hK⟩
end Go.Proofs.Ytognedbehplaeaa
