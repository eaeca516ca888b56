/- A machine's memory in the model's heap: what it holds, and what its methods do to it. -/
import Derived.Test.YtognedbehplaeaaPages
import Derived.Test.YtognedbehplaeaaWord
import Derived.KernelRfl
set_option linter.unusedVariables false
namespace Go.Proofs.Ytognedbehplaeaa
open Go.RowKit

/-- A memory of so many bytes at p: g tells the byte at each place (from the memory's first on). -/
def RamAt (w : World) (p : Nat) (F : Nat → Prop) (size : Int) (g : Int → Int) : Prop :=
  ∃ r es clock, w.heap[p]? = some (.cells #[.int .u64 size, .map (some r), .pointer none] 175 (0, 0)) ∧ (0 ≤ size ∧ size ≤ 268435456) ∧ F p ∧ (∀ b, F b → b < w.heap.size) ∧ (∀ o, 0 ≤ g o ∧ g o ≤ 255) ∧ PagesAt w F 178 4096 r g es clock

theorem zero_page (w : World) : (zeroValue 176).run Try.prog w = .ok (.pointer none) w := by kernel_rfl

set_option maxRecDepth 100000 in
theorem get_calls (p : Nat) (F : Nat → Prop) (size : Int) (g : Int → Int) (at_ : Int) (w : World) (h : RamAt w p F size g) :
    Calls Try.prog 80 #[.pointer (some ⟨p, 0, none⟩), .int .u64 at_] w fun e w' => e = .returned (.int .u8 (g ((at_ - 2147483648) % 18446744073709551616))) ∧ w' = w := by
  obtain ⟨r, es, clock, hp, -, -, -, hg, hP⟩ := h
  have hc : ∀ i, w.cell? ⟨p, i, none⟩ = (#[.int .u64 size, .map (some r), .pointer none] : Array Value)[i]? := fun i => cell_of_row w p i _ _ _ hp
  obtain ⟨o, ho⟩ : ∃ o, o = (at_ - 2147483648) % 18446744073709551616 := ⟨_, rfl⟩
  rw [← ho]
  have hw : IntKind.u64.wrap (at_ - 2147483648) = o := by rw [IntKind.wrap_u64, ho]
  have o0 : 0 ≤ o := by omega
  have o1 : o ≤ 18446744073709551615 := by omega
  clear ho
  have hl := run_look_word (P := Try.prog) (t := 172) (kt := 23) (et := 176) Try.underlying172 Try.underlying23 zero_page hP.map hP.words (o / 4096)
  cases hx : entryOf es.toList (o / 4096) with
  | none =>
    have hr := hP.rest (o / 4096) (by omega) hx (o % 4096).toNat (by omega)
    rw [show o / 4096 * (4096 : Nat) + ((o % 4096).toNat : Nat) = o from by omega] at hr
    rw [hx] at hl
    rw [hr]
    clear hx hP hr hp
    go_enter Try.func80, Try.ntmps80
    go_wp2
    go_ret
    exact ⟨rfl, rfl⟩
  | some v =>
    obtain ⟨b, cs, rfl, -, hb, -, hcs⟩ := hP.found hx
    rw [hx] at hl
    have hv := hcs (o % 4096).toNat (by omega)
    rw [show o / 4096 * (4096 : Nat) + ((o % 4096).toNat : Nat) = o from by omega] at hv
    have hcb : w.cell? ⟨b, (o % 4096).toNat, none⟩ = some (.int .u8 (g o)) := (cell_of_row w b _ _ _ _ hb).trans hv
    have m0 : 0 ≤ o % 4096 := by omega
    have m1 : o % 4096 < 4096 := by omega
    clear hx hP hp hcs hv hb
    go_enter Try.func80, Try.ntmps80
    go_wp2
    go_ret
    exact ⟨rfl, rfl⟩

theorem RamAt.lt {w : World} {p : Nat} {F : Nat → Prop} {size : Int} {g : Int → Int} (h : RamAt w p F size g) : ∀ b, F b → b < w.heap.size := by
  obtain ⟨_, _, _, _, _, _, h, _⟩ := h
  exact h
theorem RamAt.size {w : World} {p : Nat} {F : Nat → Prop} {size : Int} {g : Int → Int} (h : RamAt w p F size g) : 0 ≤ size ∧ size ≤ 268435456 := by
  obtain ⟨_, _, _, _, h, _⟩ := h
  exact h
theorem RamAt.byte {w : World} {p : Nat} {F : Nat → Prop} {size : Int} {g : Int → Int} (h : RamAt w p F size g) : ∀ o, 0 ≤ g o ∧ g o ≤ 255 := by
  obtain ⟨_, _, _, _, _, _, _, h, _⟩ := h
  exact h
theorem RamAt.cells {w : World} {p : Nat} {F : Nat → Prop} {size : Int} {g : Int → Int} (h : RamAt w p F size g) : ∃ r, ∀ i, w.cell? ⟨p, i, none⟩ = (#[.int .u64 size, .map (some r), .pointer none] : Array Value)[i]? := by
  obtain ⟨r, _, _, hp, _⟩ := h
  exact ⟨r, fun i => cells_of hp i⟩
/-- What leaves the blocks of F alone leaves the memory. -/
theorem RamAt.stay {w w' : World} {p : Nat} {F : Nat → Prop} {size : Int} {g : Int → Int} (h : RamAt w p F size g) (hs : w.heap.size ≤ w'.heap.size) (hk : ∀ b, F b → w'.heap[b]? = w.heap[b]?) : RamAt w' p F size g := by
  obtain ⟨r, es, clock, hp, hsz, hF, hlt, hg, hP⟩ := h
  exact ⟨r, es, clock, (hk p hF).trans hp, hsz, hF, fun b hb => Nat.lt_of_lt_of_le (hlt b hb) hs, hg, hP.stay hk⟩
theorem RamAt.kept {w w' : World} {p : Nat} {F G : Nat → Prop} {size : Int} {g : Int → Int} (h : RamAt w p F size g) (k : Kept G w w') (hd : ∀ b, F b → ¬ G b) : RamAt w' p F size g :=
  h.stay k.size (fun b hb => k.block b (h.lt b hb) (hd b hb))
theorem RamAt.no {w w' : World} {p : Nat} {F : Nat → Prop} {size : Int} {g : Int → Int} (h : RamAt w p F size g) (k : Kept No w w') : RamAt w' p F size g := h.kept k (fun _ _ h => h)

theorem zero_cells : Try.zeroCells178.size = 4096 ∧ ∀ i : Nat, i < 4096 → Try.zeroCells178[i]? = some (.int .u8 0) := by
  have h : Try.zeroCells178 = Array.replicate 4096 (.int .u8 0) := by kernel_rfl
  rw [h]
  exact ⟨by simp, fun i hi => by simp [hi]⟩

theorem sized_calls (n : Int) (w : World) : Calls Try.prog 92 #[.int .i64 n] w fun e w' => e = .returned (.bool (sizedB n)) ∧ w' = w := by
  by_cases h1 : n = 1
  · subst h1
    go_enter Try.func92, Try.ntmps92
    go_wp2
    go_ret
    exact ⟨rfl, rfl⟩
  by_cases h2 : n = 2
  · subst h2
    go_enter Try.func92, Try.ntmps92
    go_wp2
    go_ret
    exact ⟨rfl, rfl⟩
  by_cases h4 : n = 4
  · subst h4
    go_enter Try.func92, Try.ntmps92
    go_wp2
    go_ret
    exact ⟨rfl, rfl⟩
  by_cases h8 : n = 8
  · subst h8
    go_enter Try.func92, Try.ntmps92
    go_wp2
    go_ret
    exact ⟨rfl, rfl⟩
  · have e1 : (n == 1) = false := by simp [h1]
    have e2 : (n == 2) = false := by simp [h2]
    have e4 : (n == 4) = false := by simp [h4]
    have e8 : (n == 8) = false := by simp [h8]
    have e : sizedB n = false := decide_eq_false (by omega)
    rw [e]
    clear h1 h2 h4 h8 e
    go_enter Try.func92, Try.ntmps92
    go_wp2
    go_ret
    exact ⟨rfl, rfl⟩

set_option maxRecDepth 100000 in
theorem has_calls (p : Nat) (F : Nat → Prop) (size : Int) (g : Int → Int) (a n : Int) (w : World) (h : RamAt w p F size g) (ha : 0 ≤ a ∧ a ≤ 18446744073709551615) (hn : 0 ≤ n ∧ n ≤ 18446744073709551615) :
    Calls Try.prog 93 #[.pointer (some ⟨p, 0, none⟩), .int .u64 a, .int .u64 n] w fun e w' => e = .returned (.bool (inside a n 2147483648 size)) ∧ w' = w := by
  obtain ⟨r, hc⟩ := h.cells
  have hs := h.size
  clear h
  go_enter Try.func93, Try.ntmps93
  go_wp2_with (go_at_call 137; refine (within_calls _ _ _ _ _ ha hn (by omega) (by omega)).mono ?_; rintro e w' ⟨rfl, rfl⟩)
  go_ret
  exact ⟨rfl, rfl⟩

theorem wrote_calls (p : Nat) (F : Nat → Prop) (size : Int) (g : Int → Int) (a n : Int) (w : World) (h : RamAt w p F size g) :
    Calls Try.prog 95 #[.pointer (some ⟨p, 0, none⟩), .int .u64 a, .int .u64 n] w fun e w' => e = .returned (.tuple #[]) ∧ w' = w := by
  obtain ⟨r, hc⟩ := h.cells
  clear h
  go_enter Try.func95, Try.ntmps95
  go_wp2
  go_returns
  exact ⟨rfl, rfl⟩

/-- What a call that changes a memory ends in: its answer, and what the memory holds then. -/
def RamPost (w : World) (p : Nat) (F : Nat → Prop) (size : Int) (v : Value) (g : Int → Int) (e : Ending) (w' : World) : Prop := ∃ F', e = .returned v ∧ RamAt w' p F' size g ∧ Change F F' w w'

set_option maxRecDepth 100000 in
theorem set_calls (p : Nat) (F : Nat → Prop) (size : Int) (g : Int → Int) (at_ v : Int) (w : World) (h : RamAt w p F size g) (hv : 0 ≤ v ∧ v ≤ 255) :
    Calls Try.prog 94 #[.pointer (some ⟨p, 0, none⟩), .int .u64 at_, .int .u8 v] w (RamPost w p F size (.tuple #[]) (upd g ((at_ - 2147483648) % 18446744073709551616) v)) := by
  obtain ⟨r, es, clock, hp, hsz, hFp, hlt, hg, hP⟩ := h
  have hc : ∀ i, w.cell? ⟨p, i, none⟩ = (#[.int .u64 size, .map (some r), .pointer none] : Array Value)[i]? := fun i => cells_of hp i
  obtain ⟨o, ho⟩ : ∃ o, o = (at_ - 2147483648) % 18446744073709551616 := ⟨_, rfl⟩
  rw [← ho]
  have hw : IntKind.u64.wrap (at_ - 2147483648) = o := by rw [IntKind.wrap_u64, ho]
  have o0 : 0 ≤ o := by omega
  have o1 : o ≤ 18446744073709551615 := by omega
  have hpl : o / 4096 * (4096 : Nat) + ((o % 4096).toNat : Nat) = o := by omega
  have m0 : 0 ≤ o % 4096 := by omega
  have m1 : o % 4096 < 4096 := by omega
  have hg' : ∀ x, 0 ≤ upd g o v x ∧ upd g o v x ≤ 255 := fun x => by unfold upd; split; exact hv; exact hg x
  clear ho
  have hl := run_look_word (P := Try.prog) (t := 172) (kt := 23) (et := 176) Try.underlying172 Try.underlying23 zero_page hP.map hP.words (o / 4096)
  cases hx : entryOf es.toList (o / 4096) with
  | none =>
    have hr := hP.rest (o / 4096) (by omega) hx
    rw [hx] at hl
    by_cases hv0 : v = 0
    · subst hv0
      have e : upd g o 0 = g := by
        have := hr (o % 4096).toNat (by omega)
        rw [hpl] at this
        rw [← this, upd_id]
      refine calls_to (W := w) ?_ ⟨F, rfl, by rw [e]; exact ⟨r, es, clock, hp, hsz, hFp, hlt, hg, hP⟩, Change.refl _ _⟩
      clear hx hP hr hp hlt hg hg' e hFp
      go_enter Try.func94, Try.ntmps94
      go_wp2
      go_returns
      exact ⟨rfl, rfl⟩
    · have hvb : (v == 0) = false := by simp [hv0]
      have hpl' := lt_of hp
      have hrl := lt_of hP.map
      have hpr := ne_map hp hP.map
      have hp1 := at_alloc hp (.cells Try.zeroCells178 178)
      have hc1 : ∀ i, (w.alloc (.cells Try.zeroCells178 178)).cell? ⟨p, i, none⟩ = (#[.int .u64 size, .map (some r), .pointer none] : Array Value)[i]? := fun i => cells_of hp1 i
      have hst := run_store_new (P := Try.prog) (t := 172) (kt := 23) (et := 176) Try.underlying172 Try.underlying23 (at_alloc hP.map (.cells Try.zeroCells178 178)) hP.words (o / 4096) (.pointer (some ⟨w.heap.size, 0, none⟩)) hx
      have hnew := hP.page_new hlt (Z := Try.zeroCells178) zero_cells.1 (x := o / 4096) (by omega) (by omega) (fun i hi => by rw [hr i hi]; exact zero_cells.2 i hi) hx
      have hE : entryOf (es.push ⟨.int .u64 (o / 4096), .pointer (some ⟨w.heap.size, 0, none⟩), clock⟩).toList (o / 4096) = some (.pointer (some ⟨w.heap.size, 0, none⟩)) := by
        rw [Array.toList_push, entryOf_append_none _ _ hx]; simp [entryOf]
      have hset := hnew.set_old hE (i := (o % 4096).toNat) (by omega) v
      rw [hpl] at hset
      have hq : (put (w.alloc (.cells Try.zeroCells178 178)) r (.map (es.push ⟨.int .u64 (o / 4096), .pointer (some ⟨w.heap.size, 0, none⟩), clock⟩) (clock + 1))).heap[w.heap.size]? = some (.cells Try.zeroCells178 178 (0, 0)) := (put_other _ _ _ _ (by omega)).trans (at_new w _)
      have hz := (cells_of hq (o % 4096).toNat).trans (zero_cells.2 (o % 4096).toNat (by omega))
      have hf := frozen_of hq
      have hfin : RamAt ((put (w.alloc (.cells Try.zeroCells178 178)) r (.map (es.push ⟨.int .u64 (o / 4096), .pointer (some ⟨w.heap.size, 0, none⟩), clock⟩) (clock + 1))).setCell ⟨w.heap.size, (o % 4096).toNat, none⟩ (.int .u8 v)) p (Or2 F (· = w.heap.size)) size (upd g o v) :=
        ⟨r, _, _, at_far ((put_other _ _ _ _ hpr).trans hp1) (by simp; omega) _, hsz, .inl hFp, fun b hb => by
          have e : ((put (w.alloc (.cells Try.zeroCells178 178)) r (.map (es.push ⟨.int .u64 (o / 4096), .pointer (some ⟨w.heap.size, 0, none⟩), clock⟩) (clock + 1))).setCell ⟨w.heap.size, (o % 4096).toNat, none⟩ (.int .u8 v)).heap.size = w.heap.size + 1 := by simp [World.setCell, put_size]
          rw [e]
          rcases hb with hb | hb
          · have := hlt b hb; omega
          · have : b = w.heap.size := hb; omega, hg', hset⟩
      have hch : Change F (Or2 F (· = w.heap.size)) w ((put (w.alloc (.cells Try.zeroCells178 178)) r (.map (es.push ⟨.int .u64 (o / 4096), .pointer (some ⟨w.heap.size, 0, none⟩), clock⟩) (clock + 1))).setCell ⟨w.heap.size, (o % 4096).toNat, none⟩ (.int .u8 v)) :=
        ⟨(((Kept.refl F w).alloc _).put (.inl hP.inF) _).set (.inr (Nat.le_refl _)) _, fun b hb => .inl hb, fun b hb => hb.imp id (fun h => by have : b = w.heap.size := h; omega)⟩
      refine calls_to ?_ ⟨_, rfl, hfin, hch⟩
      clear hx hP hp hp1 hq hr hnew hE hset hfin hch hlt hg hg' hFp hpr hv0 hv hpl
      go_enter Try.func94, Try.ntmps94
      go_wp2
      go_returns
      exact ⟨rfl, rfl⟩
  | some u =>
    obtain ⟨b, cs, rfl, hFb, hb, -, hcs⟩ := hP.found hx
    rw [hx] at hl
    have hset := hP.set_old hx (i := (o % 4096).toNat) (by omega) v
    rw [hpl] at hset
    have hz := (cells_of hb (o % 4096).toNat).trans (hcs _ (by omega))
    have hf := frozen_of hb
    have hpb := ne_of hp hb (by decide)
    refine calls_to (W := w.setCell ⟨b, (o % 4096).toNat, none⟩ (.int .u8 v)) ?_ ⟨F, rfl, ⟨r, es, clock, at_far hp hpb _, hsz, hFp, fun b hb => by simpa [World.setCell] using hlt b hb, hg', hset⟩, (Kept.refl F w).set (.inl hFb) _, fun _ h => h, fun _ h => .inl h⟩
    clear hx hP hp hb hset hlt hg hg' hFp hFb hpb hcs hpl
    go_enter Try.func94, Try.ntmps94
    go_wp2
    go_returns
    exact ⟨rfl, rfl⟩

/-- Bytes laid over what was there, from a place on. -/
def wr (g : Int → Int) (o : Int) (l : List Int) : Int → Int := fun a => if o ≤ a ∧ a < o + l.length then l.getD (a - o).toNat 0 else g a
theorem wr_in {g : Int → Int} {o a : Int} {l : List Int} (h : o ≤ a ∧ a < o + l.length) : wr g o l a = l.getD (a - o).toNat 0 := if_pos h
theorem wr_out {g : Int → Int} {o a : Int} {l : List Int} (h : ¬ (o ≤ a ∧ a < o + l.length)) : wr g o l a = g a := if_neg h
theorem wr_nil (g : Int → Int) (o : Int) : wr g o [] = g := by
  funext a
  exact wr_out (by intro h; have := h.2; simp at this; omega)
theorem getD_take {l : List Int} {k j : Nat} (h : j < k) : (l.take k).getD j 0 = l.getD j 0 := by
  simp only [List.getD, List.getElem?_take]
  rw [if_pos h]
theorem wr_snoc (g : Int → Int) (o : Int) (l : List Int) (k : Nat) (hk : k < l.length) : wr g o (l.take (k + 1)) = upd (wr g o (l.take k)) (o + k) (l.getD k 0) := by
  have e1 : (l.take (k + 1)).length = k + 1 := by simp; omega
  have e2 : (l.take k).length = k := by simp; omega
  funext a
  by_cases h : a = o + k
  · subst h
    rw [upd_at, wr_in (by omega), show (o + (k : Int) - o).toNat = k from by omega, getD_take (by omega)]
  · rw [upd_ne _ _ h]
    by_cases h2 : o ≤ a ∧ a < o + k
    · rw [wr_in (by omega), wr_in (by omega), getD_take (by omega), getD_take (by omega)]
    · rw [wr_out (by omega), wr_out (by omega)]
theorem wr_byte {g : Int → Int} {o : Int} {l : List Int} (hg : ∀ a, 0 ≤ g a ∧ g a ≤ 255) (hl : Byt l) : ∀ a, 0 ≤ wr g o l a ∧ wr g o l a ≤ 255 := fun a => by
  unfold wr
  split
  · exact hl.at_ _
  · exact hg a

/-- What is left of a memory that is the same from all sides. -/
theorem RamAt.as {w : World} {p : Nat} {F : Nat → Prop} {size : Int} {g g' : Int → Int} (h : RamAt w p F size g) (e : g = g') : RamAt w p F size g' := e ▸ h

set_option maxRecDepth 100000 in
theorem write_calls (p : Nat) (F : Nat → Prop) (size : Int) (g : Int → Int) (a : Int) (A : Option Addr) (l : List Int) (c : Nat) (w : World) (h : RamAt w p F size g) (ha : 0 ≤ a ∧ a ≤ 18446744073709551615)
    (hl : Sl w F A (by8 l)) (hb : Byt l) (hn : l.length ≤ 140737488355328) :
    Calls Try.prog 31 #[.pointer (some ⟨p, 0, none⟩), .int .u64 a, .slice A l.length c] w (RamPost w p F size (.bool (inside a l.length 2147483648 size)) (if inside a l.length 2147483648 size = true then wr g (a - 2147483648) l else g)) := by
  cases hi : inside a l.length 2147483648 size with
  | false =>
    refine calls_to (W := w) ?_ ⟨F, rfl, h, Change.refl _ _⟩
    go_enter Try.func31, Try.ntmps31
    go_wp2_with (go_at_call 93; refine (has_calls _ _ _ _ _ _ _ h ha (by omega)).mono ?_; rintro e w' ⟨rfl, rfl⟩)
    go_ret
    exact ⟨rfl, rfl⟩
  | true =>
    have hin := inside_true hi
    have hs := h.size
    go_enter Try.func31, Try.ntmps31
    go_wp2_with (go_at_call 93; refine (has_calls _ _ _ _ _ _ _ h ha (by omega)).mono ?_; rintro e w1 ⟨rfl, h1⟩; subst h1)
    go_loopw [18] (fun i wr_ => ∃ (k : Nat) (F' : Nat → Prop), k ≤ l.length ∧ i = .int .i64 k ∧ RamAt wr_ p F' size (wr g (a - 2147483648) (l.take k)) ∧ Change F F' w1 wr_) (fun i _ => l.length - (intOf i).toNat)
    case atStart => exact ⟨0, F, by omega, rfl, h.as (by simp [wr_nil]), Change.refl _ _⟩
    case round =>
      obtain ⟨k, F', hk, rfl, hR, hC⟩ := hrel
      by_cases hlt : k < l.length
      · obtain ⟨bb, oo, rfl, -, -, hcell⟩ := (hl.change hC).at_ (by8_at hlt)
        have hx := hb.at_ k
        have hsn := wr_snoc g (a - 2147483648) l k hlt
        have HS := hid hsn
        clear hsn
        have hpos : (a + (k : Int) - 2147483648) % 18446744073709551616 = a - 2147483648 + k := by omega
        have HP := hid hpos
        clear hpos
        generalize hv : l.getD k 0 = v at *
        have HV := hid hv
        clear hv
        go_wp2_with (go_at_call 94; refine (set_calls _ _ _ _ _ _ _ hR hx).mono ?_; rintro e w2 ⟨F2, rfl, hR2, hC2⟩)
        go_roundw
        case rel => exact ⟨k + 1, F2, by omega, by go_num, hR2.as (by rw [HS.out, HP.out]), hC.trans hC2⟩
        case measure => simp [intOf]; omega
      · have hkk : k = l.length := by omega
        subst hkk
        rw [List.take_length] at hR
        go_wp2_with (go_at_call 95; refine (wrote_calls _ _ _ _ _ _ _ hR).mono ?_; rintro e w2 ⟨rfl, h2⟩; subst h2)
        go_ret
        exact ⟨F', rfl, hR, hC⟩
end Go.Proofs.Ytognedbehplaeaa
