/- What a driver's descriptors name: the program's walk along a chain. -/
import Derived.Test.YtognedbehplaeaaRingb
import Derived.Deep.QuietTactic
import Derived.BigQuiet
import Derived.Deep.RegionHeld3
import Derived.Deep.AppendLies
import Derived.Deep.RegionLaw
import Derived.Deep.DeepMust
set_option linter.unusedVariables false
namespace Go.Proofs.Ytognedbehplaeaa
open Go.RowKit

/-- A piece that a chain names. -/
structure Seg where
  at_ : Int
  len : Int
  write : Bool
def Seg.cells (s : Seg) : List Value := [.int .u64 s.at_, .int .u64 s.len, .bool s.write]
def scells (l : List Seg) : List Value := l.flatMap Seg.cells
theorem scells_snoc (l : List Seg) (s : Seg) : scells (l ++ [s]) = scells l ++ s.cells := by simp [scells]
theorem scells_length (l : List Seg) : (scells l).length = l.length * 3 := by
  induction l with
  | nil => rfl
  | cons s l ih => simp [scells, Seg.cells] at ih ⊢; omega

/-- A walker at b: its memory's place, its pieces so far, its table, whether the last piece is to be written. -/
structure WalkerAt (w : World) (base b p : Nat) (v : Value) (l : List Seg) (ta tl : Int) (write : Bool) : Prop where
  box : w.heap[b]? = some (.cells #[.pointer (some ⟨p, 0, none⟩), v, .int .u64 ta, .int .u64 tl, .bool write, .int .i64 0] 163 (0, 0))
  own : w.ownsRow base 57 3 v l.length (scells l)
  ge : base ≤ b

/-- What the walker's calls end in. -/
def SegPost (base b p : Nat) (v : Value) (l : List Seg) (ta tl : Int) (write : Bool) (w : World) (e : Ending) (w' : World) : Prop := ∃ v', e = .returned (.int .i64 0) ∧ WalkerAt w' base b p v' l ta tl write ∧ Kept (fun k => k = b ∨ v.ownBlock = some k) w w'
theorem WalkerAt.below {w w' : World} {base b p : Nat} {v : Value} {l : List Seg} {ta tl : Int} {write : Bool} (h : WalkerAt w base b p v l ta tl write) (k : Kept (fun k => k = b ∨ v.ownBlock = some k) w w') : Below base w w' :=
  ⟨k.os, k.tape, k.output, k.size, fun j hj => by
    have hlt : j < w.heap.size := Nat.lt_trans (Nat.lt_of_lt_of_le hj h.ge) (lt_of h.box)
    refine k.block j hlt ?_
    rintro (rfl | ho)
    · exact absurd h.ge (by omega)
    · exact absurd (own_lt h.own ho).1 (by omega)⟩
theorem segment_end {w W2 w1 : World} {base b p gg cap n : Nat} {v : Value} {l : List Seg} {s : Seg} {ta tl : Int} {o : Obj} (hK : Kept (· = b) w W2) (hge : base ≤ b)
    (hown1 : w1.ownsRow base 57 3 (.slice (some ⟨gg, 0, none⟩) (n + 1) cap) (n + 1) (scells l ++ [.int .u64 s.at_, .int .u64 s.len, .bool s.write])) (hgrow : ((W2.alloc o).drew).grownBy w1 v.ownBlock)
    (hb1 : w1.heap[b]? = some (.cells #[.pointer (some ⟨p, 0, none⟩), v, .int .u64 ta, .int .u64 tl, .bool s.write, .int .i64 0] 163 (0, 0))) (hO : W2.ownsRow base 57 3 v n (scells l)) (hbn : v.ownBlock ≠ some b) (hbw : b < w.heap.size) :
    WalkerAt (w1.setCell ⟨b, 1, none⟩ (.slice (some ⟨gg, 0, none⟩) (n + 1) cap)) base b p (.slice (some ⟨gg, 0, none⟩) (n + 1) cap) (l ++ [s]) ta tl s.write ∧ Kept (fun k => k = b ∨ v.ownBlock = some k) w (w1.setCell ⟨b, 1, none⟩ (.slice (some ⟨gg, 0, none⟩) (n + 1) cap)) := by
  have hn : n = l.length := by have := hO.1; rw [scells_length] at this; omega
  subst hn
  refine ⟨⟨at_set hb1 1 _, ?_, hge⟩, ?_⟩
  · have := own_keep (w' := w1.setCell ⟨b, 1, none⟩ (.slice (some ⟨gg, 0, none⟩) (l.length + 1) cap)) hown1 (fun k hk => Below.heap_setCell w1 ⟨b, 1, none⟩ _ k (by rintro rfl; exact own_ne hown1 hb1 (by decide) hk))
    rw [scells_snoc, List.length_append]
    exact this
  · have h1 : Kept (fun k => k = b ∨ v.ownBlock = some k) w W2 := hK.mono (fun k hk _ => .inl hk)
    have h2 := (h1.alloc o).drew
    exact (h2.grown hgrow (fun k hk => .inl (.inr hk))).set (p := ⟨b, 1, none⟩) (.inl (.inl rfl)) _
theorem info_seg : (Try.prog.info? 57).map (fun i => (i.zero, i.size, i.bytes)) = some (some (.agg #[.int .u64 0, .int .u64 0, .bool false]), 3, 24) := by kernel_rfl

set_option maxHeartbeats 1000000 in
set_option maxRecDepth 100000 in
theorem segment_yes (base b p : Nat) (F : Nat → Prop) (size : Int) (g : Int → Int) (v : Value) (l : List Seg) (ta tl : Int) (write : Bool) (d : DescV) (w : World) (hW : WalkerAt w base b p v l ta tl write) (h : RamAt w p F size g) (hd : d.Ok)
    (hi : inside d.addr d.len 2147483648 size = true) (dw : Bool) (hdw : decide (d.flags / 2 % 2 = 1) = dw) (ho : (write && !dw) = false) (hn : l.length ≤ 100000) :
    Calls Try.prog 134 #[.pointer (some ⟨b, 0, none⟩), d.val] w (SegPost base b p v (l ++ [⟨d.addr, d.len, dw⟩]) ta tl dw w) := by
  have c0 := fun i => cells_of hW.box i
  have c1 : ∀ o i, (w.alloc o).cell? ⟨b, i, none⟩ = (#[.pointer (some ⟨p, 0, none⟩), v, .int .u64 ta, .int .u64 tl, .bool write, .int .i64 0] : Array Value)[i]? := fun o i => cells_of (at_alloc hW.box o) i
  have hf : ((bits .and .u16 d.flags 2 != 0) : Bool) = dw := by
    have hd2 := hd.flags
    have e : bits .and .u16 d.flags 2 = ((d.flags.toNat &&& 2 : Nat) : Int) := u16_and _ _ hd2.1 (by omega) (by decide) (by decide)
    have e2 : d.flags.toNat &&& 2 = d.flags.toNat / 2 % 2 * 2 := nat_bit 1 d.flags.toNat
    rw [e, e2, ← hdw]
    have : (((d.flags.toNat / 2 % 2 * 2 : Nat) : Int) != 0) = decide (d.flags / 2 % 2 = 1) := by
      rw [bne, Bool.eq_iff_iff]
      simp
      omega
    exact this
  have hR := h.no ((Kept.refl No w).alloc (.cells #[.int .u64 d.addr, .int .u32 d.len, .int .u16 d.flags, .int .u16 d.next] 165))
  have ⟨a0, a1⟩ := hd.addr
  have ⟨l0, l1⟩ := hd.len
  have wl : IntKind.u64.wrap d.len = d.len := w64 _ l0 (by omega)
  have ba : 0 ≤ d.addr ∧ d.addr ≤ 18446744073709551615 := ⟨a0, a1⟩
  have bl : 0 ≤ d.len ∧ d.len ≤ 18446744073709551615 := by clear wl; omega
  unfold DescV.val
  go_enter Try.func134, Try.ntmps134
  go_wp2_with fail
  go_quiet ((go_at_call 93; go_must (exact Calls.quiet_of_same (has_calls _ _ _ _ _ _ _ (hR.no ((Kept.refl _ _).drewN _)) ba bl))))
  obtain ⟨W, hWW⟩ : ∃ W, W = (w.alloc (.cells #[.int .u64 d.addr, .int .u32 d.len, .int .u16 d.flags, .int .u16 d.next] 165)).drewN nq := ⟨_, rfl⟩
  rw [← hWW]
  have hK : Kept No w W := by rw [hWW]; exact ((Kept.refl No w).alloc _).drewN _
  have hb := at_kept hW.box hK (fun h => h)
  have hd0 : W.heap[w.heap.size]? = some (.cells #[.int .u64 d.addr, .int .u32 d.len, .int .u16 d.flags, .int .u16 d.next] 165 (0, 0)) := by rw [hWW]; exact at_new w _
  have c0 := fun i => cells_of hb i
  have f0 := frozen_of hb
  have d0 := fun i => cells_of hd0 i
  have HB := hid hb
  have HD := hid hd0
  have HK := hid hK
  clear hWW hK hb hd0 hR
  have hown := (hW.own)
  have hownW := own_keep (w' := W) hown (fun k hk => HK.out.block k (lt_of (own_lt hown hk).2.choose_spec) (fun h => h))
  have hbn := own_ne hownW HB.out (by decide)
  have hdn := own_ne hownW HD.out (by decide)
  have hbd := ne_of HB.out HD.out (by decide)
  have hbl := lt_of HB.out
  have hdl := lt_of HD.out
  have hge := hW.ge
  have hbw := lt_of hW.box
  obtain ⟨i0, hi0, hz0, hz1, hz2⟩ := info_parts info_seg
  have HO := hid hownW
  have HI0 := hid hi0
  clear h hW hown hi hdw c1 hownW hi0
  obtain ⟨W2, hW2⟩ : ∃ W2, W2 = W.setCell ⟨b, 4, none⟩ (.bool dw) := ⟨_, rfl⟩
  have hb2 := at_set HB.out 4 (.bool dw)
  have hd2 := at_far HD.out (p := ⟨b, 4, none⟩) hbd.symm (.bool dw)
  have ho2 := own_keep (w' := W.setCell ⟨b, 4, none⟩ (.bool dw)) HO.out (fun k hk => Below.heap_setCell W ⟨b, 4, none⟩ _ k (by rintro rfl; exact hbn hk))
  have hk2 : Kept (· = b) w (W.setCell ⟨b, 4, none⟩ (.bool dw)) := Kept.set (p := ⟨b, 4, none⟩) (HK.out.of_no (· = b)) (.inl rfl) _
  rw [← hW2] at hb2 hd2 ho2 hk2
  have HB2 : Hid (W2.heap[b]? = some (.cells #[.pointer (some ⟨p, 0, none⟩), v, .int .u64 ta, .int .u64 tl, .bool dw, .int .i64 0] 163 (0, 0))) := hid hb2
  have HD2 := hid hd2
  have HO2 := hid ho2
  have HK2 := hid hk2
  have HW2 := hid hW2
  clear hb2 hd2 ho2 hk2 hW2
  cases write with
  | false =>
    go_wp2
    rw [← HW2.out]
    clear c0 f0 d0
    have c0 := fun i => cells_of HB2.out i
    have d0 := fun i => cells_of HD2.out i
    have hbl := lt_of HB2.out
    have hdl := lt_of HD2.out
    go_region_law
      ((refine step_append_lies _ (by rfl) _ _ _ (by rfl) base 57 i0 _ 3 24 Try.underlying36 HI0.out hz0 hz1 hz2 rfl (by omega) v l.length (scells l) (by rfl) ((HO2.out.alloc _).drew) ⟨W2.heap.size, 0, none⟩ 1 1 [.int .u64 d.addr, .int .u64 d.len, .bool dw] (by rfl) (by rfl) (World.news_of_block (cs := #[.int .u64 d.addr, .int .u64 d.len, .bool dw]) (t := 57) (fr := (0, 0)) (heap_alloc_new W2 _)) (by simp [Value.oneCell']) (by omega) (by unfold maxLen; omega) (by omega) (by simp; omega) (W2.heap.size + 1) (by simp) ?_; intro gg cap w1 hown1 hgrow hat hlt; have hb1 := (hgrow.block b (by simp; omega) hbn.symm).trans (at_alloc HB2.out _); have hd1 := (hgrow.block w.heap.size (by simp; omega) hdn.symm).trans (at_alloc HD2.out _); have f1 := frozen_of hb1; have s0 := fun i => cells_of hb1 i; have s1 : w1.cell? ⟨w.heap.size, 0, none⟩ = some (.int .u64 d.addr) := cells_of hd1 0; have s2 : w1.cell? ⟨w.heap.size, 1, none⟩ = some (.int .u32 d.len) := cells_of hd1 1))
    all_goals
      go_wp2
      go_ret
      exact ⟨_, rfl, segment_end HK2.out hge hown1 hgrow hb1 HO2.out hbn hbw⟩
  | true =>
    obtain rfl : dw = true := by simpa using ho
    go_wp2
    rw [← HW2.out]
    clear c0 f0 d0
    have c0 := fun i => cells_of HB2.out i
    have d0 := fun i => cells_of HD2.out i
    have hbl := lt_of HB2.out
    have hdl := lt_of HD2.out
    go_region_law
      ((refine step_append_lies _ (by rfl) _ _ _ (by rfl) base 57 i0 _ 3 24 Try.underlying36 HI0.out hz0 hz1 hz2 rfl (by omega) v l.length (scells l) (by rfl) ((HO2.out.alloc _).drew) ⟨W2.heap.size, 0, none⟩ 1 1 [.int .u64 d.addr, .int .u64 d.len, .bool true] (by rfl) (by rfl) (World.news_of_block (cs := #[.int .u64 d.addr, .int .u64 d.len, .bool true]) (t := 57) (fr := (0, 0)) (heap_alloc_new W2 _)) (by simp [Value.oneCell']) (by omega) (by unfold maxLen; omega) (by omega) (by simp; omega) (W2.heap.size + 1) (by simp) ?_; intro gg cap w1 hown1 hgrow hat hlt; have hb1 := (hgrow.block b (by simp; omega) hbn.symm).trans (at_alloc HB2.out _); have hd1 := (hgrow.block w.heap.size (by simp; omega) hdn.symm).trans (at_alloc HD2.out _); have f1 := frozen_of hb1; have s0 := fun i => cells_of hb1 i; have s1 : w1.cell? ⟨w.heap.size, 0, none⟩ = some (.int .u64 d.addr) := cells_of hd1 0; have s2 : w1.cell? ⟨w.heap.size, 1, none⟩ = some (.int .u32 d.len) := cells_of hd1 1))
    all_goals
      go_wp2
      go_ret
      exact ⟨_, rfl, segment_end HK2.out hge hown1 hgrow hb1 HO2.out hbn hbw⟩
end Go.Proofs.Ytognedbehplaeaa
