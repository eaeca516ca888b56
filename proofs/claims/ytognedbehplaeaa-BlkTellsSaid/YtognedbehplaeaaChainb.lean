/- The program's walk along a chain: all descriptors of one table. -/
import Derived.Test.YtognedbehplaeaaChain
set_option linter.unusedVariables false
namespace Go.Proofs.Ytognedbehplaeaa
open Go.RowKit

/-- A flag of a descriptor. -/
theorem flag_bit {f : Int} (h : 0 ≤ f ∧ f ≤ 65535) (i : Nat) (m : Int) (hi : i ≤ 2) (hm : m = 2 ^ i) : bits .and .u16 f m = f / m % 2 * m := by
  rcases (show i = 0 ∨ i = 1 ∨ i = 2 by omega) with rfl | rfl | rfl
  · obtain rfl : m = 1 := hm
    have e : bits .and .u16 f 1 = ((f.toNat &&& 1 : Nat) : Int) := u16_and _ _ h.1 (by omega) (by decide) (by decide)
    have e2 : f.toNat &&& 1 = f.toNat % 2 := Nat.and_two_pow_sub_one_eq_mod f.toNat 1
    rw [e, e2]
    omega
  · obtain rfl : m = 2 := hm
    have e : bits .and .u16 f 2 = ((f.toNat &&& 2 : Nat) : Int) := u16_and _ _ h.1 (by omega) (by decide) (by decide)
    have e2 : f.toNat &&& 2 = f.toNat / 2 % 2 * 2 := nat_bit 1 f.toNat
    rw [e, e2]
    omega
  · obtain rfl : m = 4 := hm
    have e : bits .and .u16 f 4 = ((f.toNat &&& 4 : Nat) : Int) := u16_and _ _ h.1 (by omega) (by decide) (by decide)
    have e2 : f.toNat &&& 4 = f.toNat / 4 % 2 * 4 := nat_bit 2 f.toNat
    rw [e, e2]
    omega
theorem flag_ne {f : Int} (h : 0 ≤ f ∧ f ≤ 65535) (i : Nat) (m : Int) (hi : i ≤ 2) (hm : m = 2 ^ i) (b : Bool) (hb : decide (f / m % 2 = 1) = b) : (bits .and .u16 f m != 0) = b := by
  rw [flag_bit h i m hi hm, ← hb]
  have hm0 : m = 1 ∨ m = 2 ∨ m = 4 := by
    rcases (show i = 0 ∨ i = 1 ∨ i = 2 by omega) with rfl | rfl | rfl <;> simp at hm <;> omega
  have h2 : f / m % 2 = 0 ∨ f / m % 2 = 1 := by omega
  rcases h2 with h2 | h2 <;> rw [h2] <;> rcases hm0 with rfl | rfl | rfl <;> rfl
theorem flag_eq {f : Int} (h : 0 ≤ f ∧ f ≤ 65535) (i : Nat) (m : Int) (hi : i ≤ 2) (hm : m = 2 ^ i) (b : Bool) (hb : decide (f / m % 2 = 1) = b) : (bits .and .u16 f m == 0) = !b := by
  have := flag_ne h i m hi hm b hb
  rw [← this]
  simp [bne]

/-- Why a descriptor's piece may not be: 21 beyond memory, 155 read behind written; 0 it may. -/
def segCode (size : Int) (write : Bool) (d : DescV) : Int := if inside d.addr d.len 2147483648 size = true then (if (write && !decide (d.flags / 2 % 2 = 1)) = true then 155 else 0) else 21
def SegNo (c : Int) (w : World) (e : Ending) (w' : World) : Prop := e = .returned (.int .i64 c) ∧ Kept No w w'

set_option maxRecDepth 100000 in
theorem segment_no (base b p : Nat) (F : Nat → Prop) (size : Int) (g : Int → Int) (v : Value) (l : List Seg) (ta tl : Int) (write : Bool) (d : DescV) (w : World) (hW : WalkerAt w base b p v l ta tl write) (h : RamAt w p F size g) (hd : d.Ok) (hc : segCode size write d ≠ 0) :
    Calls Try.prog 134 #[.pointer (some ⟨b, 0, none⟩), d.val] w (SegNo (segCode size write d) w) := by
  have c1 : ∀ o i, (w.alloc o).cell? ⟨b, i, none⟩ = (#[.pointer (some ⟨p, 0, none⟩), v, .int .u64 ta, .int .u64 tl, .bool write, .int .i64 0] : Array Value)[i]? := fun o i => cells_of (at_alloc hW.box o) i
  have hK := (Kept.refl No w).alloc (.cells #[.int .u64 d.addr, .int .u32 d.len, .int .u16 d.flags, .int .u16 d.next] 165)
  have hR := h.no hK
  have ⟨a0, a1⟩ := hd.addr
  have ⟨l0, l1⟩ := hd.len
  have wl : IntKind.u64.wrap d.len = d.len := w64 _ l0 (by omega)
  have ba : 0 ≤ d.addr ∧ d.addr ≤ 18446744073709551615 := ⟨a0, a1⟩
  have bl : 0 ≤ d.len ∧ d.len ≤ 18446744073709551615 := by clear wl; omega
  obtain ⟨dw, hdw⟩ : ∃ dw, decide (d.flags / 2 % 2 = 1) = dw := ⟨_, rfl⟩
  have hf := flag_ne hd.flags 1 2 (by decide) (by decide) dw hdw
  have hbl := lt_of hW.box
  have hge := hW.ge
  have hfin : ∀ nq, Kept No w ((w.alloc (.cells #[.int .u64 d.addr, .int .u32 d.len, .int .u16 d.flags, .int .u16 d.next] 165)).drewN nq) := fun nq => hK.drewN nq
  have HF := hid hfin
  cases hi : inside d.addr d.len 2147483648 size with
  | false =>
    have e : segCode size write d = 21 := by unfold segCode; rw [hi]; rfl
    rw [e]
    unfold DescV.val
    clear hc e hfin hW hK h
    go_enter Try.func134, Try.ntmps134
    go_wp2_with fail
    go_quiet ((go_at_call 93; go_must (exact Calls.quiet_of_same (has_calls _ _ _ _ _ _ _ (hR.no ((Kept.refl _ _).drewN _)) ba bl))))
    go_wp2
    go_ret
    exact ⟨rfl, HF.out _⟩
  | true =>
    have hw : write = true ∧ dw = false := by
      unfold segCode at hc
      rw [hi, hdw] at hc
      cases write <;> cases dw <;> simp at hc ⊢
    obtain ⟨rfl, rfl⟩ := hw
    have e : segCode size true d = 155 := by unfold segCode; rw [hi, hdw]; rfl
    rw [e]
    unfold DescV.val
    clear hc e hfin hW hK h hdw
    go_enter Try.func134, Try.ntmps134
    go_wp2_with fail
    go_quiet ((go_at_call 93; go_must (exact Calls.quiet_of_same (has_calls _ _ _ _ _ _ _ (hR.no ((Kept.refl _ _).drewN _)) ba bl))))
    go_wp2
    go_ret
    exact ⟨rfl, HF.out _⟩

/-! ### Along a table -/
structure Along where
  code : Int
  d : DescV
  segs : List Seg
def lastW (l : List Seg) : Bool := (l.getLast?.map (·.write)).getD false
theorem lastW_snoc (l : List Seg) (s : Seg) : lastW (l ++ [s]) = s.write := by simp [lastW]
/-- From a descriptor on, so many at most. -/
def alongS (g : Int → Int) (size t sz : Int) : Nat → Int → List Seg → Along
  | 0, i, l => if 0 ≤ i ∧ i < sz then ⟨152, ⟨0, 0, 0, 0⟩, l⟩ else ⟨151, ⟨0, 0, 0, 0⟩, l⟩
  | k + 1, i, l => if 0 ≤ i ∧ i < sz then
      (if descOk size t i = true then
        (if decide ((descS g size t i).flags / 4 % 2 = 1) = true then ⟨0, descS g size t i, l⟩ else
          if segCode size (lastW l) (descS g size t i) = 0 then
            (if decide ((descS g size t i).flags / 1 % 2 = 1) = true then alongS g size t sz k (descS g size t i).next (l ++ [⟨(descS g size t i).addr, (descS g size t i).len, decide ((descS g size t i).flags / 2 % 2 = 1)⟩])
             else ⟨0, descS g size t i, l ++ [⟨(descS g size t i).addr, (descS g size t i).len, decide ((descS g size t i).flags / 2 % 2 = 1)⟩]⟩)
          else ⟨segCode size (lastW l) (descS g size t i), ⟨0, 0, 0, 0⟩, l⟩)
       else ⟨21, ⟨0, 0, 0, 0⟩, l⟩)
     else ⟨151, ⟨0, 0, 0, 0⟩, l⟩
section
variable {g : Int → Int} {size t sz i : Int} {k : Nat} {l : List Seg}
theorem alongS_out (h : ¬ (0 ≤ i ∧ i < sz)) : alongS g size t sz k i l = ⟨151, ⟨0, 0, 0, 0⟩, l⟩ := by cases k <;> (unfold alongS; rw [if_neg h])
theorem alongS_loop (h : 0 ≤ i ∧ i < sz) : alongS g size t sz 0 i l = ⟨152, ⟨0, 0, 0, 0⟩, l⟩ := by unfold alongS; rw [if_pos h]
theorem alongS_place (h : 0 ≤ i ∧ i < sz) (ho : descOk size t i = false) : alongS g size t sz (k + 1) i l = ⟨21, ⟨0, 0, 0, 0⟩, l⟩ := by unfold alongS; rw [if_pos h, if_neg (by simp [ho])]
theorem alongS_table (h : 0 ≤ i ∧ i < sz) (ho : descOk size t i = true) (h4 : decide ((descS g size t i).flags / 4 % 2 = 1) = true) : alongS g size t sz (k + 1) i l = ⟨0, descS g size t i, l⟩ := by unfold alongS; rw [if_pos h, if_pos ho, if_pos h4]
theorem alongS_seg (h : 0 ≤ i ∧ i < sz) (ho : descOk size t i = true) (h4 : decide ((descS g size t i).flags / 4 % 2 = 1) = false) (hs : segCode size (lastW l) (descS g size t i) ≠ 0) : alongS g size t sz (k + 1) i l = ⟨segCode size (lastW l) (descS g size t i), ⟨0, 0, 0, 0⟩, l⟩ := by
  unfold alongS; rw [if_pos h, if_pos ho, if_neg (by rw [h4]; decide), if_neg hs]
theorem alongS_last (h : 0 ≤ i ∧ i < sz) (ho : descOk size t i = true) (h4 : decide ((descS g size t i).flags / 4 % 2 = 1) = false) (hs : segCode size (lastW l) (descS g size t i) = 0) (h1 : decide ((descS g size t i).flags / 1 % 2 = 1) = false) :
    alongS g size t sz (k + 1) i l = ⟨0, descS g size t i, l ++ [⟨(descS g size t i).addr, (descS g size t i).len, decide ((descS g size t i).flags / 2 % 2 = 1)⟩]⟩ := by
  unfold alongS; rw [if_pos h, if_pos ho, if_neg (by rw [h4]; decide), if_pos hs, if_neg (by rw [h1]; decide)]
theorem alongS_next (h : 0 ≤ i ∧ i < sz) (ho : descOk size t i = true) (h4 : decide ((descS g size t i).flags / 4 % 2 = 1) = false) (hs : segCode size (lastW l) (descS g size t i) = 0) (h1 : decide ((descS g size t i).flags / 1 % 2 = 1) = true) :
    alongS g size t sz (k + 1) i l = alongS g size t sz k (descS g size t i).next (l ++ [⟨(descS g size t i).addr, (descS g size t i).len, decide ((descS g size t i).flags / 2 % 2 = 1)⟩]) := by
  conv => lhs; unfold alongS
  rw [if_pos h, if_pos ho, if_neg (by rw [h4]; decide), if_pos hs, if_pos h1]
end
/-- In a table within: no table in it. -/
def nested (outer : Bool) (r : Along) : Int := if (!outer && decide (r.code = 0) && decide (r.d.flags / 4 % 2 = 1)) = true then 153 else r.code
def AlongPost (base b p : Nat) (ta tl : Int) (outer : Bool) (r : Along) (w : World) (e : Ending) (w' : World) : Prop :=
  ∃ d : DescV, e = .returned (.tuple #[d.val, .int .i64 (nested outer r)]) ∧ (nested outer r = 0 → d = r.d ∧ ∃ v', WalkerAt w' base b p v' r.segs ta tl (lastW r.segs)) ∧ Below base w w'

/-- Where the walk along a table stands. -/
structure AlSt (base b p : Nat) (F : Nat → Prop) (size : Int) (g : Int → Int) (ta tl : Int) (w : World) (v : Value) (l : List Seg) (W : World) : Prop where
  walk : WalkerAt W base b p v l ta tl (lastW l)
  ret : W.heap[w.heap.size]? = some (.cells #[.int .u64 0, .int .u32 0, .int .u16 0, .int .u16 0] 165 (0, 0))
  below : Below base w W
  ram : RamAt W p F size g
  le : base ≤ w.heap.size
section
variable {base b p : Nat} {F : Nat → Prop} {size : Int} {g : Int → Int} {ta tl : Int} {w W W' : World} {v v' : Value} {l l' : List Seg}
theorem WalkerAt.no {write : Bool} (h : WalkerAt W base b p v l ta tl write) (k : Kept No W W') : WalkerAt W' base b p v l ta tl write :=
  ⟨at_kept h.box k (fun h => h), own_keep h.own (fun j hj => k.block j (lt_of (own_lt h.own hj).2.choose_spec) (fun h => h)), h.ge⟩
theorem AlSt.no (h : AlSt base b p F size g ta tl w v l W) (k : Kept No W W') : AlSt base b p F size g ta tl w v l W' :=
  ⟨h.walk.no k, at_kept h.ret k (fun h => h), h.below.trans (k.below.mono (Nat.le_trans h.le h.below.size)), h.ram.no k, h.le⟩
theorem AlSt.cells (h : AlSt base b p F size g ta tl w v l W) (i : Nat) : W.cell? ⟨w.heap.size, i, none⟩ = (#[.int .u64 0, .int .u32 0, .int .u16 0, .int .u16 0] : Array Value)[i]? := cells_of h.ret i
/-- The result is laid. -/
theorem AlSt.lay (h : AlSt base b p F size g ta tl w v l W) (x y z u : Int) :
    (∀ i, ((((W.setCell ⟨w.heap.size, 0, none⟩ (.int .u64 x)).setCell ⟨w.heap.size, 1, none⟩ (.int .u32 y)).setCell ⟨w.heap.size, 2, none⟩ (.int .u16 z)).setCell ⟨w.heap.size, 3, none⟩ (.int .u16 u)).cell? ⟨w.heap.size, i, none⟩ = (#[.int .u64 x, .int .u32 y, .int .u16 z, .int .u16 u] : Array Value)[i]?) ∧
    WalkerAt ((((W.setCell ⟨w.heap.size, 0, none⟩ (.int .u64 x)).setCell ⟨w.heap.size, 1, none⟩ (.int .u32 y)).setCell ⟨w.heap.size, 2, none⟩ (.int .u16 z)).setCell ⟨w.heap.size, 3, none⟩ (.int .u16 u)) base b p v l ta tl (lastW l) ∧
    Below base w ((((W.setCell ⟨w.heap.size, 0, none⟩ (.int .u64 x)).setCell ⟨w.heap.size, 1, none⟩ (.int .u32 y)).setCell ⟨w.heap.size, 2, none⟩ (.int .u16 z)).setCell ⟨w.heap.size, 3, none⟩ (.int .u16 u)) := by
  have hr := at_set (at_set (at_set (at_set h.ret 0 (.int .u64 x)) 1 (.int .u32 y)) 2 (.int .u16 z)) 3 (.int .u16 u)
  have hbr := ne_of h.walk.box h.ret (by decide)
  have hor := own_ne h.walk.own h.ret (by decide)
  have far : ∀ k, k ≠ w.heap.size → ((((W.setCell ⟨w.heap.size, 0, none⟩ (.int .u64 x)).setCell ⟨w.heap.size, 1, none⟩ (.int .u32 y)).setCell ⟨w.heap.size, 2, none⟩ (.int .u16 z)).setCell ⟨w.heap.size, 3, none⟩ (.int .u16 u)).heap[k]? = W.heap[k]? := fun k hk => by
    rw [Below.heap_setCell _ _ _ _ hk, Below.heap_setCell _ _ _ _ hk, Below.heap_setCell _ _ _ _ hk, Below.heap_setCell _ _ _ _ hk]
  refine ⟨fun i => cells_of hr i, ⟨(far b hbr).trans h.walk.box, own_keep h.walk.own (fun k hk => far k (by rintro rfl; exact hor hk)), h.walk.ge⟩, ?_⟩
  exact ((((h.below.setCell (p := ⟨w.heap.size, 0, none⟩) h.le _).setCell (p := ⟨w.heap.size, 1, none⟩) h.le _).setCell (p := ⟨w.heap.size, 2, none⟩) h.le _).setCell (p := ⟨w.heap.size, 3, none⟩) h.le _)
theorem AlSt.free (h : AlSt base b p F size g ta tl w v l W) (i : Nat) : W.frozen? ⟨w.heap.size, i, none⟩ = false := frozen_of h.ret i
end
theorem segCode_zero {size : Int} {write : Bool} {d : DescV} (h : segCode size write d = 0) : inside d.addr d.len 2147483648 size = true ∧ (write && !decide (d.flags / 2 % 2 = 1)) = false := by
  unfold segCode at h
  cases hi : inside d.addr d.len 2147483648 size with
  | false => rw [hi] at h; simp at h
  | true =>
    rw [hi] at h
    cases hw : (write && !decide (d.flags / 2 % 2 = 1)) with
    | false => exact ⟨rfl, rfl⟩
    | true => rw [hw] at h; simp at h
/-- One more piece. -/
theorem AlSt.seg {base b p : Nat} {F : Nat → Prop} {size : Int} {g : Int → Int} {ta tl : Int} {w W W' : World} {v v' : Value} {l : List Seg} {s : Seg} (h : AlSt base b p F size g ta tl w v l W) (hw : WalkerAt W' base b p v' (l ++ [s]) ta tl s.write) (k : Kept (fun k => k = b ∨ v.ownBlock = some k) W W')
    (hF : ∀ b, F b → b < base) : AlSt base b p F size g ta tl w v' (l ++ [s]) W' := by
  have hb := h.walk.below k
  refine ⟨by rw [lastW_snoc]; exact hw, ?_, h.below.trans hb, h.ram.stay k.size (fun j hj => hb.block j (hF j hj)), h.le⟩
  refine (k.block _ (lt_of h.ret) ?_).trans h.ret
  rintro (e | e)
  · exact ne_of h.walk.box h.ret (by decide) e.symm
  · exact own_ne h.walk.own h.ret (by decide) e

set_option maxHeartbeats 2000000 in
set_option maxRecDepth 100000 in
theorem along_calls (base b p : Nat) (F : Nat → Prop) (size : Int) (g : Int → Int) (v : Value) (l : List Seg) (ta tl t i : Int) (sz : Nat) (outer : Bool) (w : World) (hW : WalkerAt w base b p v l ta tl (lastW l)) (h : RamAt w p F size g) (hF : ∀ b, F b → b < base)
    (ht : 0 ≤ t ∧ t ≤ 18446744073709551615) (hn : l.length + sz ≤ 100000) :
    Calls Try.prog 74 #[.pointer (some ⟨b, 0, none⟩), .int .u64 t, .int .i64 sz, .int .i64 i, .bool outer] w (AlongPost base b p ta tl outer (alongS g size t sz sz i l) w) := by
  go_enter Try.func74, Try.ntmps74
  go_wp2_with fail
  have hbw := lt_of hW.box
  have hge := hW.ge
  have hK := (Kept.refl No w).alloc (.cells #[.int .u64 0, .int .u32 0, .int .u16 0, .int .u16 0] 165)
  have hS : AlSt base b p F size g ta tl w v l (w.alloc (.cells #[.int .u64 0, .int .u32 0, .int .u16 0, .int .u16 0] 165)) := ⟨hW.no hK, at_new w _, hK.below.mono (by omega), h.no hK, by omega⟩
  have HSS := hid hS
  clear hW h hK hS
  generalize hr0 : alongS g size t sz sz i l = r0
  go_loopw [3, 12] (fun iv nv wr => ∃ (k : Nat) (i' : Int) (l' : List Seg) (v' : Value), k ≤ sz ∧ nv = .int .i64 k ∧ iv = .int .i64 i' ∧ alongS g size t sz (sz - k) i' l' = r0 ∧ l'.length = l.length + k ∧ AlSt base b p F size g ta tl w v' l' wr) (fun _ nv _ => sz - (intOf nv).toNat)
  case atStart => exact ⟨0, i, l, v, Nat.zero_le _, rfl, rfl, hr0, rfl, HSS.out⟩
  case round =>
    obtain ⟨k, i', l', v', hk, rfl, rfl, hr, hlen, hS⟩ := hrel
    have HR := hid hr
    have HL := hid hlen
    have HS := hid hS
    have c0 := hS.cells
    have f0 := hS.free
    clear hr hlen hS hr0
    by_cases hi : 0 ≤ i' ∧ i' < sz
    · obtain ⟨i0, i1⟩ := hi
      by_cases hks : k < sz
      · obtain ⟨m, hm⟩ : ∃ m, sz - k = m + 1 := ⟨sz - k - 1, by omega⟩
        have HM := hid hm
        clear hm
        have b0 := fun i => cells_of HS.out.walk.box i
        go_wp2_with fail
        go_at_call 133
        refine (desc_calls' p F size g t i' _ HS.out.ram ht).mono ?_
        rintro e w1 ⟨rfl, hk1⟩
        have HS1 := hid (HS.out.no hk1)
        have HS2 := hid (fun o => HS1.out.no ((Kept.refl No w1).alloc o))
        clear HS b0 c0 f0 hk1
        have b1 := fun o i => cells_of (HS2.out o).walk.box i
        have c1 := fun o => (HS2.out o).cells
        have f1 := fun o => (HS2.out o).free
        have hww := Nat.le_trans (Nat.succ_le_of_lt (lt_of HS1.out.ret)) (Nat.le_refl _)
        cases ho : descOk size t i' with
        | false =>
          have hn2 : nested outer r0 = 21 := by rw [← HR.out, HM.out, alongS_place ⟨i0, i1⟩ ho]; simp [nested]
          have HN := hid hn2
          rw [descS_no ho]
          clear hn2
          simp only [DescV.val]
          go_wp2
          refine bodyPost_ret (v := .tuple #[DescV.val ⟨0, 0, 0, 0⟩, .int .i64 21]) (by simp [results, Try.results74, go_sem, ((HS2.out _).lay 0 0 0 0).1, DescV.val]) rfl ⟨⟨0, 0, 0, 0⟩, by rw [HN.out], fun h0 => absurd h0 (by rw [HN.out]; decide), ((HS2.out _).lay 0 0 0 0).2.2⟩
        | true =>
          obtain ⟨d, hd⟩ : ∃ d, descS g size t i' = d := ⟨_, rfl⟩
          have hdok : d.Ok := hd ▸ descS_ok HS1.out.ram.byte size t i'
          rw [hd]
          simp only [DescV.val]
          cases h4 : decide (d.flags / 4 % 2 = 1) with
          | true =>
            have hf4 := flag_ne hdok.flags 2 4 (by decide) (by decide) true h4
            have hr2 : r0 = ⟨0, d, l'⟩ := by rw [← HR.out, HM.out, alongS_table ⟨i0, i1⟩ ho (by rw [hd]; exact h4), hd]
            have hn2 : nested outer r0 = if outer then 0 else 153 := by rw [hr2]; cases outer <;> simp [nested, h4]
            have HN := hid hn2
            have H2 := hid hr2
            clear hn2 hr2 h4 hd hdok ho
            cases outer with
            | true =>
              go_wp2
              refine bodyPost_ret (v := .tuple #[d.val, .int .i64 0]) (by simp [results, Try.results74, go_sem, ((HS2.out _).lay d.addr d.len d.flags d.next).1, DescV.val]) rfl ⟨d, by rw [HN.out]; rfl, fun _ => by rw [H2.out]; exact ⟨rfl, v', ((HS2.out _).lay d.addr d.len d.flags d.next).2.1⟩, ((HS2.out _).lay d.addr d.len d.flags d.next).2.2⟩
            | false =>
              go_wp2
              refine bodyPost_ret (v := .tuple #[DescV.val ⟨0, 0, 0, 0⟩, .int .i64 153]) (by simp [results, Try.results74, go_sem, ((HS2.out _).lay 0 0 0 0).1, DescV.val]) rfl ⟨⟨0, 0, 0, 0⟩, by rw [HN.out]; rfl, fun h0 => absurd h0 (by rw [HN.out]; decide), ((HS2.out _).lay 0 0 0 0).2.2⟩
          | false =>
            have hf4 := flag_ne hdok.flags 2 4 (by decide) (by decide) false h4
            have HF4 := hid h4
            have HD := hid hd
            have HDO := hid hdok
            have HO := hid ho
            clear h4 hd hdok ho
            have HSW := hid (HS2.out (.cells #[.int .u64 d.addr, .int .u32 d.len, .int .u16 d.flags, .int .u16 d.next] 165))
            have hdb : (w1.alloc (.cells #[.int .u64 d.addr, .int .u32 d.len, .int .u16 d.flags, .int .u16 d.next] 165)).heap[w1.heap.size]? = some (.cells #[.int .u64 d.addr, .int .u32 d.len, .int .u16 d.flags, .int .u16 d.next] 165 (0, 0)) := at_new w1 _
            have HDB := hid hdb
            clear hdb
            by_cases hsc : segCode size (lastW l') d = 0
            · have hin := segCode_zero hsc
              obtain ⟨dw, hdw⟩ : ∃ dw, decide (d.flags / 2 % 2 = 1) = dw := ⟨_, rfl⟩
              rw [hdw] at hin
              have HDW := hid hdw
              have HIN := hid hin
              have HSC := hid hsc
              clear hin hdw hsc
              go_wp2_with fail
              go_at_call 134
              refine (segment_yes base b p F size g v' l' ta tl (lastW l') d _ HSW.out.walk HSW.out.ram HDO.out HIN.out.1 dw HDW.out HIN.out.2 (by have := HL.out; omega)).mono ?_
              rintro e w3 ⟨v3, rfl, hw3, hk3⟩
              have hT := HSW.out.seg hw3 hk3 hF
              have hdb3 := (hk3.block w1.heap.size (lt_of HDB.out) (by rintro (h | h); exact ne_of HSW.out.walk.box HDB.out (by decide) h.symm; exact own_ne HSW.out.walk.own HDB.out (by decide) h)).trans HDB.out
              have HS3 := hid hT
              have HDB3 := hid hdb3
              clear HSW HS2 b1 c1 f1 hk3 HDB hT hdb3 hw3
              have b0 := fun i => cells_of HS3.out.walk.box i
              have c0 := HS3.out.cells
              have f0 := HS3.out.free
              have d0 := fun i => cells_of HDB3.out i
              cases h1 : decide (d.flags / 1 % 2 = 1) with
              | false =>
                have hf1 := flag_eq HDO.out.flags 0 1 (by decide) (by decide) false h1
                have hr2 : r0 = ⟨0, d, l' ++ [⟨d.addr, d.len, dw⟩]⟩ := by rw [← HR.out, HM.out, alongS_last ⟨i0, i1⟩ HO.out (by rw [HD.out]; exact HF4.out) (by rw [HD.out]; exact HSC.out) (by rw [HD.out]; exact h1), HD.out, HDW.out]
                have hn2 : nested outer r0 = 0 := by rw [hr2]; simp [nested, HF4.out]
                have HN := hid hn2
                have H2 := hid hr2
                clear hn2 hr2 h1
                go_wp2
                refine bodyPost_ret (v := .tuple #[d.val, .int .i64 0]) (by simp [results, Try.results74, go_sem, (HS3.out.lay d.addr d.len d.flags d.next).1, DescV.val]) rfl ⟨d, by rw [HN.out], fun _ => by rw [H2.out]; exact ⟨rfl, v3, (HS3.out.lay d.addr d.len d.flags d.next).2.1⟩, (HS3.out.lay d.addr d.len d.flags d.next).2.2⟩
              | true =>
                have hf1 := flag_eq HDO.out.flags 0 1 (by decide) (by decide) true h1
                have hr2 : alongS g size t sz m d.next (l' ++ [⟨d.addr, d.len, dw⟩]) = r0 := by rw [← HR.out, HM.out, alongS_next ⟨i0, i1⟩ HO.out (by rw [HD.out]; exact HF4.out) (by rw [HD.out]; exact HSC.out) (by rw [HD.out]; exact h1), HD.out, HDW.out]
                have H2 := hid hr2
                have ⟨nx0, nx1⟩ := HDO.out.next
                clear hr2 h1
                go_wp2
                refine ⟨⟨k + 1, d.next, l' ++ [⟨d.addr, d.len, dw⟩], v3, by omega, by simp, rfl, ?_, ?_, HS3.out⟩, ?_⟩
                · have hm := HM.out
                  have e : sz - (k + 1) = m := by omega
                  rw [e]
                  exact H2.out
                · rw [List.length_append, HL.out]; simp; omega
                · simp [intOf]; omega
            · have hn2 : nested outer r0 = segCode size (lastW l') d := by
                rw [← HR.out, HM.out, alongS_seg ⟨i0, i1⟩ HO.out (by rw [HD.out]; exact HF4.out) (by rw [HD.out]; exact hsc), HD.out]; simp [nested, hsc]
              have HN := hid hn2
              have HSC := hid hsc
              clear hn2 hsc
              go_wp2_with fail
              go_at_call 134
              refine (segment_no base b p F size g v' l' ta tl (lastW l') d _ HSW.out.walk HSW.out.ram HDO.out HSC.out).mono ?_
              rintro e w3 ⟨rfl, hk3⟩
              obtain ⟨c, hcc⟩ : ∃ c, segCode size (lastW l') d = c := ⟨_, rfl⟩
              rw [hcc]
              have hc0 : ¬ c = 0 := hcc ▸ HSC.out
              have HS3 := hid (HSW.out.no hk3)
              rw [hcc] at HN
              clear HSW HS2 b1 c1 f1 hk3 HDB HSC hcc
              have c0 := HS3.out.cells
              have f0 := HS3.out.free
              go_wp2
              refine bodyPost_ret (v := .tuple #[DescV.val ⟨0, 0, 0, 0⟩, .int .i64 c]) (by simp [results, Try.results74, go_sem, (HS3.out.lay 0 0 0 0).1, DescV.val]) rfl ⟨⟨0, 0, 0, 0⟩, by rw [HN.out], fun h0 => absurd h0 (by rw [HN.out]; exact hc0), (HS3.out.lay 0 0 0 0).2.2⟩
      · have hkz : k = sz := by omega
        subst hkz
        have hn2 : nested outer r0 = 152 := by rw [← HR.out, Nat.sub_self, alongS_loop ⟨i0, i1⟩]; simp [nested]
        have HN := hid hn2
        clear hn2
        go_wp2
        refine bodyPost_ret (v := .tuple #[DescV.val ⟨0, 0, 0, 0⟩, .int .i64 152]) (by simp [results, Try.results74, go_sem, (HS.out.lay 0 0 0 0).1, DescV.val]) rfl ⟨⟨0, 0, 0, 0⟩, by rw [HN.out], fun h0 => absurd h0 (by rw [HN.out]; decide), (HS.out.lay 0 0 0 0).2.2⟩
    · have hn2 : nested outer r0 = 151 := by rw [← HR.out, alongS_out hi]; simp [nested]
      have HN := hid hn2
      clear hn2
      have hc : i' < 0 ∨ (sz : Int) ≤ i' := by omega
      rcases hc with hc | hc
      all_goals
        go_wp2
        refine bodyPost_ret (v := .tuple #[DescV.val ⟨0, 0, 0, 0⟩, .int .i64 151]) (by simp [results, Try.results74, go_sem, (HS.out.lay 0 0 0 0).1, DescV.val]) rfl ⟨⟨0, 0, 0, 0⟩, by rw [HN.out], fun h0 => absurd h0 (by rw [HN.out]; decide), (HS.out.lay 0 0 0 0).2.2⟩
end Go.Proofs.Ytognedbehplaeaa
