/- The program's walk along a chain: the table that one names, and the whole. -/
import Derived.Test.YtognedbehplaeaaChainb
set_option linter.unusedVariables false
namespace Go.Proofs.Ytognedbehplaeaa
open Go.RowKit

theorem own_slice {w : World} {base : Nat} {e : TypeId} {size n : Nat} {v : Value} {xs : List Value} (h : w.ownsRow base e size v n xs) : ∃ A c, v = .slice A n c := by
  rcases h.2 with ⟨rfl, rfl⟩ | ⟨g, cap, cur, rfl, _⟩
  · exact ⟨none, 0, rfl⟩
  · exact ⟨_, _, rfl⟩

/-- Why a table may not be. -/
def tabCode (size : Int) (d : DescV) : Int := if decide (16 ≤ d.len ∧ d.len ≤ 4111 ∧ d.len % 16 = 0) = true then (if inside d.addr d.len 2147483648 size = true then 0 else 21) else 154
def TablePost (base b p : Nat) (d : DescV) (r : Along) (c : Int) (w : World) (e : Ending) (w' : World) : Prop :=
  e = .returned (.int .i64 c) ∧ (c = 0 → ∃ v', WalkerAt w' base b p v' r.segs d.addr d.len (lastW r.segs)) ∧ Below base w w'

set_option maxHeartbeats 1000000 in
set_option maxRecDepth 100000 in
theorem table_no (base b p : Nat) (F : Nat → Prop) (size : Int) (g : Int → Int) (v : Value) (l : List Seg) (ta tl : Int) (d : DescV) (w : World) (hW : WalkerAt w base b p v l ta tl (lastW l)) (h : RamAt w p F size g) (hd : d.Ok) (hc : tabCode size d ≠ 0) :
    Calls Try.prog 75 #[.pointer (some ⟨b, 0, none⟩), d.val] w (SegNo (tabCode size d) w) := by
  have b1 : ∀ o i, (w.alloc o).cell? ⟨b, i, none⟩ = (#[.pointer (some ⟨p, 0, none⟩), v, .int .u64 ta, .int .u64 tl, .bool (lastW l), .int .i64 0] : Array Value)[i]? := fun o i => cells_of (at_alloc hW.box o) i
  have hK := (Kept.refl No w).alloc (.cells #[.int .u64 d.addr, .int .u32 d.len, .int .u16 d.flags, .int .u16 d.next] 165)
  have hR := h.no hK
  have ⟨a0, a1⟩ := hd.addr
  have ⟨l0, l1⟩ := hd.len
  have wl : IntKind.u64.wrap d.len = d.len := w64 _ l0 (by omega)
  have ba : 0 ≤ d.addr ∧ d.addr ≤ 18446744073709551615 := ⟨a0, a1⟩
  have bl : 0 ≤ d.len ∧ d.len ≤ 18446744073709551615 := by clear wl; omega
  have hbl := lt_of hW.box
  have HK := hid hK
  unfold DescV.val
  by_cases hl : 16 ≤ d.len ∧ d.len ≤ 4111 ∧ d.len % 16 = 0
  · have hi : inside d.addr d.len 2147483648 size = false := by
      cases hi : inside d.addr d.len 2147483648 size with
      | false => rfl
      | true => unfold tabCode at hc; rw [decide_eq_true hl, hi] at hc; simp at hc
    have e : tabCode size d = 21 := by unfold tabCode; rw [decide_eq_true hl, hi]; rfl
    rw [e]
    obtain ⟨h1, h2, h3⟩ := hl
    obtain ⟨n, hn⟩ : ∃ n, n = d.len / 16 := ⟨_, rfl⟩
    have hn1 : 1 ≤ n ∧ n ≤ 256 := by clear wl; omega
    go_enter Try.func75, Try.ntmps75
    go_wp2_with fail
    go_quiet ((go_at_call 93; go_must (exact Calls.quiet_of_same (has_calls _ _ _ _ _ _ _ (hR.no ((Kept.refl _ _).drewN _)) ba bl))))
    go_wp2
    go_ret
    exact ⟨rfl, HK.out.drewN _⟩
  · have e : tabCode size d = 154 := by unfold tabCode; rw [decide_eq_false hl]; rfl
    rw [e]
    have hcase : d.len / 16 < 1 ∨ (1 ≤ d.len / 16 ∧ 256 < d.len / 16) ∨ (1 ≤ d.len / 16 ∧ d.len / 16 ≤ 256 ∧ d.len % 16 ≠ 0) := by clear wl; omega
    clear hl hc e hR h hW hK
    rcases hcase with h1 | ⟨h1, h2⟩ | ⟨h1, h2, h3⟩
    · go_enter Try.func75, Try.ntmps75
      go_wp2
      go_ret
      exact ⟨rfl, HK.out⟩
    · go_enter Try.func75, Try.ntmps75
      go_wp2
      go_ret
      exact ⟨rfl, HK.out⟩
    · have hb : (d.len % 16 != 0) = true := by simp [h3]
      go_enter Try.func75, Try.ntmps75
      go_wp2
      go_ret
      exact ⟨rfl, HK.out⟩

/-- The table is named: the walker holds its place. -/
theorem WalkerAt.tab {w : World} {base b p : Nat} {v : Value} {l : List Seg} {ta tl ta' tl' : Int} {write : Bool} (h : WalkerAt w base b p v l ta tl write) :
    WalkerAt ((w.setCell ⟨b, 2, none⟩ (.int .u64 ta')).setCell ⟨b, 3, none⟩ (.int .u64 tl')) base b p v l ta' tl' write :=
  ⟨at_set (at_set h.box 2 _) 3 _, own_keep h.own (fun k hk => by
    have hne : k ≠ b := by rintro rfl; exact own_ne h.own h.box (by decide) hk
    rw [Below.heap_setCell _ ⟨b, 3, none⟩ _ _ hne, Below.heap_setCell _ ⟨b, 2, none⟩ _ _ hne]), h.ge⟩

set_option maxHeartbeats 1000000 in
set_option maxRecDepth 100000 in
theorem table_yes (base b p : Nat) (F : Nat → Prop) (size : Int) (g : Int → Int) (v : Value) (l : List Seg) (ta tl : Int) (d : DescV) (w : World) (hW : WalkerAt w base b p v l ta tl (lastW l)) (h : RamAt w p F size g) (hF : ∀ b, F b → b < base) (hd : d.Ok) (hc : tabCode size d = 0) (hn : l.length ≤ 90000) :
    Calls Try.prog 75 #[.pointer (some ⟨b, 0, none⟩), d.val] w (TablePost base b p d (alongS g size d.addr ((d.len / 16).toNat : Int) (d.len / 16).toNat 0 l) (nested false (alongS g size d.addr ((d.len / 16).toNat : Int) (d.len / 16).toNat 0 l)) w) := by
  have b1 : ∀ o i, (w.alloc o).cell? ⟨b, i, none⟩ = (#[.pointer (some ⟨p, 0, none⟩), v, .int .u64 ta, .int .u64 tl, .bool (lastW l), .int .i64 0] : Array Value)[i]? := fun o i => cells_of (at_alloc hW.box o) i
  have f1 : ∀ o i, (w.alloc o).frozen? ⟨b, i, none⟩ = false := fun o i => frozen_of (at_alloc hW.box o) i
  have hK := (Kept.refl No w).alloc (.cells #[.int .u64 d.addr, .int .u32 d.len, .int .u16 d.flags, .int .u16 d.next] 165)
  have hR := h.no hK
  have ⟨a0, a1⟩ := hd.addr
  have ⟨l0, l1⟩ := hd.len
  have wl : IntKind.u64.wrap d.len = d.len := w64 _ l0 (by omega)
  have ba : 0 ≤ d.addr ∧ d.addr ≤ 18446744073709551615 := ⟨a0, a1⟩
  have bl : 0 ≤ d.len ∧ d.len ≤ 18446744073709551615 := by clear wl; omega
  have hbl := lt_of hW.box
  have hl : 16 ≤ d.len ∧ d.len ≤ 4111 ∧ d.len % 16 = 0 := by
    unfold tabCode at hc
    by_cases hl : 16 ≤ d.len ∧ d.len ≤ 4111 ∧ d.len % 16 = 0
    · exact hl
    · rw [decide_eq_false hl] at hc; simp at hc
  have hi : inside d.addr d.len 2147483648 size = true := by
    unfold tabCode at hc
    rw [decide_eq_true hl] at hc
    cases hi : inside d.addr d.len 2147483648 size with
    | true => rfl
    | false => rw [hi] at hc; simp at hc
  obtain ⟨h1, h2, h3⟩ := hl
  obtain ⟨n, hn'⟩ : ∃ n : Nat, n = (d.len / 16).toNat := ⟨_, rfl⟩
  have hn1 : d.len / 16 = n ∧ 1 ≤ n ∧ n ≤ 256 := by clear wl; omega
  obtain ⟨hnn, hn2, hn3⟩ := hn1
  rw [← hn']
  clear hn'
  obtain ⟨r, hr⟩ : ∃ r, alongS g size d.addr n n 0 l = r := ⟨_, rfl⟩
  obtain ⟨c, hcc⟩ : ∃ c, nested false r = c := ⟨_, rfl⟩
  rw [hr, hcc]
  have HRR := hid hr
  have HCC := hid hcc
  clear hc hr hcc
  have HK := hid hK
  have HWW := hid (hW.no hK)
  unfold DescV.val
  clear hK
  go_enter Try.func75, Try.ntmps75
  go_wp2_with fail
  go_quiet ((go_at_call 93; go_must (exact Calls.quiet_of_same (has_calls _ _ _ _ _ _ _ (hR.no ((Kept.refl _ _).drewN _)) ba bl))))
  obtain ⟨W, hWW⟩ : ∃ W, W = (w.alloc (.cells #[.int .u64 d.addr, .int .u32 d.len, .int .u16 d.flags, .int .u16 d.next] 165)).drewN nq := ⟨_, rfl⟩
  rw [← hWW]
  have hKW : Kept No w W := by rw [hWW]; exact ((Kept.refl No w).alloc _).drewN _
  have hd0 : W.heap[w.heap.size]? = some (.cells #[.int .u64 d.addr, .int .u32 d.len, .int .u16 d.flags, .int .u16 d.next] 165 (0, 0)) := by rw [hWW]; exact at_new w _
  have hW1 := hW.no hKW
  have hR1 := h.no hKW
  have hbl := hKW.below
  have hge := hW.ge
  have hb1 : Below base w W := hbl.mono (by have := lt_of hW.box; omega)
  have b0 := fun i => cells_of hW1.box i
  have f0 := frozen_of hW1.box
  have d0 := fun i => cells_of hd0 i
  have hbd := ne_of hW1.box hd0 (by decide)
  have HT := hid (hW1.tab (ta' := d.addr) (tl' := d.len))
  have HB := hid ((hb1.setCell (p := ⟨b, 2, none⟩) hge (.int .u64 d.addr)).setCell (p := ⟨b, 3, none⟩) hge (.int .u64 d.len))
  have HR : Hid (RamAt ((W.setCell ⟨b, 2, none⟩ (.int .u64 d.addr)).setCell ⟨b, 3, none⟩ (.int .u64 d.len)) p F size g) := hid (hR1.stay (by simp) (fun j hj => by
    have hne : j ≠ b := by have := hF j hj; omega
    rw [Below.heap_setCell _ ⟨b, 3, none⟩ _ _ hne, Below.heap_setCell _ ⟨b, 2, none⟩ _ _ hne]))
  have hbw := lt_of hW.box
  clear hWW hKW hd0 hW1 hR1 hbl hb1 hR b1 f1 HK HWW hW h
  go_wp2_with fail
  go_at_call 74
  refine (along_calls base b p F size g v l d.addr d.len d.addr 0 n false _ HT.out HR.out hF ba (by omega)).mono ?_
  rintro e w1 ⟨dd, rfl, hok, hbe⟩
  rw [HRR.out, HCC.out] at hok ⊢
  have HOK := hid hok
  have HBE := hid (HB.out.trans hbe)
  unfold DescV.val
  clear hok hbe HT HB HR b0 f0 d0
  go_wp2
  go_ret
  exact ⟨rfl, fun h0 => (let ⟨v', h'⟩ := (HOK.out h0).2; ⟨v', h'.no ((Kept.refl No _).alloc _)⟩), HBE.out.alloc (by have := HBE.out.size; omega) _⟩

/-! ### Walk -/
structure Chain where
  code : Int
  segs : List Seg
  ta : Int
  tl : Int
def walkS (g : Int → Int) (size t sz head : Int) (ind : Bool) : Chain :=
  let r := alongS g size t sz sz.toNat head []
  if r.code = 0 then
    (if decide (r.d.flags / 4 % 2 = 1) = true then
      (if (!ind || decide (r.d.flags / 1 % 2 = 1)) = true then ⟨153, [], 0, 0⟩ else
        if tabCode size r.d = 0 then
          (let r2 := alongS g size r.d.addr ((r.d.len / 16).toNat : Int) (r.d.len / 16).toNat 0 r.segs
           if nested false r2 = 0 then ⟨0, r2.segs, r.d.addr, r.d.len⟩ else ⟨nested false r2, [], 0, 0⟩)
        else ⟨tabCode size r.d, [], 0, 0⟩)
     else ⟨0, r.segs, 0, 0⟩)
  else ⟨r.code, [], 0, 0⟩
theorem nested_true (r : Along) : nested true r = r.code := by simp [nested]
theorem alongS_ok {g : Int → Int} (hg : ∀ o, 0 ≤ g o ∧ g o ≤ 255) (size t sz : Int) : ∀ (k : Nat) (i : Int) (l : List Seg), (alongS g size t sz k i l).d.Ok
  | 0, i, l => by
    have hz : DescV.Ok ⟨0, 0, 0, 0⟩ := ⟨by decide, by decide, by decide, by decide⟩
    unfold alongS; split <;> exact hz
  | k + 1, i, l => by
    have hz : DescV.Ok ⟨0, 0, 0, 0⟩ := ⟨by decide, by decide, by decide, by decide⟩
    have hd := descS_ok hg size t i
    unfold alongS
    split
    · split
      · split
        · exact hd
        · split
          · split
            · exact alongS_ok hg size t sz k _ _
            · exact hd
          · exact hz
      · exact hz
    · exact hz
theorem alongS_len {g : Int → Int} (size t sz : Int) : ∀ (k : Nat) (i : Int) (l : List Seg), (alongS g size t sz k i l).segs.length ≤ l.length + k
  | 0, i, l => by unfold alongS; split <;> exact Nat.le_refl _
  | k + 1, i, l => by
    unfold alongS
    split
    · split
      · split
        · exact Nat.le_add_right _ _
        · split
          · split
            · refine Nat.le_trans (alongS_len size t sz k _ _) ?_
              rw [List.length_append]; simp; omega
            · simp
          · exact Nat.le_add_right _ _
      · exact Nat.le_add_right _ _
    · exact Nat.le_add_right _ _
theorem walkS_bad {g : Int → Int} {size t sz head : Int} {ind : Bool} {r : Along} (hr : alongS g size t sz sz.toNat head [] = r) (h : r.code ≠ 0) : walkS g size t sz head ind = ⟨r.code, [], 0, 0⟩ := by
  simp only [walkS, hr]; rw [if_neg h]
theorem walkS_plain {g : Int → Int} {size t sz head : Int} {ind : Bool} {r : Along} (hr : alongS g size t sz sz.toNat head [] = r) (h : r.code = 0) (h4 : decide (r.d.flags / 4 % 2 = 1) = false) : walkS g size t sz head ind = ⟨0, r.segs, 0, 0⟩ := by
  simp only [walkS, hr]; rw [if_pos h, if_neg (by rw [h4]; decide)]
theorem walkS_nest {g : Int → Int} {size t sz head : Int} {ind : Bool} {r : Along} (hr : alongS g size t sz sz.toNat head [] = r) (h : r.code = 0) (h4 : decide (r.d.flags / 4 % 2 = 1) = true) (hn : (!ind || decide (r.d.flags / 1 % 2 = 1)) = true) : walkS g size t sz head ind = ⟨153, [], 0, 0⟩ := by
  simp only [walkS, hr]; rw [if_pos h, if_pos h4, if_pos hn]
theorem walkS_notab {g : Int → Int} {size t sz head : Int} {ind : Bool} {r : Along} (hr : alongS g size t sz sz.toNat head [] = r) (h : r.code = 0) (h4 : decide (r.d.flags / 4 % 2 = 1) = true) (hn : (!ind || decide (r.d.flags / 1 % 2 = 1)) = false) (ht : tabCode size r.d ≠ 0) : walkS g size t sz head ind = ⟨tabCode size r.d, [], 0, 0⟩ := by
  simp only [walkS, hr]; rw [if_pos h, if_pos h4, if_neg (by rw [hn]; decide), if_neg ht]
theorem walkS_tabno {g : Int → Int} {size t sz head : Int} {ind : Bool} {r r2 : Along} (hr : alongS g size t sz sz.toNat head [] = r) (h : r.code = 0) (h4 : decide (r.d.flags / 4 % 2 = 1) = true) (hn : (!ind || decide (r.d.flags / 1 % 2 = 1)) = false) (ht : tabCode size r.d = 0)
    (hr2 : alongS g size r.d.addr ((r.d.len / 16).toNat : Int) (r.d.len / 16).toNat 0 r.segs = r2) (h2 : nested false r2 ≠ 0) : walkS g size t sz head ind = ⟨nested false r2, [], 0, 0⟩ := by
  simp only [walkS, hr, hr2]; rw [if_pos h, if_pos h4, if_neg (by rw [hn]; decide), if_pos ht, if_neg h2]
theorem walkS_tab {g : Int → Int} {size t sz head : Int} {ind : Bool} {r r2 : Along} (hr : alongS g size t sz sz.toNat head [] = r) (h : r.code = 0) (h4 : decide (r.d.flags / 4 % 2 = 1) = true) (hn : (!ind || decide (r.d.flags / 1 % 2 = 1)) = false) (ht : tabCode size r.d = 0)
    (hr2 : alongS g size r.d.addr ((r.d.len / 16).toNat : Int) (r.d.len / 16).toNat 0 r.segs = r2) (h2 : nested false r2 = 0) : walkS g size t sz head ind = ⟨0, r2.segs, r.d.addr, r.d.len⟩ := by
  simp only [walkS, hr, hr2]; rw [if_pos h, if_pos h4, if_neg (by rw [hn]; decide), if_pos ht, if_pos h2]

def WalkPost (c : Chain) (w : World) (e : Ending) (w' : World) : Prop :=
  ∃ A k, e = .returned (.tuple #[.agg #[.slice A c.segs.length k, .int .u64 c.ta, .int .u64 c.tl], .int .i64 c.code]) ∧ w'.ownsRow w.heap.size 57 3 (.slice A c.segs.length k) c.segs.length (scells c.segs) ∧ Kept No w w'

/-- The worlds of a walk: the layout, the result, the walker. -/
def walkW (w : World) (p : Nat) (sz t av us : Int) : World :=
  ((w.alloc (.cells #[.int .i64 sz, .int .u64 t, .int .u64 av, .int .u64 us] 25)).alloc (.cells #[.slice none 0 0, .int .u64 0, .int .u64 0] 40)).alloc (.cells #[.pointer (some ⟨p, 0, none⟩), .slice none 0 0, .int .u64 0, .int .u64 0, .bool false, .int .i64 0] 163)
section
variable {w W : World} {p : Nat} {sz t av us : Int}
theorem walkW_walker : WalkerAt (walkW w p sz t av us) (w.heap.size + 1 + 1) (w.heap.size + 1 + 1) p (.slice none 0 0) [] 0 0 (lastW []) :=
  ⟨by have := at_new ((w.alloc (.cells #[.int .i64 sz, .int .u64 t, .int .u64 av, .int .u64 us] 25)).alloc (.cells #[.slice none 0 0, .int .u64 0, .int .u64 0] 40)) (.cells #[.pointer (some ⟨p, 0, none⟩), .slice none 0 0, .int .u64 0, .int .u64 0, .bool false, .int .i64 0] 163)
      simpa [walkW, lastW] using this, World.ownsRow_nil _ _ _ _, Nat.le_refl _⟩
theorem walkW_kept : Kept No w (walkW w p sz t av us) := (((Kept.refl No w).alloc _).alloc _).alloc _
theorem walkW_ret : (walkW w p sz t av us).heap[w.heap.size + 1]? = some (.cells #[.slice none 0 0, .int .u64 0, .int .u64 0] 40 (0, 0)) := by
  have := at_new (w.alloc (.cells #[.int .i64 sz, .int .u64 t, .int .u64 av, .int .u64 us] 25)) (.cells #[.slice none 0 0, .int .u64 0, .int .u64 0] 40)
  have h2 := at_alloc this (.cells #[.pointer (some ⟨p, 0, none⟩), .slice none 0 0, .int .u64 0, .int .u64 0, .bool false, .int .i64 0] 163)
  simpa [walkW] using h2
theorem walkW_lay : (walkW w p sz t av us).heap[w.heap.size]? = some (.cells #[.int .i64 sz, .int .u64 t, .int .u64 av, .int .u64 us] 25 (0, 0)) := by
  have := at_new w (.cells #[.int .i64 sz, .int .u64 t, .int .u64 av, .int .u64 us] 25)
  exact at_alloc (at_alloc this _) _
/-- The walk's result is laid. -/
theorem walk_fin (v : Value) (a l : Int) {n : Nat} {xs : List Value} (hb : Below (w.heap.size + 1 + 1) (walkW w p sz t av us) W) (ho : W.ownsRow (w.heap.size + 1 + 1) 57 3 v n xs) :
    (∀ i, (((W.setCell ⟨w.heap.size + 1, 0, none⟩ v).setCell ⟨w.heap.size + 1, 1, none⟩ (.int .u64 a)).setCell ⟨w.heap.size + 1, 2, none⟩ (.int .u64 l)).cell? ⟨w.heap.size + 1, i, none⟩ = (#[v, .int .u64 a, .int .u64 l] : Array Value)[i]?) ∧
    (((W.setCell ⟨w.heap.size + 1, 0, none⟩ v).setCell ⟨w.heap.size + 1, 1, none⟩ (.int .u64 a)).setCell ⟨w.heap.size + 1, 2, none⟩ (.int .u64 l)).ownsRow w.heap.size 57 3 v n xs ∧
    Kept No w (((W.setCell ⟨w.heap.size + 1, 0, none⟩ v).setCell ⟨w.heap.size + 1, 1, none⟩ (.int .u64 a)).setCell ⟨w.heap.size + 1, 2, none⟩ (.int .u64 l)) := by
  have hr0 := (hb.block (w.heap.size + 1) (by omega)).trans walkW_ret
  have hr := at_set (at_set (at_set hr0 0 v) 1 (.int .u64 a)) 2 (.int .u64 l)
  refine ⟨fun i => cells_of hr i, ?_, ?_⟩
  · refine own_mono (own_keep ho (fun k hk => ?_)) (by omega)
    have hne : k ≠ w.heap.size + 1 := by have := (own_lt ho hk).1; omega
    rw [Below.heap_setCell _ _ _ _ hne, Below.heap_setCell _ _ _ _ hne, Below.heap_setCell _ _ _ _ hne]
  · have hk : Kept No w W := by
      refine ⟨hb.os.trans walkW_kept.os, hb.tape.trans walkW_kept.tape, hb.output.trans walkW_kept.output, Nat.le_trans walkW_kept.size hb.size, fun k hk _ => ?_⟩
      exact (hb.block k (by omega)).trans (walkW_kept.block k hk (fun h => h))
    exact ((hk.set (.inr (Nat.le_succ _)) _).set (.inr (Nat.le_succ _)) _).set (.inr (Nat.le_succ _)) _
end

set_option maxHeartbeats 2000000 in
set_option maxRecDepth 100000 in
theorem walk_calls (p : Nat) (F : Nat → Prop) (size : Int) (g : Int → Int) (t av us head : Int) (sz : Nat) (ind : Bool) (w : World) (h : RamAt w p F size g) (ht : 0 ≤ t ∧ t ≤ 18446744073709551615) (hs : sz ≤ 256) :
    Calls Try.prog 18 #[.pointer (some ⟨p, 0, none⟩), .agg #[.int .i64 sz, .int .u64 t, .int .u64 av, .int .u64 us], .int .i64 head, .bool ind] w (WalkPost (walkS g size t sz head ind) w) := by
  obtain ⟨r, hr⟩ : ∃ r, alongS g size t sz sz head [] = r := ⟨_, rfl⟩
  obtain ⟨cc, hcc⟩ : ∃ cc, walkS g size t sz head ind = cc := ⟨_, rfl⟩
  rw [hcc]
  have HRR := hid hr
  have HCC := hid hcc
  clear hr hcc
  go_enter Try.func18, Try.ntmps18
  go_wp2_with fail
  have HRA := hid (h.no (walkW_kept (p := p) (sz := sz) (t := t) (av := av) (us := us)))
  have HF := hid (fun b hb => Nat.lt_of_lt_of_le (h.lt b hb) (Nat.le_add_right w.heap.size 2))
  refine (along_calls (w.heap.size + 1 + 1) (w.heap.size + 1 + 1) p F size g (.slice none 0 0) [] 0 0 t head sz true (walkW w p sz t av us) walkW_walker HRA.out HF.out ht (by simp; omega)).mono ?_
  rw [HRR.out]
  rintro e w1 ⟨dd, rfl, hok, hbe⟩
  rw [nested_true] at hok ⊢
  have HB1 := hid (fun o => hbe.alloc (by have := hbe.size; simp [walkW] at this ⊢; omega) o)
  have HRD := hid (HRR.out ▸ alongS_ok h.byte size t sz sz head [])
  have HLN := hid (HRR.out ▸ alongS_len (g := g) size t sz sz head [])
  have hr1 := (hbe.block (w.heap.size + 1) (by omega)).trans walkW_ret
  have r0 := fun o i => cells_of (at_alloc hr1 o) i
  have f0 := fun o => frozen_of (at_alloc hr1 o)
  by_cases hc : r.code = 0
  · obtain ⟨rfl, v1, hw1⟩ := hok hc
    obtain ⟨A1, k1, rfl⟩ := own_slice hw1.own
    obtain ⟨d, hd⟩ : ∃ d, r.d = d := ⟨_, rfl⟩
    have hdok := HRD.out
    rw [hd] at hdok ⊢
    have HW2 := hid (fun o => hw1.no ((Kept.refl No w1).alloc o))
    have HR2 := hid (fun o => HRA.out.stay (HB1.out o).size (fun j hj => (HB1.out o).block j (HF.out j hj)))
    have hww : w.heap.size + 1 + 1 < w1.heap.size := lt_of hw1.box
    have b0 := fun o i => cells_of (HW2.out o).box i
    have HDB : Hid ((w1.alloc (.cells #[.int .u64 d.addr, .int .u32 d.len, .int .u16 d.flags, .int .u16 d.next] 165)).heap[w1.heap.size]? = some (.cells #[.int .u64 d.addr, .int .u32 d.len, .int .u16 d.flags, .int .u16 d.next] 165 (0, 0))) := hid (at_new w1 _)
    rw [hc]
    have HC := hid hc
    have HD := hid hd
    have HDO := hid hdok
    clear hc hd hok hbe hr1 h hw1 HRD HRA
    unfold DescV.val
    cases h4 : decide (d.flags / 4 % 2 = 1) with
    | false =>
      have hcc : cc = ⟨0, r.segs, 0, 0⟩ := HCC.out ▸ walkS_plain HRR.out HC.out (by rw [HD.out]; exact h4)
      have HC2 := hid hcc
      have hf4 := flag_eq HDO.out.flags 2 4 (by decide) (by decide) false h4
      clear hcc h4 hdok
      go_wp2
      refine bodyPost_ret (v := .tuple #[.agg #[.slice A1 r.segs.length k1, .int .u64 0, .int .u64 0], .int .i64 0]) (by simp [results, Try.results18, go_sem, (walk_fin (.slice A1 r.segs.length k1) 0 0 (HB1.out _) (HW2.out _).own).1]) rfl ⟨A1, k1, by rw [HC2.out], by rw [HC2.out]; exact (walk_fin (.slice A1 r.segs.length k1) 0 0 (HB1.out _) (HW2.out _).own).2.1, (walk_fin (.slice A1 r.segs.length k1) 0 0 (HB1.out _) (HW2.out _).own).2.2⟩
    | true =>
      have hf4 := flag_eq HDO.out.flags 2 4 (by decide) (by decide) true h4
      cases h1 : (!ind || decide (d.flags / 1 % 2 = 1)) with
      | true =>
        have hcc : cc = ⟨153, [], 0, 0⟩ := HCC.out ▸ walkS_nest HRR.out HC.out (by rw [HD.out]; exact h4) (by rw [HD.out]; exact h1)
        have HC2 := hid hcc
        clear hcc
        cases ind with
        | false =>
          clear h1 h4 hdok
          go_wp2
          refine bodyPost_ret (v := .tuple #[.agg #[.slice none 0 0, .int .u64 0, .int .u64 0], .int .i64 153]) (by simp [results, Try.results18, go_sem, (walk_fin (.slice none 0 0) 0 0 (HB1.out _) (World.ownsRow_nil _ _ _ _)).1]) rfl ⟨none, 0, by rw [HC2.out]; rfl, by rw [HC2.out]; exact (walk_fin (.slice none 0 0) 0 0 (HB1.out _) (World.ownsRow_nil _ _ _ _)).2.1, (walk_fin (.slice none 0 0) 0 0 (HB1.out _) (World.ownsRow_nil _ _ _ _)).2.2⟩
        | true =>
          have h11 : decide (d.flags / 1 % 2 = 1) = true := by simpa using h1
          have hf1 := flag_ne HDO.out.flags 0 1 (by decide) (by decide) true h11
          clear h1 h4 hdok h11
          go_wp2
          refine bodyPost_ret (v := .tuple #[.agg #[.slice none 0 0, .int .u64 0, .int .u64 0], .int .i64 153]) (by simp [results, Try.results18, go_sem, (walk_fin (.slice none 0 0) 0 0 (HB1.out _) (World.ownsRow_nil _ _ _ _)).1]) rfl ⟨none, 0, by rw [HC2.out]; rfl, by rw [HC2.out]; exact (walk_fin (.slice none 0 0) 0 0 (HB1.out _) (World.ownsRow_nil _ _ _ _)).2.1, (walk_fin (.slice none 0 0) 0 0 (HB1.out _) (World.ownsRow_nil _ _ _ _)).2.2⟩
      | false =>
        have hind : ind = true ∧ decide (d.flags / 1 % 2 = 1) = false := by cases ind <;> simp at h1 ⊢; exact h1
        obtain ⟨rfl, h11⟩ := hind
        have hf1 := flag_ne HDO.out.flags 0 1 (by decide) (by decide) false h11
        have H4 : Hid (decide (r.d.flags / 4 % 2 = 1) = true) := hid (by rw [HD.out]; exact h4)
        have H1 : Hid ((!true || decide (r.d.flags / 1 % 2 = 1)) = false) := hid (by rw [HD.out]; exact h1)
        clear h1 h4 hdok h11
        by_cases hT : tabCode size d = 0
        · have HT := hid hT
          clear hT
          obtain ⟨r2, hr2⟩ : ∃ r2, alongS g size d.addr ((d.len / 16).toNat : Int) (d.len / 16).toNat 0 r.segs = r2 := ⟨_, rfl⟩
          have HRR2 := hid hr2
          clear hr2
          go_wp2_with fail
          go_at_call 75
          refine (table_yes (w.heap.size + 1 + 1) _ p F size g (.slice A1 r.segs.length k1) r.segs 0 0 d _ (HW2.out _) (HR2.out _) HF.out HDO.out HT.out (by have := HLN.out; simp at this; omega)).mono ?_
          rw [HRR2.out]
          rintro e w2 ⟨rfl, hok, hk⟩
          have hB2 := (HB1.out _).trans hk
          have hr2 := (hB2.block (w.heap.size + 1) (by omega)).trans walkW_ret
          have q0 := fun i => cells_of hr2 i
          have g0 := frozen_of hr2
          obtain ⟨tc, htc⟩ : ∃ tc, nested false r2 = tc := ⟨_, rfl⟩
          rw [htc] at hok ⊢
          have HB2 := hid hB2
          clear hk hr2 hB2 r0 f0 b0 HDB
          by_cases hne : tc = 0
          · obtain ⟨v3, hw3⟩ := hok hne
            obtain ⟨A3, k3, rfl⟩ := own_slice hw3.own
            have hcc : cc = ⟨0, r2.segs, d.addr, d.len⟩ := HCC.out ▸ (by have := walkS_tab (r2 := r2) HRR.out HC.out H4.out H1.out (by rw [HD.out]; exact HT.out) (by rw [HD.out]; exact HRR2.out) (by rw [htc]; exact hne); rw [HD.out] at this; exact this)
            have p0 := fun i => cells_of hw3.box i
            have HC3 := hid hcc
            have HW3 := hid hw3
            clear hcc hw3 hok htc
            go_wp2
            refine bodyPost_ret (v := .tuple #[.agg #[.slice A3 r2.segs.length k3, .int .u64 d.addr, .int .u64 d.len], .int .i64 0]) (by simp [results, Try.results18, go_sem, (walk_fin (.slice A3 r2.segs.length k3) d.addr d.len HB2.out HW3.out.own).1]) rfl ⟨A3, k3, by rw [HC3.out], by rw [HC3.out]; exact (walk_fin (.slice A3 r2.segs.length k3) d.addr d.len HB2.out HW3.out.own).2.1, (walk_fin (.slice A3 r2.segs.length k3) d.addr d.len HB2.out HW3.out.own).2.2⟩
          · have hcc : cc = ⟨tc, [], 0, 0⟩ := HCC.out ▸ (by have := walkS_tabno (r2 := r2) HRR.out HC.out H4.out H1.out (by rw [HD.out]; exact HT.out) (by rw [HD.out]; exact HRR2.out) (by rw [htc]; exact hne); rw [htc] at this; exact this)
            have HC3 := hid hcc
            clear hcc hok htc
            go_wp2
            refine bodyPost_ret (v := .tuple #[.agg #[.slice none 0 0, .int .u64 0, .int .u64 0], .int .i64 tc]) (by simp [results, Try.results18, go_sem, (walk_fin (.slice none 0 0) 0 0 HB2.out (World.ownsRow_nil _ _ _ _)).1]) rfl ⟨none, 0, by rw [HC3.out]; rfl, by rw [HC3.out]; exact (walk_fin (.slice none 0 0) 0 0 HB2.out (World.ownsRow_nil _ _ _ _)).2.1, (walk_fin (.slice none 0 0) 0 0 HB2.out (World.ownsRow_nil _ _ _ _)).2.2⟩
        · have hcc : cc = ⟨tabCode size d, [], 0, 0⟩ := HCC.out ▸ (by have := walkS_notab HRR.out HC.out H4.out H1.out (by rw [HD.out]; exact hT); rw [HD.out] at this; exact this)
          have HT := hid hT
          have HC2 := hid hcc
          clear hT hcc
          go_wp2_with fail
          go_at_call 75
          refine (table_no _ _ p F size g (.slice A1 r.segs.length k1) r.segs 0 0 d _ (HW2.out _) (HR2.out _) HDO.out HT.out).mono ?_
          rintro e w2 ⟨rfl, hk⟩
          have hB2 := (HB1.out _).trans (hk.below.mono (Nat.le_trans (Nat.le_of_lt hww) (by simp)))
          have hr2 := (hB2.block (w.heap.size + 1) (by omega)).trans walkW_ret
          have q0 := fun i => cells_of hr2 i
          have g0 := frozen_of hr2
          obtain ⟨tc, htc⟩ : ∃ tc, tabCode size d = tc := ⟨_, rfl⟩
          have hne : ¬ tc = 0 := htc ▸ HT.out
          have hcc := HC2.out
          rw [htc] at hcc ⊢
          have HC3 := hid hcc
          have HB2 := hid hB2
          clear hk hr2 hB2 r0 f0 b0 hcc htc HC2 HDB
          go_wp2
          refine bodyPost_ret (v := .tuple #[.agg #[.slice none 0 0, .int .u64 0, .int .u64 0], .int .i64 tc]) (by simp [results, Try.results18, go_sem, (walk_fin (.slice none 0 0) 0 0 HB2.out (World.ownsRow_nil _ _ _ _)).1]) rfl ⟨none, 0, by rw [HC3.out]; rfl, by rw [HC3.out]; exact (walk_fin (.slice none 0 0) 0 0 HB2.out (World.ownsRow_nil _ _ _ _)).2.1, (walk_fin (.slice none 0 0) 0 0 HB2.out (World.ownsRow_nil _ _ _ _)).2.2⟩
  · have hcc : cc = ⟨r.code, [], 0, 0⟩ := HCC.out ▸ walkS_bad HRR.out hc
    have HC2 := hid hcc
    unfold DescV.val
    clear hcc hok hbe hr1 h
    go_wp2
    refine bodyPost_ret (v := .tuple #[.agg #[.slice none 0 0, .int .u64 0, .int .u64 0], .int .i64 r.code]) (by simp [results, Try.results18, go_sem, (walk_fin (.slice none 0 0) 0 0 (HB1.out _) (World.ownsRow_nil _ _ _ _)).1]) rfl ⟨none, 0, by rw [HC2.out]; rfl, by rw [HC2.out]; exact (walk_fin (.slice none 0 0) 0 0 (HB1.out _) (World.ownsRow_nil _ _ _ _)).2.1, (walk_fin (.slice none 0 0) 0 0 (HB1.out _) (World.ownsRow_nil _ _ _ _)).2.2⟩
end Go.Proofs.Ytognedbehplaeaa
