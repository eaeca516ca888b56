/- The document's walk along a chain. -/
import Derived.Test.YtognedbehplaeaaChainc
import Derived.Test.YtognedbehplaeaaRefc
import Derived.Test.YtognedbehplaeaaApp
import Derived.Deep.RegionHeld3
set_option linter.unusedVariables false
namespace Go.Proofs.Ytognedbehplaeaa
open Go.RowKit

set_option maxRecDepth 100000 in
theorem rflag_calls (d : DescV) (hd : d.Ok) (m : Int) (hm : m = 1 ∨ m = 2 ∨ m = 4) (w : World) :
    Calls Try.prog 77 #[d.val, .int .u16 m] w (fun e w' => e = .returned (.bool (decide (d.flags / m % 2 = 1))) ∧ Kept No w w') := by
  have ⟨f0, f1⟩ := hd.flags
  have HK := hid ((Kept.refl No w).alloc (.cells #[.int .u64 d.addr, .int .u32 d.len, .int .u16 d.flags, .int .u16 d.next] 165))
  have e2 : (IntKind.u16.wrap (d.flags.tdiv 2)).tmod 2 = d.flags / 2 % 2 := by
    rw [Int.tdiv_eq_ediv_of_nonneg f0, IntKind.wrap_u16, Int.tmod_eq_emod_of_nonneg (by omega)]; omega
  have e4 : (IntKind.u16.wrap (d.flags.tdiv 4)).tmod 2 = d.flags / 4 % 2 := by
    rw [Int.tdiv_eq_ediv_of_nonneg f0, IntKind.wrap_u16, Int.tmod_eq_emod_of_nonneg (by omega)]; omega
  have e1 : (IntKind.u16.wrap d.flags).tmod 2 = d.flags % 2 := by
    rw [IntKind.wrap_u16, Int.tmod_eq_emod_of_nonneg (by omega)]; omega
  have E1 := hid e1
  have E2 := hid e2
  have E4 := hid e4
  unfold DescV.val
  clear hd f0 f1 e1 e2 e4
  rcases hm with rfl | rfl | rfl
  all_goals
    go_enter Try.func77, Try.ntmps77
    go_wp2
    go_ret
    refine ⟨?_, HK.out⟩
    simp [E1.out, E2.out, E4.out]
    try (rw [Bool.eq_iff_iff]; simp)

theorem rflag_calls' (d : DescV) (hd : d.Ok) (m : Int) (hm : m = 1 ∨ m = 2 ∨ m = 4) (w : World) :
    Calls Try.prog 77 #[.agg #[.int .u64 d.addr, .int .u32 d.len, .int .u16 d.flags, .int .u16 d.next], .int .u16 m] w (fun e w' => e = .returned (.bool (decide (d.flags / m % 2 = 1))) ∧ Kept No w w') := rflag_calls d hd m hm w

/-- Inside the document's walk: the memory's document, the chain so far, the two results. -/
structure RIn (size : Int) (A : Option Addr) (n c : Nat) (N : Nat → Prop) (g : Int → Int) (bs : List (Int × Int)) (base : Nat) (v : Value) (l : List Seg) (ta tl : Int) (w W : World) : Prop where
  m : W.heap[w.heap.size]? = some (.cells #[.int .u64 size, .slice A n c] 32 (0, 0))
  cb : W.heap[w.heap.size + 1]? = some (.cells #[v, .int .u64 ta, .int .u64 tl] 44 (0, 0))
  rd : W.heap[w.heap.size + 1 + 1]? = some (.cells #[.int .u64 0, .int .u32 0, .int .u16 0, .int .u16 0] 165 (0, 0))
  rc : W.heap[w.heap.size + 1 + 1 + 1]? = some (.cells #[.slice none 0 0, .int .u64 0, .int .u64 0] 44 (0, 0))
  own : W.ownsRow base 57 3 v l.length (scells l)
  ref0 : RefM w N A n size g bs
  kept : Kept No w W
/-- The four boxes. -/
def rin0 (w : World) (size : Int) (A : Option Addr) (n c : Nat) (v : Value) (ta tl : Int) : World :=
  (((w.alloc (.cells #[.int .u64 size, .slice A n c] 32)).alloc (.cells #[v, .int .u64 ta, .int .u64 tl] 44)).alloc (.cells #[.int .u64 0, .int .u32 0, .int .u16 0, .int .u16 0] 165)).alloc (.cells #[.slice none 0 0, .int .u64 0, .int .u64 0] 44)
section
variable {size : Int} {A : Option Addr} {n c : Nat} {N : Nat → Prop} {g : Int → Int} {bs : List (Int × Int)} {base : Nat} {v : Value} {l : List Seg} {ta tl : Int} {w W W' : World}
theorem RIn.ref (h : RIn size A n c N g bs base v l ta tl w W) : RefM W N A n size g bs := h.ref0.no h.kept
theorem RIn.start (hM : RefM w N A n size g bs) (ho : w.ownsRow base 57 3 v l.length (scells l)) : RIn size A n c N g bs base v l ta tl w (rin0 w size A n c v ta tl) := by
  have hk : Kept No w (rin0 w size A n c v ta tl) := ((((Kept.refl No w).alloc _).alloc _).alloc _).alloc _
  have h0 := at_new w (.cells #[.int .u64 size, .slice A n c] 32)
  have h1 := at_new (w.alloc (.cells #[.int .u64 size, .slice A n c] 32)) (.cells #[v, .int .u64 ta, .int .u64 tl] 44)
  have h2 := at_new ((w.alloc (.cells #[.int .u64 size, .slice A n c] 32)).alloc (.cells #[v, .int .u64 ta, .int .u64 tl] 44)) (.cells #[.int .u64 0, .int .u32 0, .int .u16 0, .int .u16 0] 165)
  have h3 := at_new (((w.alloc (.cells #[.int .u64 size, .slice A n c] 32)).alloc (.cells #[v, .int .u64 ta, .int .u64 tl] 44)).alloc (.cells #[.int .u64 0, .int .u32 0, .int .u16 0, .int .u16 0] 165)) (.cells #[.slice none 0 0, .int .u64 0, .int .u64 0] 44)
  refine ⟨at_alloc (at_alloc (at_alloc h0 _) _) _, ?_, ?_, ?_, own_keep ho (fun k hk2 => hk.block k (lt_of (own_lt ho hk2).2.choose_spec) (fun h => h)), hM, hk⟩
  · have := at_alloc (at_alloc h1 (.cells #[.int .u64 0, .int .u32 0, .int .u16 0, .int .u16 0] 165)) (.cells #[.slice none 0 0, .int .u64 0, .int .u64 0] 44)
    simpa [rin0] using this
  · have := at_alloc h2 (.cells #[.slice none 0 0, .int .u64 0, .int .u64 0] 44)
    simpa [rin0] using this
  · simpa [rin0] using h3
theorem RIn.no (h : RIn size A n c N g bs base v l ta tl w W) (k : Kept No W W') : RIn size A n c N g bs base v l ta tl w W' :=
  ⟨at_kept h.m k (fun h => h), at_kept h.cb k (fun h => h), at_kept h.rd k (fun h => h), at_kept h.rc k (fun h => h), own_keep h.own (fun j hj => k.block j (lt_of (own_lt h.own hj).2.choose_spec) (fun h => h)), h.ref0, h.kept.trans k⟩
/-- The results are laid: in either order. -/
def outA (w W : World) (d : DescV) (u : Value) (a b : Int) : World := ((((((W.setCell ⟨w.heap.size + 1 + 1, 0, none⟩ (.int .u64 d.addr)).setCell ⟨w.heap.size + 1 + 1, 1, none⟩ (.int .u32 d.len)).setCell ⟨w.heap.size + 1 + 1, 2, none⟩ (.int .u16 d.flags)).setCell ⟨w.heap.size + 1 + 1, 3, none⟩ (.int .u16 d.next)).setCell ⟨w.heap.size + 1 + 1 + 1, 0, none⟩ u).setCell ⟨w.heap.size + 1 + 1 + 1, 1, none⟩ (.int .u64 a)).setCell ⟨w.heap.size + 1 + 1 + 1, 2, none⟩ (.int .u64 b)
theorem RIn.outA (h : RIn size A n c N g bs base v l ta tl w W) (d : DescV) (u : Value) (a b : Int) :
    (outA w W d u a b).heap[w.heap.size + 1 + 1]? = some (.cells #[.int .u64 d.addr, .int .u32 d.len, .int .u16 d.flags, .int .u16 d.next] 165 (0, 0)) ∧ (outA w W d u a b).heap[w.heap.size + 1 + 1 + 1]? = some (.cells #[u, .int .u64 a, .int .u64 b] 44 (0, 0)) ∧ Kept No w (outA w W d u a b) ∧ (outA w W d u a b).ownsRow base 57 3 v l.length (scells l) := by
  have n1 : w.heap.size + 1 + 1 ≠ w.heap.size + 1 + 1 + 1 := by omega
  have a1 := at_set (at_set (at_set (at_set h.rd 0 (.int .u64 d.addr)) 1 (.int .u32 d.len)) 2 (.int .u16 d.flags)) 3 (.int .u16 d.next)
  have a2 := at_far (at_far (at_far a1 (p := ⟨w.heap.size + 1 + 1 + 1, 0, none⟩) n1 u) (p := ⟨w.heap.size + 1 + 1 + 1, 1, none⟩) n1 (.int .u64 a)) (p := ⟨w.heap.size + 1 + 1 + 1, 2, none⟩) n1 (.int .u64 b)
  have b1 := at_far (at_far (at_far (at_far h.rc (p := ⟨w.heap.size + 1 + 1, 0, none⟩) n1.symm (.int .u64 d.addr)) (p := ⟨w.heap.size + 1 + 1, 1, none⟩) n1.symm (.int .u32 d.len)) (p := ⟨w.heap.size + 1 + 1, 2, none⟩) n1.symm (.int .u16 d.flags)) (p := ⟨w.heap.size + 1 + 1, 3, none⟩) n1.symm (.int .u16 d.next)
  have b2 := at_set (at_set (at_set b1 0 u) 1 (.int .u64 a)) 2 (.int .u64 b)
  refine ⟨a2, b2, ?_, own_keep h.own (fun k hk => ?_)⟩
  · have hn1 : No (w.heap.size + 1 + 1) ∨ w.heap.size ≤ w.heap.size + 1 + 1 := .inr (by omega)
    have hn2 : No (w.heap.size + 1 + 1 + 1) ∨ w.heap.size ≤ w.heap.size + 1 + 1 + 1 := .inr (by omega)
    exact ((((((h.kept.set (p := ⟨w.heap.size + 1 + 1, 0, none⟩) hn1 _).set (p := ⟨w.heap.size + 1 + 1, 1, none⟩) hn1 _).set (p := ⟨w.heap.size + 1 + 1, 2, none⟩) hn1 _).set (p := ⟨w.heap.size + 1 + 1, 3, none⟩) hn1 _).set (p := ⟨w.heap.size + 1 + 1 + 1, 0, none⟩) hn2 _).set (p := ⟨w.heap.size + 1 + 1 + 1, 1, none⟩) hn2 _).set (p := ⟨w.heap.size + 1 + 1 + 1, 2, none⟩) hn2 _
  · have k1 : k ≠ w.heap.size + 1 + 1 := by rintro rfl; exact own_ne h.own h.rd (by decide) hk
    have k2 : k ≠ w.heap.size + 1 + 1 + 1 := by rintro rfl; exact own_ne h.own h.rc (by decide) hk
    unfold Go.Proofs.Ytognedbehplaeaa.outA
    rw [Below.heap_setCell _ _ _ _ k2, Below.heap_setCell _ _ _ _ k2, Below.heap_setCell _ _ _ _ k2, Below.heap_setCell _ _ _ _ k1, Below.heap_setCell _ _ _ _ k1, Below.heap_setCell _ _ _ _ k1, Below.heap_setCell _ _ _ _ k1]
theorem RIn.fin_own (h : RIn size A n c N g bs base v l ta tl w W) (d : DescV) (u : Value) (a b : Int) {base2 n2 : Nat} {v2 : Value} {xs2 : List Value} (ho : W.ownsRow base2 57 3 v2 n2 xs2) :
    (((((((W.setCell ⟨w.heap.size + 1 + 1, 0, none⟩ (.int .u64 d.addr)).setCell ⟨w.heap.size + 1 + 1, 1, none⟩ (.int .u32 d.len)).setCell ⟨w.heap.size + 1 + 1, 2, none⟩ (.int .u16 d.flags)).setCell ⟨w.heap.size + 1 + 1, 3, none⟩ (.int .u16 d.next)).setCell ⟨w.heap.size + 1 + 1 + 1, 0, none⟩ u).setCell ⟨w.heap.size + 1 + 1 + 1, 1, none⟩ (.int .u64 a)).setCell ⟨w.heap.size + 1 + 1 + 1, 2, none⟩ (.int .u64 b)).ownsRow base2 57 3 v2 n2 xs2 :=
  own_keep ho (fun k hk => by
    have k1 : k ≠ w.heap.size + 1 + 1 := by rintro rfl; exact own_ne ho h.rd (by decide) hk
    have k2 : k ≠ w.heap.size + 1 + 1 + 1 := by rintro rfl; exact own_ne ho h.rc (by decide) hk
    rw [Below.heap_setCell _ _ _ _ k2, Below.heap_setCell _ _ _ _ k2, Below.heap_setCell _ _ _ _ k2, Below.heap_setCell _ _ _ _ k1, Below.heap_setCell _ _ _ _ k1, Below.heap_setCell _ _ _ _ k1, Below.heap_setCell _ _ _ _ k1])
theorem RIn.fin (h : RIn size A n c N g bs base v l ta tl w W) (d : DescV) (u : Value) (a b : Int) :
    (∀ i, (((((((W.setCell ⟨w.heap.size + 1 + 1, 0, none⟩ (.int .u64 d.addr)).setCell ⟨w.heap.size + 1 + 1, 1, none⟩ (.int .u32 d.len)).setCell ⟨w.heap.size + 1 + 1, 2, none⟩ (.int .u16 d.flags)).setCell ⟨w.heap.size + 1 + 1, 3, none⟩ (.int .u16 d.next)).setCell ⟨w.heap.size + 1 + 1 + 1, 0, none⟩ u).setCell ⟨w.heap.size + 1 + 1 + 1, 1, none⟩ (.int .u64 a)).setCell ⟨w.heap.size + 1 + 1 + 1, 2, none⟩ (.int .u64 b)).cell? ⟨w.heap.size + 1 + 1, i, none⟩ = (#[.int .u64 d.addr, .int .u32 d.len, .int .u16 d.flags, .int .u16 d.next] : Array Value)[i]?) ∧
    (∀ i, (((((((W.setCell ⟨w.heap.size + 1 + 1, 0, none⟩ (.int .u64 d.addr)).setCell ⟨w.heap.size + 1 + 1, 1, none⟩ (.int .u32 d.len)).setCell ⟨w.heap.size + 1 + 1, 2, none⟩ (.int .u16 d.flags)).setCell ⟨w.heap.size + 1 + 1, 3, none⟩ (.int .u16 d.next)).setCell ⟨w.heap.size + 1 + 1 + 1, 0, none⟩ u).setCell ⟨w.heap.size + 1 + 1 + 1, 1, none⟩ (.int .u64 a)).setCell ⟨w.heap.size + 1 + 1 + 1, 2, none⟩ (.int .u64 b)).cell? ⟨w.heap.size + 1 + 1 + 1, i, none⟩ = (#[u, .int .u64 a, .int .u64 b] : Array Value)[i]?) ∧ Kept No w (((((((W.setCell ⟨w.heap.size + 1 + 1, 0, none⟩ (.int .u64 d.addr)).setCell ⟨w.heap.size + 1 + 1, 1, none⟩ (.int .u32 d.len)).setCell ⟨w.heap.size + 1 + 1, 2, none⟩ (.int .u16 d.flags)).setCell ⟨w.heap.size + 1 + 1, 3, none⟩ (.int .u16 d.next)).setCell ⟨w.heap.size + 1 + 1 + 1, 0, none⟩ u).setCell ⟨w.heap.size + 1 + 1 + 1, 1, none⟩ (.int .u64 a)).setCell ⟨w.heap.size + 1 + 1 + 1, 2, none⟩ (.int .u64 b)) ∧ (((((((W.setCell ⟨w.heap.size + 1 + 1, 0, none⟩ (.int .u64 d.addr)).setCell ⟨w.heap.size + 1 + 1, 1, none⟩ (.int .u32 d.len)).setCell ⟨w.heap.size + 1 + 1, 2, none⟩ (.int .u16 d.flags)).setCell ⟨w.heap.size + 1 + 1, 3, none⟩ (.int .u16 d.next)).setCell ⟨w.heap.size + 1 + 1 + 1, 0, none⟩ u).setCell ⟨w.heap.size + 1 + 1 + 1, 1, none⟩ (.int .u64 a)).setCell ⟨w.heap.size + 1 + 1 + 1, 2, none⟩ (.int .u64 b)).ownsRow base 57 3 v l.length (scells l) := by
  have H := h.outA d u a b
  unfold Go.Proofs.Ytognedbehplaeaa.outA at H
  exact ⟨fun i => cells_of H.1 i, fun i => cells_of H.2.1 i, H.2.2⟩
end
theorem own_drew {w : World} {base : Nat} {e : TypeId} {size n : Nat} {v : Value} {xs : List Value} (h : w.ownsRow base e size v n xs) : w.drew.ownsRow base e size v n xs := own_keep h (fun _ _ => rfl)
/-- .. with a descriptor at q. -/
structure RInD (size : Int) (A : Option Addr) (n c : Nat) (N : Nat → Prop) (g : Int → Int) (bs : List (Int × Int)) (base : Nat) (v : Value) (l : List Seg) (ta tl : Int) (d : DescV) (q : Nat) (w W : World) : Prop extends RIn size A n c N g bs base v l ta tl w W where
  db : W.heap[q]? = some (.cells #[.int .u64 d.addr, .int .u32 d.len, .int .u16 d.flags, .int .u16 d.next] 165 (0, 0))
  hq : w.heap.size + 1 + 1 + 1 < q
theorem RInD.no' {size : Int} {A : Option Addr} {n c : Nat} {N : Nat → Prop} {g : Int → Int} {bs : List (Int × Int)} {base : Nat} {v : Value} {l : List Seg} {ta tl : Int} {d : DescV} {q : Nat} {w W W' : World} (h : RInD size A n c N g bs base v l ta tl d q w W) (k : Kept No W W') : RInD size A n c N g bs base v l ta tl d q w W' :=
  ⟨h.toRIn.no k, at_kept h.db k (fun h => h), h.hq⟩

section
variable {size : Int} {A : Option Addr} {n c : Nat} {N : Nat → Prop} {g : Int → Int} {bs : List (Int × Int)} {base : Nat} {v : Value} {l : List Seg} {ta tl : Int} {d : DescV} {q : Nat} {w W W' : World}
theorem RInD.drew (h : RInD size A n c N g bs base v l ta tl d q w W) : RInD size A n c N g bs base v l ta tl d q w W.drew := h.no' ((Kept.refl _ _).drew)
theorem RInD.d0 (h : RInD size A n c N g bs base v l ta tl d q w W) : W.cell? ⟨q, 0, none⟩ = some (.int .u64 d.addr) := cells_of h.db 0
theorem RInD.d1 (h : RInD size A n c N g bs base v l ta tl d q w W) : W.cell? ⟨q, 1, none⟩ = some (.int .u32 d.len) := cells_of h.db 1
theorem RInD.d2 (h : RInD size A n c N g bs base v l ta tl d q w W) : W.cell? ⟨q, 2, none⟩ = some (.int .u16 d.flags) := cells_of h.db 2
theorem RInD.d3 (h : RInD size A n c N g bs base v l ta tl d q w W) : W.cell? ⟨q, 3, none⟩ = some (.int .u16 d.next) := cells_of h.db 3
/-- One more piece, laid into the chain's box. -/
theorem RInD.push {v2 : Value} {sg : Seg} {m : Nat} {base2 : Nat} (h : RInD size A n c N g bs base v l ta tl d q w W) (k : Kept No W W') (hm : l.length + 1 = m) (own2 : W'.ownsRow base2 57 3 v2 m (scells l ++ sg.cells)) (hb : base ≤ base2) :
    RInD size A n c N g bs base v2 (l ++ [sg]) ta tl d q w (W'.setCell ⟨w.heap.size + 1, 0, none⟩ v2) := by
  have h' := h.no' k
  have n0 : w.heap.size ≠ w.heap.size + 1 := by omega
  have n2 : w.heap.size + 1 + 1 ≠ w.heap.size + 1 := by omega
  have n3 : w.heap.size + 1 + 1 + 1 ≠ w.heap.size + 1 := by omega
  have nq : q ≠ w.heap.size + 1 := by have := h.hq; omega
  have hk : Kept No w (W'.setCell ⟨w.heap.size + 1, 0, none⟩ v2) := h'.kept.set (p := ⟨w.heap.size + 1, 0, none⟩) (.inr (Nat.le_succ _)) v2
  refine ⟨⟨at_far h'.m (p := ⟨w.heap.size + 1, 0, none⟩) n0 v2, at_set h'.cb 0 v2, at_far h'.rd (p := ⟨w.heap.size + 1, 0, none⟩) n2 v2, at_far h'.rc (p := ⟨w.heap.size + 1, 0, none⟩) n3 v2, ?_, h.ref0, hk⟩, at_far h'.db (p := ⟨w.heap.size + 1, 0, none⟩) nq v2, h.hq⟩
  rw [scells_snoc, List.length_append]
  show World.ownsRow _ _ _ _ _ (l.length + 1) _
  rw [hm]
  exact own_mono (own_keep own2 (fun j hj => Below.heap_setCell W' ⟨w.heap.size + 1, 0, none⟩ v2 j (by rintro rfl; exact own_ne own2 h'.cb (by decide) hj))) hb
end
theorem scells_one (l : List Seg) : ∀ u ∈ scells l, u.oneCell' = true := by
  intro u hu
  obtain ⟨s, _, hu⟩ := List.mem_flatMap.1 hu
  simp [Seg.cells] at hu
  rcases hu with rfl | rfl | rfl <;> rfl

/-- What the document's walk along a table ends in. -/
def RAlongPost (base : Nat) (ta tl : Int) (r : Along) (w : World) (e : Ending) (w' : World) : Prop := ∃ (d : DescV) (B : Option Addr) (k m : Nat), e = .returned (.tuple #[DescV.val d, .agg #[.slice B m k, .int .u64 ta, .int .u64 tl], .int .i64 r.code]) ∧
      (r.code = 0 → d = r.d ∧ m = r.segs.length ∧ w'.ownsRow base 57 3 (.slice B m k) r.segs.length (scells r.segs)) ∧ Kept No w w'

set_option maxHeartbeats 2000000 in
set_option maxRecDepth 100000 in
theorem ralong_out (size : Int) (A : Option Addr) (n c : Nat) (N : Nat → Prop) (g : Int → Int) (bs : List (Int × Int)) (base : Nat) (t : Int) (sz : Nat) (ta tl : Int) (left : Nat) (i : Int) (B : Option Addr) (k : Nat) (l : List Seg) (w : World) (hM : RefM w N A n size g bs)
    (hown : w.ownsRow base 57 3 (.slice B l.length k) l.length (scells l)) (hi : ¬ (0 ≤ i ∧ i < sz)) :
    Calls Try.prog 76 #[.agg #[.int .u64 size, .slice A n c], .int .u64 t, .int .i64 sz, .int .i64 i, .int .i64 left, .agg #[.slice B l.length k, .int .u64 ta, .int .u64 tl]] w (RAlongPost base ta tl (alongS g size t sz left i l) w) := by
  rw [alongS_out hi]
  have HS := hid (RIn.start (A := A) (n := n) (c := c) (ta := ta) (tl := tl) hM hown)
  have hc : i < 0 ∨ (sz : Int) ≤ i := by omega
  clear hM hown hi
  rcases hc with hc | hc
  all_goals
    go_enter Try.func76, Try.ntmps76
    go_wp2_with fail
    rw [← rin0]
    generalize rin0 w size A n c (.slice B l.length k) ta tl = W at HS ⊢
    have c0 := fun i => cells_of HS.out.cb i
    have c1 := fun i => cells_of HS.out.rd i
    have c2 := fun i => cells_of HS.out.rc i
    have f1 := frozen_of HS.out.rd
    have f2 := frozen_of HS.out.rc
    go_region
    go_wp2
    refine bodyPost_ret (v := .tuple #[DescV.val ⟨0, 0, 0, 0⟩, .agg #[.slice B l.length k, .int .u64 ta, .int .u64 tl], .int .i64 151]) (by simp [results, Try.results76, go_sem, (HS.out.fin ⟨0, 0, 0, 0⟩ (.slice B l.length k) ta tl).1, (HS.out.fin ⟨0, 0, 0, 0⟩ (.slice B l.length k) ta tl).2.1, DescV.val]) (by with_reducible rfl) ?_
    refine ⟨⟨0, 0, 0, 0⟩, B, k, l.length, rfl, fun h0 => absurd h0 (by simp), ?_⟩
    with_reducible exact (HS.out.fin ⟨0, 0, 0, 0⟩ (.slice B l.length k) ta tl).2.2.1.drew

set_option maxHeartbeats 2000000 in
set_option maxRecDepth 100000 in
theorem ralong_calls (size : Int) (A : Option Addr) (n c : Nat) (N : Nat → Prop) (g : Int → Int) (bs : List (Int × Int)) (base : Nat) (t : Int) (sz : Nat) (ta tl : Int) (left : Nat) : ∀ (i : Int) (B : Option Addr) (k m : Nat) (l : List Seg) (w : World), RefM w N A n size g bs → (ht : 0 ≤ t ∧ t ≤ 18446744073709551615) → (hl : l.length + left ≤ 100000) →
    base ≤ w.heap.size → w.ownsRow base 57 3 (.slice B m k) m (scells l) → l.length = m →
    Calls Try.prog 76 #[.agg #[.int .u64 size, .slice A n c], .int .u64 t, .int .i64 sz, .int .i64 i, .int .i64 left, .agg #[.slice B m k, .int .u64 ta, .int .u64 tl]] w (RAlongPost base ta tl (alongS g size t sz left i l) w) := by
  induction left with
  | zero =>
    intro i B k m l w hM ht hl hb hown hm
    subst hm
    by_cases hi : 0 ≤ i ∧ i < sz
    · rw [alongS_loop hi]
      have HS := hid (RIn.start (A := A) (n := n) (c := c) (ta := ta) (tl := tl) hM hown)
      obtain ⟨i0, i1⟩ := hi
      clear hM hown
      go_enter Try.func76, Try.ntmps76
      go_wp2_with fail
      rw [← rin0]
      generalize rin0 w size A n c (.slice B l.length k) ta tl = W at HS ⊢
      have c0 := fun i => cells_of HS.out.cb i
      have c1 := fun i => cells_of HS.out.rd i
      have c2 := fun i => cells_of HS.out.rc i
      have f1 := frozen_of HS.out.rd
      have f2 := frozen_of HS.out.rc
      go_region
      go_wp2
      refine bodyPost_ret (v := .tuple #[DescV.val ⟨0, 0, 0, 0⟩, .agg #[.slice B l.length k, .int .u64 ta, .int .u64 tl], .int .i64 152]) (by simp [results, Try.results76, go_sem, (HS.out.fin ⟨0, 0, 0, 0⟩ (.slice B l.length k) ta tl).1, (HS.out.fin ⟨0, 0, 0, 0⟩ (.slice B l.length k) ta tl).2.1, DescV.val]) (by with_reducible rfl) ?_
      refine ⟨⟨0, 0, 0, 0⟩, B, k, l.length, rfl, fun h0 => absurd h0 (by simp), ?_⟩
      with_reducible exact (HS.out.fin ⟨0, 0, 0, 0⟩ (.slice B l.length k) ta tl).2.2.1.drew
    · exact ralong_out size A n c N g bs base t sz ta tl 0 i B k l w hM hown hi
  | succ left ih =>
    intro i B k m l w hM ht hl hb hown hm
    subst hm
    by_cases hi : 0 ≤ i ∧ i < sz
    · obtain ⟨r, hr⟩ : ∃ r, alongS g size t sz (left + 1) i l = r := ⟨_, rfl⟩
      rw [hr]
      have HR := hid hr
      have hlf : ((left + 1 : Nat) : Int) = (left : Int) + 1 := by omega
      rw [hlf]
      have HS := hid (RIn.start (A := A) (n := n) (c := c) (ta := ta) (tl := tl) hM hown)
      obtain ⟨i0, i1⟩ := hi
      clear hM hown hr hlf
      go_enter Try.func76, Try.ntmps76
      go_wp2_with fail
      rw [← rin0]
      generalize rin0 w size A n c (.slice B l.length k) ta tl = W at HS ⊢
      refine (rdesc_calls size A n c t i g bs N W HS.out.ref ht).mono ?_
      rintro e w1 ⟨rfl, hk1⟩
      obtain ⟨d, hd⟩ : ∃ d, descS g size t i = d := ⟨_, rfl⟩
      rw [hd]
      have HI : Hid (RInD size A n c N g bs base (.slice B l.length k) l ta tl d w1.heap.size w (w1.alloc (.cells #[.int .u64 d.addr, .int .u32 d.len, .int .u16 d.flags, .int .u16 d.next] 165))) := hid ⟨HS.out.no (hk1.alloc _), at_new w1 _, Nat.lt_of_lt_of_le (lt_of HS.out.rc) hk1.size⟩
      have hdok : d.Ok := hd ▸ descS_ok HS.out.ref.byte size t i
      have HDO := hid hdok
      have hww : w.heap.size + 1 + 1 + 1 < w1.heap.size := HI.out.hq
      have HK1 := hid (Nat.le_trans HS.out.kept.size hk1.size)
      unfold DescV.val
      clear HS hk1 hdok
      cases ho : descOk size t i with
      | false =>
        have hr : r = ⟨21, ⟨0, 0, 0, 0⟩, l⟩ := by rw [← HR.out, alongS_place ⟨i0, i1⟩ ho]
        have HR2 := hid hr
        clear hd hr ho
        go_wp2_with fail
        generalize (w1.alloc (.cells #[.int .u64 d.addr, .int .u32 d.len, .int .u16 d.flags, .int .u16 d.next] 165)) = W1 at HI ⊢
        generalize w1.heap.size = q at HI hww ⊢
        have c0 := fun i => cells_of HI.out.cb i
        have c1 := fun i => cells_of HI.out.rd i
        have c2 := fun i => cells_of HI.out.rc i
        have c3 := fun i => cells_of HI.out.m i
        have c4 := fun i => cells_of HI.out.db i
        have f1 := frozen_of HI.out.rd
        have f2 := frozen_of HI.out.rc
        go_region
        go_wp2
        refine bodyPost_ret (v := .tuple #[d.val, .agg #[.slice B l.length k, .int .u64 ta, .int .u64 tl], .int .i64 21]) (by simp [results, Try.results76, go_sem, (HI.out.fin d (.slice B l.length k) ta tl).1, (HI.out.fin d (.slice B l.length k) ta tl).2.1, DescV.val]) (by with_reducible rfl) ?_
        refine ⟨d, B, k, l.length, by rw [HR2.out], fun h0 => absurd h0 (by rw [HR2.out]; simp), ?_⟩
        with_reducible exact (HI.out.fin d (.slice B l.length k) ta tl).2.2.1.drew
      | true =>
        go_wp2_with fail
        generalize (w1.alloc (.cells #[.int .u64 d.addr, .int .u32 d.len, .int .u16 d.flags, .int .u16 d.next] 165)) = W1 at HI ⊢
        generalize w1.heap.size = q at HI hww HK1 ⊢
        have c4 := fun i => cells_of HI.out.db i
        refine (rflag_calls d HDO.out 4 (by decide) _).mono ?_
        rintro e w2 ⟨rfl, hk2⟩
        have HI2 := hid (HI.out.no' hk2)
        have HK2 := hid (Nat.le_trans HK1.out (Nat.le_refl _))
        clear HI c4 hk2
        cases h4 : decide (d.flags / 4 % 2 = 1) with
        | true =>
          have hr : r = ⟨0, d, l⟩ := by rw [← HR.out, alongS_table ⟨i0, i1⟩ ho (by rw [hd]; exact h4), hd]
          have HR2 := hid hr
          clear hd hr ho h4
          have c0 := fun i => cells_of HI2.out.cb i
          have c1 := fun i => cells_of HI2.out.rd i
          have c2 := fun i => cells_of HI2.out.rc i
          have c3 := fun i => cells_of HI2.out.m i
          have c4 := fun i => cells_of HI2.out.db i
          have f0 := frozen_of HI2.out.cb
          have f1 := frozen_of HI2.out.rd
          have f2 := frozen_of HI2.out.rc
          go_wp2_with fail
          go_region
          go_wp2
          refine bodyPost_ret (v := .tuple #[d.val, .agg #[.slice B l.length k, .int .u64 ta, .int .u64 tl], .int .i64 0]) (by simp [results, Try.results76, go_sem, (HI2.out.fin d (.slice B l.length k) ta tl).1, (HI2.out.fin d (.slice B l.length k) ta tl).2.1, DescV.val]) (by with_reducible rfl) ?_
          refine ⟨d, B, k, l.length, by rw [HR2.out], fun h0 => ⟨by rw [HR2.out], by rw [HR2.out], by rw [HR2.out]; with_reducible exact own_drew (HI2.out.fin d (.slice B l.length k) ta tl).2.2.2⟩, ?_⟩
          with_reducible exact (HI2.out.fin d (.slice B l.length k) ta tl).2.2.1.drew
        | false =>
          have HD := hid hd
          have HO := hid ho
          have H4 := hid h4
          clear hd ho h4
          have ⟨l0, l1⟩ := HDO.out.len
          have wl : IntKind.u64.wrap d.len = d.len := w64 _ l0 (by omega)
          have c0 := fun i => cells_of HI2.out.cb i
          have c1 := fun i => cells_of HI2.out.rd i
          have c2 := fun i => cells_of HI2.out.rc i
          have c3 := fun i => cells_of HI2.out.m i
          have c4 := fun i => cells_of HI2.out.db i
          have f0 := frozen_of HI2.out.cb
          have f1 := frozen_of HI2.out.rd
          have f2 := frozen_of HI2.out.rc
          go_wp2_with fail
          refine (rhas_calls size A n c d.addr d.len _ HI2.out.ref.size HDO.out.addr ⟨l0, by clear wl; omega⟩).mono ?_
          rintro e w3 ⟨rfl, hk3⟩
          have HI3 := hid (HI2.out.no' hk3)
          clear HI2 c0 c1 c2 c3 c4 f0 f1 f2 hk3
          cases hin : inside d.addr d.len 2147483648 size with
          | false =>
            have hr : r = ⟨21, ⟨0, 0, 0, 0⟩, l⟩ := by rw [← HR.out, alongS_seg ⟨i0, i1⟩ HO.out (by rw [HD.out]; exact H4.out) (by rw [HD.out]; unfold segCode; rw [hin]; simp), HD.out]; unfold segCode; rw [hin]; simp
            have HR2 := hid hr
            clear hr hin
            have c0 := fun i => cells_of HI3.out.cb i
            have c1 := fun i => cells_of HI3.out.rd i
            have c2 := fun i => cells_of HI3.out.rc i
            have c3 := fun i => cells_of HI3.out.m i
            have c4 := fun i => cells_of HI3.out.db i
            have f0 := frozen_of HI3.out.cb
            have f1 := frozen_of HI3.out.rd
            have f2 := frozen_of HI3.out.rc
            go_wp2_with fail
            go_region
            go_wp2
            refine bodyPost_ret (v := .tuple #[d.val, .agg #[.slice B l.length k, .int .u64 ta, .int .u64 tl], .int .i64 21]) (by simp [results, Try.results76, go_sem, (HI3.out.fin d (.slice B l.length k) ta tl).1, (HI3.out.fin d (.slice B l.length k) ta tl).2.1, DescV.val]) (by with_reducible rfl) ?_
            refine ⟨d, B, k, l.length, by rw [HR2.out], fun h0 => absurd h0 (by rw [HR2.out]; simp), ?_⟩
            with_reducible exact (HI3.out.fin d (.slice B l.length k) ta tl).2.2.1.drew
          | true =>
            have HIN := hid hin
            clear hin
            obtain ⟨dw, hdw⟩ : ∃ dw, decide (d.flags / 2 % 2 = 1) = dw := ⟨_, rfl⟩
            have HDW := hid hdw
            clear hdw
            rcases List.eq_nil_or_concat l with hl0 | ⟨l0', s, hl0⟩
            · subst hl0
              have HSEG : Hid (segCode size (lastW []) d = 0) := hid (by unfold segCode; rw [HIN.out]; rfl)
              have HLEN : Hid (([] : List Seg).length = 0) := hid rfl
              have HLEN0 := HLEN
              obtain ⟨ti0, hi0, hz0, hzz1, hz2⟩ := info_parts info_seg
              have HI0 := hid hi0
              clear hi0
              have c0 := fun i => cells_of HI3.out.cb i
              have c1 := fun i => cells_of HI3.out.rd i
              have c2 := fun i => cells_of HI3.out.rc i
              have c3 := fun i => cells_of HI3.out.m i
              have c4 := fun i => cells_of HI3.out.db i
              have f0 := frozen_of HI3.out.cb
              have f1 := frozen_of HI3.out.rd
              have f2 := frozen_of HI3.out.rc
              have z0 := lt_of HI3.out.m
              have z1 := lt_of HI3.out.cb
              have z2 := lt_of HI3.out.rd
              have z3 := lt_of HI3.out.rc
              have z4 := lt_of HI3.out.db
              have hl57 : 0 ≤ 100000 := by omega
              have HOWN : Hid (w3.ownsRow base 57 3 (.slice B 0 k) 0 (scells [])) := hid (by have hh := HI3.out.own; first | exact hh | (rw [HLEN0.out] at hh; exact hh))
              have HSRC : Hid (Sl (w3.alloc (.cells #[] 57)) No B (scells [])) := hid ((own_sl HOWN.out (fun _ _ h => h)).no ((Kept.refl No w3).alloc _))
              have HSL : Hid ((scells []).length = 0 * 3) := hid (by rw [scells_length]; rfl)
              go_wp2_with (at_builtin; refine wpList_append_sl _ rfl (.tmp 78) (.tmp 80) _ rfl w3.heap.size 57 ti0 _ 3 24 Try.underlying36 HI0.out hz0 hzz1 hz2 rfl (by omega) (.slice (some ⟨w3.heap.size, 0, none⟩) 0 0) 0 [] rfl (World.ownsRow_made w3 #[] 0 (Nat.le_refl _) (by decide) rfl) No B 0 k (scells []) rfl HSRC.out HSL.out (scells_one []) (by unfold maxLen; omega) (by omega) (by simp) ?_; intro v5 w5 hown5 hg5 hat5)
              simp only [Nat.zero_add, List.nil_append] at hown5
              have HK5 : Hid (Kept No w3 w5) := hid (((Kept.refl No w3).alloc _).grown hg5 (fun kk hkk => .inr (Nat.le_of_eq (ownBlock_eq hkk))))
              obtain ⟨A5, k5, rfl⟩ := own_slice hown5
              have HI5 := hid (HI3.out.no' HK5.out)
              have HO5 := hid hown5
              clear hown5 hg5 hat5 HSRC HSL c0 c1 c2 c3 c4 f0 f1 f2 z0 z1 z2 z3 z4
              have c0 := fun i => cells_of HI5.out.cb i
              have c1 := fun i => cells_of HI5.out.rd i
              have c2 := fun i => cells_of HI5.out.rc i
              have c3 := fun i => cells_of HI5.out.m i
              have c4 := fun i => cells_of HI5.out.db i
              have f0 := frozen_of HI5.out.cb
              have f1 := frozen_of HI5.out.rd
              have f2 := frozen_of HI5.out.rc
              have z0 := lt_of HI5.out.m
              have z1 := lt_of HI5.out.cb
              have z2 := lt_of HI5.out.rd
              have z3 := lt_of HI5.out.rc
              have z4 := lt_of HI5.out.db
              go_wp2_with fail
              have HK6 := HK5
              have HB3 : Hid (base ≤ w3.heap.size) := hid (Nat.le_trans hb HI3.out.kept.size)
              have HLEN1 : Hid (([] : List Seg).length + 1 = 1) := hid (by rw [HLEN0.out])
              have D0 := HI5.out.d0
              have D1 := HI5.out.d1
              go_region_held3 (fun W => W.cell? ⟨q, 0, none⟩ = some (.int .u64 d.addr) ∧ W.cell? ⟨q, 1, none⟩ = some (.int .u32 d.len) ∧ W.cell? ⟨q, 2, none⟩ = some (.int .u16 d.flags) ∧ W.cell? ⟨q, 3, none⟩ = some (.int .u16 d.next))
                (first | (with_reducible exact ⟨HI8.out.d0, HI8.out.d1, HI8.out.d2, HI8.out.d3⟩) | (with_reducible exact ⟨HI5.out.d0, HI5.out.d1, HI5.out.d2, HI5.out.d3⟩) | (with_reducible exact ⟨HI5.out.drew.d0, HI5.out.drew.d1, HI5.out.drew.d2, HI5.out.drew.d3⟩) | go_keep)
                (first
                  | (go_at_call 77; ((with_reducible refine (rflag_calls' d HDO.out 2 (by decide) _).mono ?_); (rintro e w6 ⟨rfl, hk6⟩; rw [HDW.out]; have HK7 : Hid (Kept No w3 w6) := (by first | (with_reducible exact hid (HK6.out.trans hk6)) | (with_reducible exact hid (HK6.out.drew.trans hk6))); have HI7 := hid (HI3.out.no' HK7.out); have HO7 : Hid (w6.ownsRow w3.heap.size 57 3 (.slice A5 0 k5) 0 (scells [])) := (by first | (with_reducible exact hid (own_no0 HO5.out hk6)) | (with_reducible exact hid (own_no0 (own_drew HO5.out) hk6))); clear HI5 HO5 HK6; have HI5 := HI7; have HO5 := HO7; have HK6 := HK7; clear HI7 HO7 HK7 c0 c1 c2 c3 c4 f0 f1 f2 z0 z1 z2 z3 z4; clear hk6)))
                  | (refine step_append_lies _ (by rfl) _ _ _ (by rfl) w3.heap.size 57 ti0 _ 3 24 Try.underlying36 HI0.out hz0 hzz1 hz2 rfl (by omega) (.slice A5 0 k5) 0 (scells []) (by rfl) (HO5.out.alloc _) ⟨w6.heap.size, 0, none⟩ 1 1 [.int .u64 d.addr, .int .u64 d.len, .bool dw] (by rfl) (by rfl) (World.news_of_block (cs := #[.int .u64 d.addr, .int .u64 d.len, .bool dw]) (t := 57) (fr := (0, 0)) (heap_alloc_new w6 _)) (by simp [Value.oneCell']) (by omega) (by unfold maxLen; omega) (by omega) (Nat.le_trans HK6.out.size (by simp)) (w6.heap.size + 1) (by simp) ?_; intro g7 cap7 w7 hown7 hg7 hat7 hlt7; have HK7 : Hid (Kept No w3 w7) := hid ((HK6.out.alloc _).grown hg7 (fun kk hkk => .inr (own_lt HO5.out hkk).1)); have HI7 := hid (HI3.out.no' HK7.out); clear HI5; have HI5 := HI7; clear HI7; have HI8 := hid (HI3.out.push (sg := ⟨d.addr, d.len, dw⟩) HK7.out HLEN1.out (by have hh := hown7; simp only [Nat.zero_add] at hh; exact hh) HB3.out); have c0 := fun i => cells_of HI5.out.cb i; have f0 := frozen_of HI5.out.cb))
              have HLEN2 : Hid ((([] : List Seg) ++ [(⟨d.addr, d.len, dw⟩ : Seg)]).length = 1) := hid (by rw [List.length_append, HLEN0.out]; rfl)
              generalize w7.setCell ⟨w.heap.size + 1, 0, none⟩ (.slice (some ⟨g7, 0, none⟩) 1 cap7) = W8 at HI8 ⊢
              clear c0 f0 HI5 HO5 HK6 HK5 HLEN1 hown7 hg7 hat7 hlt7
              have c0 := fun i => cells_of HI8.out.cb i
              have c1 := fun i => cells_of HI8.out.rd i
              have c2 := fun i => cells_of HI8.out.rc i
              have c3 := fun i => cells_of HI8.out.m i
              have c4 := fun i => cells_of HI8.out.db i
              have f0 := frozen_of HI8.out.cb
              have f1 := frozen_of HI8.out.rd
              have f2 := frozen_of HI8.out.rc
              go_wp2_with fail
              refine (rflag_calls' d HDO.out 1 (by decide) _).mono ?_
              rintro e w9 ⟨rfl, hk9⟩
              have HI9 := hid (HI8.out.no' hk9)
              clear HI8 hk9 c0 c1 c2 c3 c4 f0 f1 f2
              cases h1 : decide (d.flags / 1 % 2 = 1) with
              | false =>
                have hr2 : r = ⟨0, d, [] ++ [⟨d.addr, d.len, dw⟩]⟩ := by rw [← HR.out, alongS_last ⟨i0, i1⟩ HO.out (by rw [HD.out]; exact H4.out) (by rw [HD.out]; exact HSEG.out) (by rw [HD.out]; exact h1), HD.out, HDW.out]
                have HR2 := hid hr2
                clear hr2 h1
                have c0 := fun i => cells_of HI9.out.cb i
                have c1 := fun i => cells_of HI9.out.rd i
                have c2 := fun i => cells_of HI9.out.rc i
                have c3 := fun i => cells_of HI9.out.m i
                have c4 := fun i => cells_of HI9.out.db i
                have f0 := frozen_of HI9.out.cb
                have f1 := frozen_of HI9.out.rd
                have f2 := frozen_of HI9.out.rc
                go_wp2_with fail
                go_region
                go_wp2
                refine bodyPost_ret (v := .tuple #[d.val, .agg #[.slice (some ⟨g7, 0, none⟩) 1 cap7, .int .u64 ta, .int .u64 tl], .int .i64 0]) (by simp [results, Try.results76, go_sem, (HI9.out.fin d (.slice (some ⟨g7, 0, none⟩) 1 cap7) ta tl).1, (HI9.out.fin d (.slice (some ⟨g7, 0, none⟩) 1 cap7) ta tl).2.1, DescV.val]) (by with_reducible rfl) ?_
                refine ⟨d, some ⟨g7, 0, none⟩, cap7, 1, by rw [HR2.out], fun h0 => ⟨by rw [HR2.out], by rw [HR2.out]; exact HLEN2.out.symm, by rw [HR2.out]; with_reducible exact own_drew (HI9.out.fin d (.slice (some ⟨g7, 0, none⟩) 1 cap7) ta tl).2.2.2⟩, ?_⟩
                with_reducible exact (HI9.out.fin d (.slice (some ⟨g7, 0, none⟩) 1 cap7) ta tl).2.2.1.drew
              | true =>
                have hr2 : alongS g size t sz left d.next ([] ++ [⟨d.addr, d.len, dw⟩]) = r := by rw [← HR.out, alongS_next ⟨i0, i1⟩ HO.out (by rw [HD.out]; exact H4.out) (by rw [HD.out]; exact HSEG.out) (by rw [HD.out]; exact h1), HD.out, HDW.out]
                have HR3 := hid hr2
                have ⟨nx0, nx1⟩ := HDO.out.next
                have hle : left ≤ 100000 := by omega
                clear hr2 h1
                have c0 := fun i => cells_of HI9.out.cb i
                have c1 := fun i => cells_of HI9.out.rd i
                have c2 := fun i => cells_of HI9.out.rc i
                have c3 := fun i => cells_of HI9.out.m i
                have c4 := fun i => cells_of HI9.out.db i
                have f0 := frozen_of HI9.out.cb
                have f1 := frozen_of HI9.out.rd
                have f2 := frozen_of HI9.out.rc
                go_wp2_with fail
                refine (ih d.next (some ⟨g7, 0, none⟩) cap7 1 ([] ++ [⟨d.addr, d.len, dw⟩]) _ HI9.out.ref ht (by rw [HLEN2.out]; have := HLEN0.out; omega) (Nat.le_trans hb HI9.out.kept.size) (by have hh := HI9.out.own; rw [HLEN2.out] at hh; exact hh) HLEN2.out).mono ?_
                rw [HR3.out]
                rintro e w10 ⟨d2, B2, k2, m2, rfl, hok, hk10⟩
                have HI10 := hid (HI9.out.no' hk10)
                have HOK := hid hok
                unfold DescV.val
                clear HI9 hk10 hok c0 c1 c2 c3 c4 f0 f1 f2
                have c0 := fun i => cells_of HI10.out.cb i
                have c1 := fun i => cells_of HI10.out.rd i
                have c2 := fun i => cells_of HI10.out.rc i
                have c3 := fun i => cells_of HI10.out.m i
                have c4 := fun i => cells_of HI10.out.db i
                have f0 := frozen_of HI10.out.cb
                have f1 := frozen_of HI10.out.rd
                have f2 := frozen_of HI10.out.rc
                go_wp2
                refine bodyPost_ret (v := .tuple #[d2.val, .agg #[.slice B2 m2 k2, .int .u64 ta, .int .u64 tl], .int .i64 r.code]) (by simp [results, Try.results76, go_sem, (HI10.out.fin d2 (.slice B2 m2 k2) ta tl).1, (HI10.out.fin d2 (.slice B2 m2 k2) ta tl).2.1, DescV.val]) (by with_reducible rfl) ?_
                exact ⟨d2, B2, k2, m2, rfl, fun h0 => ⟨(HOK.out h0).1, (HOK.out h0).2.1, HI10.out.fin_own d2 _ _ _ (HOK.out h0).2.2⟩, (HI10.out.fin d2 (.slice B2 m2 k2) ta tl).2.2.1⟩
            · rw [List.concat_eq_append] at hl0
              obtain ⟨L, hL⟩ : ∃ L, L = l0'.length := ⟨_, rfl⟩
              have hlen : l.length = L + 1 := by rw [hl0, List.length_append, hL]; rfl
              have hlw : lastW l = s.write := by rw [hl0, lastW_snoc]
              obtain ⟨gb, cap, hBe, _, _⟩ := HI3.out.own.form (by rw [hlen]; omega)
              obtain ⟨rfl, _, rfl⟩ : B = some ⟨gb, 0, none⟩ ∧ l.length = l.length ∧ k = cap := by simpa using hBe
              have hcell : w3.cell? ⟨gb, L * 3 + 2, none⟩ = some (.bool s.write) := by
                have hx : (scells l)[L * 3 + 2]? = some (.bool s.write) := by
                  rw [hl0, scells_snoc, List.getElem?_append_right (by rw [scells_length, hL]; omega), scells_length, ← hL, show L * 3 + 2 - L * 3 = 2 from by omega]; rfl
                have := HI3.out.own.cells (g := gb) rfl _ _ hx
                simpa [Addr.add] using this
              obtain ⟨sw, hsw⟩ : ∃ sw, s.write = sw := ⟨_, rfl⟩
              rw [hsw] at hcell hlw
              have HLW := hid hlw
              have hL9 : L < 100000 := by omega
              have HLEN := hid hlen
              have HLEN0 := HLEN
              rw [hlen] at HI3
              clear hL hl0 hsw hBe hlw
              cases sw with
              | false =>
                have HSEG : Hid (segCode size (lastW l) d = 0) := hid (by unfold segCode; rw [HIN.out, HLW.out]; rfl)
                obtain ⟨ti0, hi0, hz0, hzz1, hz2⟩ := info_parts info_seg
                have HI0 := hid hi0
                clear hi0
                have c0 := fun i => cells_of HI3.out.cb i
                have c1 := fun i => cells_of HI3.out.rd i
                have c2 := fun i => cells_of HI3.out.rc i
                have c3 := fun i => cells_of HI3.out.m i
                have c4 := fun i => cells_of HI3.out.db i
                have f0 := frozen_of HI3.out.cb
                have f1 := frozen_of HI3.out.rd
                have f2 := frozen_of HI3.out.rc
                have z0 := lt_of HI3.out.m
                have z1 := lt_of HI3.out.cb
                have z2 := lt_of HI3.out.rd
                have z3 := lt_of HI3.out.rc
                have z4 := lt_of HI3.out.db
                have hl57 : (L + 1) ≤ 100000 := by omega
                have HOWN : Hid (w3.ownsRow base 57 3 (.slice (some ⟨gb, 0, none⟩) (L + 1) k) (L + 1) (scells l)) := hid (by have hh := HI3.out.own; first | exact hh | (rw [HLEN0.out] at hh; exact hh))
                have HSRC : Hid (Sl (w3.alloc (.cells #[] 57)) No (some ⟨gb, 0, none⟩) (scells l)) := hid ((own_sl HOWN.out (fun _ _ h => h)).no ((Kept.refl No w3).alloc _))
                have HSL : Hid ((scells l).length = (L + 1) * 3) := hid (by rw [scells_length]; rw [HLEN0.out])
                go_wp2_with (at_builtin; refine wpList_append_sl _ rfl (.tmp 78) (.tmp 80) _ rfl w3.heap.size 57 ti0 _ 3 24 Try.underlying36 HI0.out hz0 hzz1 hz2 rfl (by omega) (.slice (some ⟨w3.heap.size, 0, none⟩) 0 0) 0 [] rfl (World.ownsRow_made w3 #[] 0 (Nat.le_refl _) (by decide) rfl) No (some ⟨gb, 0, none⟩) (L + 1) k (scells l) rfl HSRC.out HSL.out (scells_one l) (by unfold maxLen; omega) (by omega) (by simp) ?_; intro v5 w5 hown5 hg5 hat5)
                simp only [Nat.zero_add, List.nil_append] at hown5
                have HK5 : Hid (Kept No w3 w5) := hid (((Kept.refl No w3).alloc _).grown hg5 (fun kk hkk => .inr (Nat.le_of_eq (ownBlock_eq hkk))))
                obtain ⟨A5, k5, rfl⟩ := own_slice hown5
                have HI5 := hid (HI3.out.no' HK5.out)
                have HO5 := hid hown5
                clear hown5 hg5 hat5 HSRC HSL c0 c1 c2 c3 c4 f0 f1 f2 z0 z1 z2 z3 z4
                have c0 := fun i => cells_of HI5.out.cb i
                have c1 := fun i => cells_of HI5.out.rd i
                have c2 := fun i => cells_of HI5.out.rc i
                have c3 := fun i => cells_of HI5.out.m i
                have c4 := fun i => cells_of HI5.out.db i
                have f0 := frozen_of HI5.out.cb
                have f1 := frozen_of HI5.out.rd
                have f2 := frozen_of HI5.out.rc
                have z0 := lt_of HI5.out.m
                have z1 := lt_of HI5.out.cb
                have z2 := lt_of HI5.out.rd
                have z3 := lt_of HI5.out.rc
                have z4 := lt_of HI5.out.db
                go_wp2_with fail
                have HK6 := HK5
                have HB3 : Hid (base ≤ w3.heap.size) := hid (Nat.le_trans hb HI3.out.kept.size)
                have HLEN1 : Hid ((l).length + 1 = (L + 1 + 1)) := hid (by rw [HLEN0.out])
                have D0 := HI5.out.d0
                have D1 := HI5.out.d1
                go_region_held3 (fun W => W.cell? ⟨q, 0, none⟩ = some (.int .u64 d.addr) ∧ W.cell? ⟨q, 1, none⟩ = some (.int .u32 d.len) ∧ W.cell? ⟨q, 2, none⟩ = some (.int .u16 d.flags) ∧ W.cell? ⟨q, 3, none⟩ = some (.int .u16 d.next))
                  (first | (with_reducible exact ⟨HI8.out.d0, HI8.out.d1, HI8.out.d2, HI8.out.d3⟩) | (with_reducible exact ⟨HI5.out.d0, HI5.out.d1, HI5.out.d2, HI5.out.d3⟩) | (with_reducible exact ⟨HI5.out.drew.d0, HI5.out.drew.d1, HI5.out.drew.d2, HI5.out.drew.d3⟩) | go_keep)
                  (first
                    | (go_at_call 77; ((with_reducible refine (rflag_calls' d HDO.out 2 (by decide) _).mono ?_); (rintro e w6 ⟨rfl, hk6⟩; rw [HDW.out]; have HK7 : Hid (Kept No w3 w6) := (by first | (with_reducible exact hid (HK6.out.trans hk6)) | (with_reducible exact hid (HK6.out.drew.trans hk6))); have HI7 := hid (HI3.out.no' HK7.out); have HO7 : Hid (w6.ownsRow w3.heap.size 57 3 (.slice A5 (L + 1) k5) (L + 1) (scells l)) := (by first | (with_reducible exact hid (own_no0 HO5.out hk6)) | (with_reducible exact hid (own_no0 (own_drew HO5.out) hk6))); clear HI5 HO5 HK6; have HI5 := HI7; have HO5 := HO7; have HK6 := HK7; clear HI7 HO7 HK7 c0 c1 c2 c3 c4 f0 f1 f2 z0 z1 z2 z3 z4; clear hk6)))
                    | (refine step_append_lies _ (by rfl) _ _ _ (by rfl) w3.heap.size 57 ti0 _ 3 24 Try.underlying36 HI0.out hz0 hzz1 hz2 rfl (by omega) (.slice A5 (L + 1) k5) (L + 1) (scells l) (by rfl) (HO5.out.alloc _) ⟨w6.heap.size, 0, none⟩ 1 1 [.int .u64 d.addr, .int .u64 d.len, .bool dw] (by rfl) (by rfl) (World.news_of_block (cs := #[.int .u64 d.addr, .int .u64 d.len, .bool dw]) (t := 57) (fr := (0, 0)) (heap_alloc_new w6 _)) (by simp [Value.oneCell']) (by omega) (by unfold maxLen; omega) (by omega) (Nat.le_trans HK6.out.size (by simp)) (w6.heap.size + 1) (by simp) ?_; intro g7 cap7 w7 hown7 hg7 hat7 hlt7; have HK7 : Hid (Kept No w3 w7) := hid ((HK6.out.alloc _).grown hg7 (fun kk hkk => .inr (own_lt HO5.out hkk).1)); have HI7 := hid (HI3.out.no' HK7.out); clear HI5; have HI5 := HI7; clear HI7; have HI8 := hid (HI3.out.push (sg := ⟨d.addr, d.len, dw⟩) HK7.out HLEN1.out hown7 HB3.out); have c0 := fun i => cells_of HI5.out.cb i; have f0 := frozen_of HI5.out.cb))
                have HLEN2 : Hid ((l ++ [(⟨d.addr, d.len, dw⟩ : Seg)]).length = (L + 1 + 1)) := hid (by rw [List.length_append, HLEN0.out]; rfl)
                generalize w7.setCell ⟨w.heap.size + 1, 0, none⟩ (.slice (some ⟨g7, 0, none⟩) (L + 1 + 1) cap7) = W8 at HI8 ⊢
                clear c0 f0 HI5 HO5 HK6 HK5 HLEN1 hown7 hg7 hat7 hlt7
                have c0 := fun i => cells_of HI8.out.cb i
                have c1 := fun i => cells_of HI8.out.rd i
                have c2 := fun i => cells_of HI8.out.rc i
                have c3 := fun i => cells_of HI8.out.m i
                have c4 := fun i => cells_of HI8.out.db i
                have f0 := frozen_of HI8.out.cb
                have f1 := frozen_of HI8.out.rd
                have f2 := frozen_of HI8.out.rc
                go_wp2_with fail
                refine (rflag_calls' d HDO.out 1 (by decide) _).mono ?_
                rintro e w9 ⟨rfl, hk9⟩
                have HI9 := hid (HI8.out.no' hk9)
                clear HI8 hk9 c0 c1 c2 c3 c4 f0 f1 f2
                cases h1 : decide (d.flags / 1 % 2 = 1) with
                | false =>
                  have hr2 : r = ⟨0, d, l ++ [⟨d.addr, d.len, dw⟩]⟩ := by rw [← HR.out, alongS_last ⟨i0, i1⟩ HO.out (by rw [HD.out]; exact H4.out) (by rw [HD.out]; exact HSEG.out) (by rw [HD.out]; exact h1), HD.out, HDW.out]
                  have HR2 := hid hr2
                  clear hr2 h1
                  have c0 := fun i => cells_of HI9.out.cb i
                  have c1 := fun i => cells_of HI9.out.rd i
                  have c2 := fun i => cells_of HI9.out.rc i
                  have c3 := fun i => cells_of HI9.out.m i
                  have c4 := fun i => cells_of HI9.out.db i
                  have f0 := frozen_of HI9.out.cb
                  have f1 := frozen_of HI9.out.rd
                  have f2 := frozen_of HI9.out.rc
                  go_wp2_with fail
                  go_region
                  go_wp2
                  refine bodyPost_ret (v := .tuple #[d.val, .agg #[.slice (some ⟨g7, 0, none⟩) (L + 1 + 1) cap7, .int .u64 ta, .int .u64 tl], .int .i64 0]) (by simp [results, Try.results76, go_sem, (HI9.out.fin d (.slice (some ⟨g7, 0, none⟩) (L + 1 + 1) cap7) ta tl).1, (HI9.out.fin d (.slice (some ⟨g7, 0, none⟩) (L + 1 + 1) cap7) ta tl).2.1, DescV.val]) (by with_reducible rfl) ?_
                  refine ⟨d, some ⟨g7, 0, none⟩, cap7, (L + 1 + 1), by rw [HR2.out], fun h0 => ⟨by rw [HR2.out], by rw [HR2.out]; exact HLEN2.out.symm, by rw [HR2.out]; with_reducible exact own_drew (HI9.out.fin d (.slice (some ⟨g7, 0, none⟩) (L + 1 + 1) cap7) ta tl).2.2.2⟩, ?_⟩
                  with_reducible exact (HI9.out.fin d (.slice (some ⟨g7, 0, none⟩) (L + 1 + 1) cap7) ta tl).2.2.1.drew
                | true =>
                  have hr2 : alongS g size t sz left d.next (l ++ [⟨d.addr, d.len, dw⟩]) = r := by rw [← HR.out, alongS_next ⟨i0, i1⟩ HO.out (by rw [HD.out]; exact H4.out) (by rw [HD.out]; exact HSEG.out) (by rw [HD.out]; exact h1), HD.out, HDW.out]
                  have HR3 := hid hr2
                  have ⟨nx0, nx1⟩ := HDO.out.next
                  have hle : left ≤ 100000 := by omega
                  clear hr2 h1
                  have c0 := fun i => cells_of HI9.out.cb i
                  have c1 := fun i => cells_of HI9.out.rd i
                  have c2 := fun i => cells_of HI9.out.rc i
                  have c3 := fun i => cells_of HI9.out.m i
                  have c4 := fun i => cells_of HI9.out.db i
                  have f0 := frozen_of HI9.out.cb
                  have f1 := frozen_of HI9.out.rd
                  have f2 := frozen_of HI9.out.rc
                  go_wp2_with fail
                  refine (ih d.next (some ⟨g7, 0, none⟩) cap7 (L + 1 + 1) (l ++ [⟨d.addr, d.len, dw⟩]) _ HI9.out.ref ht (by rw [HLEN2.out]; have := HLEN0.out; omega) (Nat.le_trans hb HI9.out.kept.size) (by have hh := HI9.out.own; rw [HLEN2.out] at hh; exact hh) HLEN2.out).mono ?_
                  rw [HR3.out]
                  rintro e w10 ⟨d2, B2, k2, m2, rfl, hok, hk10⟩
                  have HI10 := hid (HI9.out.no' hk10)
                  have HOK := hid hok
                  unfold DescV.val
                  clear HI9 hk10 hok c0 c1 c2 c3 c4 f0 f1 f2
                  have c0 := fun i => cells_of HI10.out.cb i
                  have c1 := fun i => cells_of HI10.out.rd i
                  have c2 := fun i => cells_of HI10.out.rc i
                  have c3 := fun i => cells_of HI10.out.m i
                  have c4 := fun i => cells_of HI10.out.db i
                  have f0 := frozen_of HI10.out.cb
                  have f1 := frozen_of HI10.out.rd
                  have f2 := frozen_of HI10.out.rc
                  go_wp2
                  refine bodyPost_ret (v := .tuple #[d2.val, .agg #[.slice B2 m2 k2, .int .u64 ta, .int .u64 tl], .int .i64 r.code]) (by simp [results, Try.results76, go_sem, (HI10.out.fin d2 (.slice B2 m2 k2) ta tl).1, (HI10.out.fin d2 (.slice B2 m2 k2) ta tl).2.1, DescV.val]) (by with_reducible rfl) ?_
                  exact ⟨d2, B2, k2, m2, rfl, fun h0 => ⟨(HOK.out h0).1, (HOK.out h0).2.1, HI10.out.fin_own d2 _ _ _ (HOK.out h0).2.2⟩, (HI10.out.fin d2 (.slice B2 m2 k2) ta tl).2.2.1⟩
              | true =>
                have c0 := fun i => cells_of HI3.out.cb i
                have c1 := fun i => cells_of HI3.out.rd i
                have c2 := fun i => cells_of HI3.out.rc i
                have c3 := fun i => cells_of HI3.out.m i
                have c4 := fun i => cells_of HI3.out.db i
                have f0 := frozen_of HI3.out.cb
                have f1 := frozen_of HI3.out.rd
                have f2 := frozen_of HI3.out.rc
                go_wp2_with fail
                refine (rflag_calls' d HDO.out 2 (by decide) _).mono ?_
                rintro e w4 ⟨rfl, hk4⟩
                rw [HDW.out]
                have HI4 := hid (HI3.out.no' hk4)
                clear HI3 hk4 c0 c1 c2 c3 c4 f0 f1 f2 hcell
                cases dw with
                | false =>
                  have hr : r = ⟨155, ⟨0, 0, 0, 0⟩, l⟩ := by rw [← HR.out, alongS_seg ⟨i0, i1⟩ HO.out (by rw [HD.out]; exact H4.out) (by rw [HD.out]; unfold segCode; rw [HIN.out, HLW.out, HDW.out]; simp), HD.out]; unfold segCode; rw [HIN.out, HLW.out, HDW.out]; rfl
                  have HR2 := hid hr
                  clear hr
                  have c0 := fun i => cells_of HI4.out.cb i
                  have c1 := fun i => cells_of HI4.out.rd i
                  have c2 := fun i => cells_of HI4.out.rc i
                  have c3 := fun i => cells_of HI4.out.m i
                  have c4 := fun i => cells_of HI4.out.db i
                  have f0 := frozen_of HI4.out.cb
                  have f1 := frozen_of HI4.out.rd
                  have f2 := frozen_of HI4.out.rc
                  go_wp2_with fail
                  go_region
                  go_wp2
                  refine bodyPost_ret (v := .tuple #[d.val, .agg #[.slice (some ⟨gb, 0, none⟩) (L + 1) k, .int .u64 ta, .int .u64 tl], .int .i64 155]) (by simp [results, Try.results76, go_sem, (HI4.out.fin d (.slice (some ⟨gb, 0, none⟩) (L + 1) k) ta tl).1, (HI4.out.fin d (.slice (some ⟨gb, 0, none⟩) (L + 1) k) ta tl).2.1, DescV.val]) (by with_reducible rfl) ?_
                  refine ⟨d, some ⟨gb, 0, none⟩, k, L + 1, by rw [HR2.out], fun h0 => absurd h0 (by rw [HR2.out]; simp), ?_⟩
                  with_reducible exact (HI4.out.fin d (.slice (some ⟨gb, 0, none⟩) (L + 1) k) ta tl).2.2.1.drew
                | true =>
                  have HSEG : Hid (segCode size (lastW l) d = 0) := hid (by unfold segCode; rw [HIN.out, HLW.out, HDW.out]; rfl)
                  obtain ⟨ti0, hi0, hz0, hzz1, hz2⟩ := info_parts info_seg
                  have HI0 := hid hi0
                  clear hi0
                  have c0 := fun i => cells_of HI4.out.cb i
                  have c1 := fun i => cells_of HI4.out.rd i
                  have c2 := fun i => cells_of HI4.out.rc i
                  have c3 := fun i => cells_of HI4.out.m i
                  have c4 := fun i => cells_of HI4.out.db i
                  have f0 := frozen_of HI4.out.cb
                  have f1 := frozen_of HI4.out.rd
                  have f2 := frozen_of HI4.out.rc
                  have z0 := lt_of HI4.out.m
                  have z1 := lt_of HI4.out.cb
                  have z2 := lt_of HI4.out.rd
                  have z3 := lt_of HI4.out.rc
                  have z4 := lt_of HI4.out.db
                  have hl57 : (L + 1) ≤ 100000 := by omega
                  have HOWN : Hid (w4.ownsRow base 57 3 (.slice (some ⟨gb, 0, none⟩) (L + 1) k) (L + 1) (scells l)) := hid (by have hh := HI4.out.own; first | exact hh | (rw [HLEN0.out] at hh; exact hh))
                  have HSRC : Hid (Sl (w4.alloc (.cells #[] 57)) No (some ⟨gb, 0, none⟩) (scells l)) := hid ((own_sl HOWN.out (fun _ _ h => h)).no ((Kept.refl No w4).alloc _))
                  have HSL : Hid ((scells l).length = (L + 1) * 3) := hid (by rw [scells_length]; rw [HLEN0.out])
                  go_wp2_with (at_builtin; refine wpList_append_sl _ rfl (.tmp 78) (.tmp 80) _ rfl w4.heap.size 57 ti0 _ 3 24 Try.underlying36 HI0.out hz0 hzz1 hz2 rfl (by omega) (.slice (some ⟨w4.heap.size, 0, none⟩) 0 0) 0 [] rfl (World.ownsRow_made w4 #[] 0 (Nat.le_refl _) (by decide) rfl) No (some ⟨gb, 0, none⟩) (L + 1) k (scells l) rfl HSRC.out HSL.out (scells_one l) (by unfold maxLen; omega) (by omega) (by simp) ?_; intro v5 w5 hown5 hg5 hat5)
                  simp only [Nat.zero_add, List.nil_append] at hown5
                  have HK5 : Hid (Kept No w4 w5) := hid (((Kept.refl No w4).alloc _).grown hg5 (fun kk hkk => .inr (Nat.le_of_eq (ownBlock_eq hkk))))
                  obtain ⟨A5, k5, rfl⟩ := own_slice hown5
                  have HI5 := hid (HI4.out.no' HK5.out)
                  have HO5 := hid hown5
                  clear hown5 hg5 hat5 HSRC HSL c0 c1 c2 c3 c4 f0 f1 f2 z0 z1 z2 z3 z4
                  have c0 := fun i => cells_of HI5.out.cb i
                  have c1 := fun i => cells_of HI5.out.rd i
                  have c2 := fun i => cells_of HI5.out.rc i
                  have c3 := fun i => cells_of HI5.out.m i
                  have c4 := fun i => cells_of HI5.out.db i
                  have f0 := frozen_of HI5.out.cb
                  have f1 := frozen_of HI5.out.rd
                  have f2 := frozen_of HI5.out.rc
                  have z0 := lt_of HI5.out.m
                  have z1 := lt_of HI5.out.cb
                  have z2 := lt_of HI5.out.rd
                  have z3 := lt_of HI5.out.rc
                  have z4 := lt_of HI5.out.db
                  go_wp2_with fail
                  have HK6 := HK5
                  have HB3 : Hid (base ≤ w4.heap.size) := hid (Nat.le_trans hb HI4.out.kept.size)
                  have HLEN1 : Hid ((l).length + 1 = (L + 1 + 1)) := hid (by rw [HLEN0.out])
                  have D0 := HI5.out.d0
                  have D1 := HI5.out.d1
                  go_region_held3 (fun W => W.cell? ⟨q, 0, none⟩ = some (.int .u64 d.addr) ∧ W.cell? ⟨q, 1, none⟩ = some (.int .u32 d.len) ∧ W.cell? ⟨q, 2, none⟩ = some (.int .u16 d.flags) ∧ W.cell? ⟨q, 3, none⟩ = some (.int .u16 d.next))
                    (first | (with_reducible exact ⟨HI8.out.d0, HI8.out.d1, HI8.out.d2, HI8.out.d3⟩) | (with_reducible exact ⟨HI5.out.d0, HI5.out.d1, HI5.out.d2, HI5.out.d3⟩) | (with_reducible exact ⟨HI5.out.drew.d0, HI5.out.drew.d1, HI5.out.drew.d2, HI5.out.drew.d3⟩) | go_keep)
                    (first
                      | (go_at_call 77; ((with_reducible refine (rflag_calls' d HDO.out 2 (by decide) _).mono ?_); (rintro e w6 ⟨rfl, hk6⟩; rw [HDW.out]; have HK7 : Hid (Kept No w4 w6) := (by first | (with_reducible exact hid (HK6.out.trans hk6)) | (with_reducible exact hid (HK6.out.drew.trans hk6))); have HI7 := hid (HI4.out.no' HK7.out); have HO7 : Hid (w6.ownsRow w4.heap.size 57 3 (.slice A5 (L + 1) k5) (L + 1) (scells l)) := (by first | (with_reducible exact hid (own_no0 HO5.out hk6)) | (with_reducible exact hid (own_no0 (own_drew HO5.out) hk6))); clear HI5 HO5 HK6; have HI5 := HI7; have HO5 := HO7; have HK6 := HK7; clear HI7 HO7 HK7 c0 c1 c2 c3 c4 f0 f1 f2 z0 z1 z2 z3 z4; clear hk6)))
                      | (refine step_append_lies _ (by rfl) _ _ _ (by rfl) w4.heap.size 57 ti0 _ 3 24 Try.underlying36 HI0.out hz0 hzz1 hz2 rfl (by omega) (.slice A5 (L + 1) k5) (L + 1) (scells l) (by rfl) (HO5.out.alloc _) ⟨w6.heap.size, 0, none⟩ 1 1 [.int .u64 d.addr, .int .u64 d.len, .bool true] (by rfl) (by rfl) (World.news_of_block (cs := #[.int .u64 d.addr, .int .u64 d.len, .bool true]) (t := 57) (fr := (0, 0)) (heap_alloc_new w6 _)) (by simp [Value.oneCell']) (by omega) (by unfold maxLen; omega) (by omega) (Nat.le_trans HK6.out.size (by simp)) (w6.heap.size + 1) (by simp) ?_; intro g7 cap7 w7 hown7 hg7 hat7 hlt7; have HK7 : Hid (Kept No w4 w7) := hid ((HK6.out.alloc _).grown hg7 (fun kk hkk => .inr (own_lt HO5.out hkk).1)); have HI7 := hid (HI4.out.no' HK7.out); clear HI5; have HI5 := HI7; clear HI7; have HI8 := hid (HI4.out.push (sg := ⟨d.addr, d.len, true⟩) HK7.out HLEN1.out hown7 HB3.out); have c0 := fun i => cells_of HI5.out.cb i; have f0 := frozen_of HI5.out.cb))
                  have HLEN2 : Hid ((l ++ [(⟨d.addr, d.len, true⟩ : Seg)]).length = (L + 1 + 1)) := hid (by rw [List.length_append, HLEN0.out]; rfl)
                  generalize w7.setCell ⟨w.heap.size + 1, 0, none⟩ (.slice (some ⟨g7, 0, none⟩) (L + 1 + 1) cap7) = W8 at HI8 ⊢
                  clear c0 f0 HI5 HO5 HK6 HK5 HLEN1 hown7 hg7 hat7 hlt7
                  have c0 := fun i => cells_of HI8.out.cb i
                  have c1 := fun i => cells_of HI8.out.rd i
                  have c2 := fun i => cells_of HI8.out.rc i
                  have c3 := fun i => cells_of HI8.out.m i
                  have c4 := fun i => cells_of HI8.out.db i
                  have f0 := frozen_of HI8.out.cb
                  have f1 := frozen_of HI8.out.rd
                  have f2 := frozen_of HI8.out.rc
                  go_wp2_with fail
                  refine (rflag_calls' d HDO.out 1 (by decide) _).mono ?_
                  rintro e w9 ⟨rfl, hk9⟩
                  have HI9 := hid (HI8.out.no' hk9)
                  clear HI8 hk9 c0 c1 c2 c3 c4 f0 f1 f2
                  cases h1 : decide (d.flags / 1 % 2 = 1) with
                  | false =>
                    have hr2 : r = ⟨0, d, l ++ [⟨d.addr, d.len, true⟩]⟩ := by rw [← HR.out, alongS_last ⟨i0, i1⟩ HO.out (by rw [HD.out]; exact H4.out) (by rw [HD.out]; exact HSEG.out) (by rw [HD.out]; exact h1), HD.out, HDW.out]
                    have HR2 := hid hr2
                    clear hr2 h1
                    have c0 := fun i => cells_of HI9.out.cb i
                    have c1 := fun i => cells_of HI9.out.rd i
                    have c2 := fun i => cells_of HI9.out.rc i
                    have c3 := fun i => cells_of HI9.out.m i
                    have c4 := fun i => cells_of HI9.out.db i
                    have f0 := frozen_of HI9.out.cb
                    have f1 := frozen_of HI9.out.rd
                    have f2 := frozen_of HI9.out.rc
                    go_wp2_with fail
                    go_region
                    go_wp2
                    refine bodyPost_ret (v := .tuple #[d.val, .agg #[.slice (some ⟨g7, 0, none⟩) (L + 1 + 1) cap7, .int .u64 ta, .int .u64 tl], .int .i64 0]) (by simp [results, Try.results76, go_sem, (HI9.out.fin d (.slice (some ⟨g7, 0, none⟩) (L + 1 + 1) cap7) ta tl).1, (HI9.out.fin d (.slice (some ⟨g7, 0, none⟩) (L + 1 + 1) cap7) ta tl).2.1, DescV.val]) (by with_reducible rfl) ?_
                    refine ⟨d, some ⟨g7, 0, none⟩, cap7, (L + 1 + 1), by rw [HR2.out], fun h0 => ⟨by rw [HR2.out], by rw [HR2.out]; exact HLEN2.out.symm, by rw [HR2.out]; with_reducible exact own_drew (HI9.out.fin d (.slice (some ⟨g7, 0, none⟩) (L + 1 + 1) cap7) ta tl).2.2.2⟩, ?_⟩
                    with_reducible exact (HI9.out.fin d (.slice (some ⟨g7, 0, none⟩) (L + 1 + 1) cap7) ta tl).2.2.1.drew
                  | true =>
                    have hr2 : alongS g size t sz left d.next (l ++ [⟨d.addr, d.len, true⟩]) = r := by rw [← HR.out, alongS_next ⟨i0, i1⟩ HO.out (by rw [HD.out]; exact H4.out) (by rw [HD.out]; exact HSEG.out) (by rw [HD.out]; exact h1), HD.out, HDW.out]
                    have HR3 := hid hr2
                    have ⟨nx0, nx1⟩ := HDO.out.next
                    have hle : left ≤ 100000 := by omega
                    clear hr2 h1
                    have c0 := fun i => cells_of HI9.out.cb i
                    have c1 := fun i => cells_of HI9.out.rd i
                    have c2 := fun i => cells_of HI9.out.rc i
                    have c3 := fun i => cells_of HI9.out.m i
                    have c4 := fun i => cells_of HI9.out.db i
                    have f0 := frozen_of HI9.out.cb
                    have f1 := frozen_of HI9.out.rd
                    have f2 := frozen_of HI9.out.rc
                    go_wp2_with fail
                    refine (ih d.next (some ⟨g7, 0, none⟩) cap7 (L + 1 + 1) (l ++ [⟨d.addr, d.len, true⟩]) _ HI9.out.ref ht (by rw [HLEN2.out]; have := HLEN0.out; omega) (Nat.le_trans hb HI9.out.kept.size) (by have hh := HI9.out.own; rw [HLEN2.out] at hh; exact hh) HLEN2.out).mono ?_
                    rw [HR3.out]
                    rintro e w10 ⟨d2, B2, k2, m2, rfl, hok, hk10⟩
                    have HI10 := hid (HI9.out.no' hk10)
                    have HOK := hid hok
                    unfold DescV.val
                    clear HI9 hk10 hok c0 c1 c2 c3 c4 f0 f1 f2
                    have c0 := fun i => cells_of HI10.out.cb i
                    have c1 := fun i => cells_of HI10.out.rd i
                    have c2 := fun i => cells_of HI10.out.rc i
                    have c3 := fun i => cells_of HI10.out.m i
                    have c4 := fun i => cells_of HI10.out.db i
                    have f0 := frozen_of HI10.out.cb
                    have f1 := frozen_of HI10.out.rd
                    have f2 := frozen_of HI10.out.rc
                    go_wp2
                    refine bodyPost_ret (v := .tuple #[d2.val, .agg #[.slice B2 m2 k2, .int .u64 ta, .int .u64 tl], .int .i64 r.code]) (by simp [results, Try.results76, go_sem, (HI10.out.fin d2 (.slice B2 m2 k2) ta tl).1, (HI10.out.fin d2 (.slice B2 m2 k2) ta tl).2.1, DescV.val]) (by with_reducible rfl) ?_
                    exact ⟨d2, B2, k2, m2, rfl, fun h0 => ⟨(HOK.out h0).1, (HOK.out h0).2.1, HI10.out.fin_own d2 _ _ _ (HOK.out h0).2.2⟩, (HI10.out.fin d2 (.slice B2 m2 k2) ta tl).2.2.1⟩
    · exact ralong_out size A n c N g bs base t sz ta tl (left + 1) i B k l w hM hown hi
end Go.Proofs.Ytognedbehplaeaa
