/- The document's Write, whether inside or not; small words on slices far from a memory. -/
import Derived.Test.YtognedbehplaeaaRefc
set_option linter.unusedVariables false
namespace Go.Proofs.Ytognedbehplaeaa
open Go.RowKit

theorem Kept.reads {w w' : World} (k : Kept No w w') : (∀ b o, b < w.heap.size → w'.cell? ⟨b, o, none⟩ = w.cell? ⟨b, o, none⟩) ∧ (∀ b o, b < w.heap.size → w'.frozen? ⟨b, o, none⟩ = w.frozen? ⟨b, o, none⟩) :=
  ⟨fun b o h => World.cell?_of_block (a := ⟨b, o, none⟩) (k.block b h (fun h => h)), fun b o h => World.frozen?_of_block (a := ⟨b, o, none⟩) (k.block b h (fun h => h))⟩
/-- A slice that was there keeps away from what came later. -/
theorem Sl.far {w w' : World} {F : Nat → Prop} {A : Option Addr} {cs : List Value} (h : Sl w No A cs) (k : Kept No w w') (hF : ∀ b, F b → w.heap.size ≤ b) : Sl w' F A cs := by
  rcases h with h | ⟨b, o, h1, h2, h3, h4⟩
  · exact .inl h
  · exact .inr ⟨b, o, h1, fun hf => by have := hF b hf; omega, Nat.lt_of_lt_of_le h3 k.size, fun j u hu => (World.cell?_of_block (w := w) (a := ⟨b, o + j, none⟩) (k.block b h3 (fun h => h))).trans (h4 j u hu)⟩

set_option maxRecDepth 100000 in
theorem rwrite_no (size : Int) (A : Option Addr) (n c : Nat) (a : Int) (g : Int → Int) (bs : List (Int × Int)) (N : Nat → Prop) (A2 : Option Addr) (m c2 : Nat) (w : World) (h : RefM w N A n size g bs) (ha : 0 ≤ a ∧ a ≤ 18446744073709551615)
    (hn : m ≤ 140737488355328) (hi : inside a m 2147483648 size = false) :
    Calls Try.prog 71 #[.agg #[.int .u64 size, .slice A n c], .int .u64 a, .slice A2 m c2] w (RWPost w size false g N n) := by
  have hs := h.size
  have c0 : ∀ o i, ((w.alloc (.cells #[.int .u64 size, .slice A n c] 32)).alloc o).cell? ⟨w.heap.size, i, none⟩ = (#[.int .u64 size, .slice A n c] : Array Value)[i]? := fun o i => cells_of (at_alloc (at_new w _) o) i
  have HK := hid (((Kept.refl No w).alloc (.cells #[.int .u64 size, .slice A n c] 32)).alloc (.cells #[.int .u64 0, .slice none 0 0] 32))
  go_enter Try.func71, Try.ntmps71
  go_wp2_with fail
  refine (rhas_calls _ _ _ _ _ _ _ hs ha (by omega)).mono ?_
  rintro e w1 ⟨rfl, hk1⟩
  have hb0 := at_kept (at_alloc (at_new w (.cells #[.int .u64 size, .slice A n c] 32)) (.cells #[.int .u64 0, .slice none 0 0] 32)) hk1 (fun h => h)
  have hb1 : w1.heap[w.heap.size + 1]? = some (.cells #[.int .u64 0, .slice none 0 0] 32 (0, 0)) := at_kept (by have := at_new (w.alloc (.cells #[.int .u64 size, .slice A n c] 32)) (.cells #[.int .u64 0, .slice none 0 0] 32); simpa using this) hk1 (fun h => h)
  have HB1 := hid hb1
  have HK1 := hid (HK.out.trans hk1)
  have d0 := fun i => cells_of hb0 i
  have d1 := fun i => cells_of hb1 i
  have f1 := frozen_of hb1
  clear hb0 hb1 hk1 c0
  go_wp2
  have hr := fun i => cells_of (at_set (at_set HB1.out 0 (.int .u64 size)) 1 (.slice A n c)) i
  refine bodyPost_ret (v := .tuple #[.agg #[.int .u64 size, .slice A n c], .bool false]) (by simp [results, Try.results71, go_sem, hr]) rfl ?_
  have hk := (HK1.out.set (p := ⟨w.heap.size + 1, 0, none⟩) (.inr (Nat.le_succ _)) (.int .u64 size)).set (p := ⟨w.heap.size + 1, 1, none⟩) (.inr (Nat.le_succ _)) (.slice A n c)
  exact ⟨A, c, bs, rfl, h.no hk, hk⟩

theorem rwrite_any (size : Int) (A : Option Addr) (n c : Nat) (a : Int) (g : Int → Int) (bs : List (Int × Int)) (N : Nat → Prop) (A2 : Option Addr) (l : List Int) (c2 : Nat) (w : World) (h : RefM w N A n size g bs) (ha : 0 ≤ a ∧ a ≤ 18446744073709551615)
    (hl : Sl w N A2 (by8 l)) (hb : Byt l) (hN : ∀ b, N b → b < w.heap.size) (hn : n + l.length ≤ 17592186044416) :
    Calls Try.prog 71 #[.agg #[.int .u64 size, .slice A n c], .int .u64 a, .slice A2 l.length c2] w
      (RWPost w size (inside a l.length 2147483648 size) (if inside a l.length 2147483648 size = true then wr g (a - 2147483648) l else g) N (if inside a l.length 2147483648 size = true then n + l.length else n)) := by
  cases hi : inside a l.length 2147483648 size with
  | true => exact rwrite_calls size A n c a g bs N A2 l c2 w h ha hl hb hN hn hi
  | false => exact rwrite_no size A n c a g bs N A2 l.length c2 w h ha (by omega) hi
theorem rwrite_any' (size : Int) (A : Option Addr) (n c : Nat) (a : Int) (g : Int → Int) (bs : List (Int × Int)) (N : Nat → Prop) (A2 : Option Addr) (l : List Int) (m c2 : Nat) (w : World) (hm : l.length = m) (h : RefM w N A n size g bs) (ha : 0 ≤ a ∧ a ≤ 18446744073709551615)
    (hl : Sl w N A2 (by8 l)) (hb : Byt l) (hN : ∀ b, N b → b < w.heap.size) (hn : n + m ≤ 17592186044416) :
    Calls Try.prog 71 #[.agg #[.int .u64 size, .slice A n c], .int .u64 a, .slice A2 m c2] w
      (RWPost w size (inside a m 2147483648 size) (if inside a m 2147483648 size = true then wr g (a - 2147483648) l else g) N (if inside a m 2147483648 size = true then n + m else n)) := by
  subst hm
  exact rwrite_any size A n c a g bs N A2 l c2 w h ha hl hb hN hn
theorem write_calls' (p : Nat) (F : Nat → Prop) (size : Int) (g : Int → Int) (a : Int) (A : Option Addr) (l : List Int) (m c : Nat) (w : World) (hm : l.length = m) (h : RamAt w p F size g) (ha : 0 ≤ a ∧ a ≤ 18446744073709551615)
    (hl : Sl w F A (by8 l)) (hb : Byt l) (hn : m ≤ 140737488355328) :
    Calls Try.prog 31 #[.pointer (some ⟨p, 0, none⟩), .int .u64 a, .slice A m c] w (RamPost w p F size (.bool (inside a m 2147483648 size)) (if inside a m 2147483648 size = true then wr g (a - 2147483648) l else g)) := by
  subst hm
  exact write_calls p F size g a A l c w h ha hl hb hn
theorem RamAt.set {w : World} {p : Nat} {F : Nat → Prop} {size : Int} {g : Int → Int} (h : RamAt w p F size g) {b i : Nat} (v : Value) (hb : ¬ F b) : RamAt (w.setCell ⟨b, i, none⟩ v) p F size g :=
  h.stay (by simp) (fun j hj => Below.heap_setCell w ⟨b, i, none⟩ v j (by rintro rfl; exact hb hj))
theorem RefM.kept {w w' : World} {N F : Nat → Prop} {A : Option Addr} {n : Nat} {size : Int} {g : Int → Int} {bs : List (Int × Int)} (h : RefM w N A n size g bs) (k : Kept F w w') (hF : ∀ b, F b → N b) : RefM w' N A n size g bs :=
  ⟨h.len, h.sl.kept k hF, h.ok, h.same, h.size, h.byte, h.max⟩
theorem RefM.less {w : World} {N F : Nat → Prop} {A : Option Addr} {n : Nat} {size : Int} {g : Int → Int} {bs : List (Int × Int)} (h : RefM w N A n size g bs) (hF : ∀ b, F b → b < w.heap.size → N b) : RefM w F A n size g bs :=
  ⟨h.len, h.sl.less hF, h.ok, h.same, h.size, h.byte, h.max⟩
theorem RefM.set {w : World} {N : Nat → Prop} {A : Option Addr} {n : Nat} {size : Int} {g : Int → Int} {bs : List (Int × Int)} (h : RefM w N A n size g bs) {b i : Nat} (v : Value) (hb : N b) : RefM (w.setCell ⟨b, i, none⟩ v) N A n size g bs :=
  h.kept (F := fun x => x = b) (Kept.set (F := fun x => x = b) (Kept.refl (fun x => x = b) w) (p := ⟨b, i, none⟩) (.inl rfl) v) (fun _ e => e ▸ hb)
end Go.Proofs.Ytognedbehplaeaa
