/- Descriptors and the words of queues' areas: the program's and the document's. -/
import Derived.Test.YtognedbehplaeaaRefc
import Derived.Deep.RegionWith
set_option linter.unusedVariables false
namespace Go.Proofs.Ytognedbehplaeaa
open Go.RowKit

set_option maxRecDepth 100000 in
theorem rread_no (size : Int) (A : Option Addr) (n c : Nat) (a k : Int) (w : World) (hs : 0 ≤ size ∧ size ≤ 268435456) (ha : 0 ≤ a ∧ a ≤ 18446744073709551615) (hk : 0 ≤ k ∧ k ≤ 18446744073709551615) (hi : inside a k 2147483648 size = false) :
    Calls Try.prog 142 #[.agg #[.int .u64 size, .slice A n c], .int .u64 a, .int .u64 k] w fun e w' => e = .returned (.tuple #[.slice none 0 0, .bool false]) ∧ Kept No w w' := by
  have hc0 : ∀ i, (w.alloc (.cells #[.int .u64 size, .slice A n c] 32)).cell? ⟨w.heap.size, i, none⟩ = (#[.int .u64 size, .slice A n c] : Array Value)[i]? := fun i => cells_of (at_new w _) i
  have HK := hid ((Kept.refl No w).alloc (.cells #[.int .u64 size, .slice A n c] 32))
  go_enter Try.func142, Try.ntmps142
  go_wp2_with fail
  refine (rhas_calls _ _ _ _ _ _ _ hs ha hk).mono ?_
  rintro e w1 ⟨rfl, hk1⟩
  have HK1 := hid (HK.out.trans hk1)
  clear hk1 hc0
  go_wp2
  go_ret2
  exact ⟨rfl, HK1.out⟩
set_option maxRecDepth 100000 in
theorem read_no (p : Nat) (F : Nat → Prop) (size : Int) (g : Int → Int) (a n : Int) (w : World) (h : RamAt w p F size g) (ha : 0 ≤ a ∧ a ≤ 18446744073709551615) (hn : 0 ≤ n ∧ n ≤ 18446744073709551615) (hi : inside a n 2147483648 size = false) :
    Calls Try.prog 34 #[.pointer (some ⟨p, 0, none⟩), .int .u64 a, .int .u64 n] w fun e w' => e = .returned (.tuple #[.slice none 0 0, .bool false]) ∧ w' = w := by
  go_enter Try.func34, Try.ntmps34
  go_wp2_with (go_at_call 93; refine (has_calls _ _ _ _ _ _ _ h ha hn).mono ?_; rintro e w1 ⟨rfl, h1⟩; subst h1)
  go_ret2
  exact ⟨rfl, rfl⟩

/-- A word of n bytes at an address; 0 beyond. -/
def wordS (g : Int → Int) (size a n : Int) : Int := if inside a n 2147483648 size = true then le (rdl g (a - 2147483648) n.toNat) else 0

set_option maxRecDepth 100000 in
theorem rword_calls (size : Int) (A : Option Addr) (n c : Nat) (a k : Int) (g : Int → Int) (bs : List (Int × Int)) (N : Nat → Prop) (w : World) (h : RefM w N A n size g bs) (ha : 0 ≤ a ∧ a ≤ 18446744073709551615) (hk : 0 ≤ k ∧ k ≤ 8) :
    Calls Try.prog 98 #[.agg #[.int .u64 size, .slice A n c], .int .u64 a, .int .i64 k] w fun e w' => e = .returned (.int .u64 (wordS g size a k)) ∧ Kept No w w' := by
  have hs := h.size
  have hc0 : ∀ i, (w.alloc (.cells #[.int .u64 size, .slice A n c] 32)).cell? ⟨w.heap.size, i, none⟩ = (#[.int .u64 size, .slice A n c] : Array Value)[i]? := fun i => cells_of (at_new w _) i
  have hkk := (Kept.refl No w).alloc (.cells #[.int .u64 size, .slice A n c] 32)
  have HM := h.no hkk
  have HK := hid hkk
  have k0 := hk.1
  have k1 := hk.2
  clear hkk
  cases hi : inside a k 2147483648 size with
  | true =>
    have e : wordS g size a k = le (rdl g (a - 2147483648) k.toNat) := if_pos hi
    rw [e]
    have hbt := rdl_byt h.byte (a - 2147483648) k.toNat
    have hll := rdl_length g (a - 2147483648) k.toNat
    generalize hl : rdl g (a - 2147483648) k.toNat = l at *
    have HL := hid hl
    have hl8 : l.length ≤ 8 := by omega
    clear hl e hll
    go_enter Try.func98, Try.ntmps98
    go_wp2_with fail
    refine (rread_yes _ _ _ _ _ _ _ _ _ _ HM ha (by omega) hi).mono ?_
    rintro e w1 ⟨b, rfl, hbn, hb, hk1⟩
    rw [HL.out] at hb ⊢
    have HS := Sl.of_block hb (N := No) (fun h => h)
    have HK1 := hid (HK.out.trans hk1)
    clear hb hk1 hbn hc0
    go_wp2_with (go_at_call 26; refine (rof_calls _ l _ _ _ HS hbt (by omega)).mono ?_; rintro e w2 ⟨rfl, h2⟩; subst h2)
    go_ret
    exact ⟨rfl, HK1.out⟩
  | false =>
    have e : wordS g size a k = 0 := if_neg (by simp [hi])
    rw [e]
    clear e
    go_enter Try.func98, Try.ntmps98
    go_wp2_with fail
    refine (rread_no _ _ _ _ _ _ _ hs ha (by omega) hi).mono ?_
    rintro e w1 ⟨rfl, hk1⟩
    have HK1 := hid (HK.out.trans hk1)
    clear hk1 hc0
    go_wp2_with (go_at_call 26; refine (rof_calls _ [] _ No _ (Sl.nil _ _ _) (by intro x hx; simp at hx) (by simp)).mono ?_; rintro e w2 ⟨rfl, h2⟩; subst h2)
    go_ret
    exact ⟨rfl, HK1.out⟩

/-! ### The program's word out of bytes -/
set_option maxRecDepth 100000 in
theorem of_calls (A : Option Addr) (l : List Int) (c : Nat) (N : Nat → Prop) (w : World) (h : Sl w N A (by8 l)) (hb : Byt l) (hn : l.length ≤ 8) :
    Calls Try.prog 82 #[.slice A l.length c] w fun e w' => e = .returned (.int .u64 (le l)) ∧ w' = w := by
  go_enter Try.func82, Try.ntmps82
  go_wp2_with fail
  go_loop [3, 8] (fun v i => ∃ k : Nat, k ≤ l.length ∧ i = .int .i64 k ∧ v = .int .u64 (le (l.take k))) (fun _ i => l.length - (intOf i).toNat)
  case atStart => exact ⟨0, by omega, rfl, rfl⟩
  case round =>
    obtain ⟨k, hk, rfl, rfl⟩ := hrel
    by_cases hlt : k < l.length
    · obtain ⟨b, o, rfl, -, -, hc⟩ := h.at_ (by8_at hlt)
      have hx := hb.at_ k
      have k8 : ((k : Int) == 8) = false := by simp; omega
      have hst : bits .or .u64 (le (l.take k)) (IntKind.u64.wrap (l.getD k 0 * 2 ^ (8 * k))) = le (l.take (k + 1)) := by
        have hW := le_range (l := l.take k) (fun x hx => hb x (List.mem_of_mem_take hx))
        have e1 : (l.take k).length = k := by rw [List.length_take]; omega
        rw [e1] at hW
        have e2 : l.take (k + 1) = l.take k ++ [l.getD k 0] := by
          rw [List.take_add_one, List.getD, List.getElem?_eq_getElem hlt]; rfl
        rw [e2, le_snoc, e1, ← or_byte k (by omega) _ _ hW.1 hW.2 hx.1 hx.2, pow256']
      have HS := hid hst
      clear hst
      generalize l.getD k 0 = x at *
      go_wp2
      go_round
      case rel => exact ⟨k + 1, by omega, by go_num, by rw [HS.out]⟩
      case measure => simp [intOf]; omega
    · have hkk : k = l.length := by omega
      subst hkk
      rw [List.take_length]
      go_wp2
      go_ret
      exact ⟨rfl, rfl⟩
theorem of_calls' (A : Option Addr) (n : Nat) (l : List Int) (c : Nat) (N : Nat → Prop) (w : World) (h : Sl w N A (by8 l)) (hb : Byt l) (hl : l.length = n) (hn : n ≤ 8) :
    Calls Try.prog 82 #[.slice A n c] w fun e w' => e = .returned (.int .u64 (le l)) ∧ w' = w := by
  subst hl
  exact of_calls A l c N w h hb hn

/-- A part of a block that is known whole, as a slice. -/
theorem Sl.of_part {w : World} {b : Nat} {cs ds : List Value} {t : TypeId} {N : Nat → Prop} (o : Nat) (h : w.heap[b]? = some (.cells cs.toArray t (0, 0))) (hN : ¬ N b) (hd : ∀ (j : Nat) (u : Value), ds[j]? = some u → cs[o + j]? = some u) : Sl w N (some ⟨b, o, none⟩) ds :=
  .inr ⟨b, o, rfl, hN, lt_of h, fun j u hu => by rw [cells_of h, List.getElem?_toArray]; exact hd j u hu⟩
theorem by8_rdl_part (g : Int → Int) (o : Int) (n k m : Nat) (h : k + m ≤ n) : ∀ (j : Nat) (u : Value), (by8 (rdl g (o + k) m))[j]? = some u → (by8 (rdl g o n))[k + j]? = some u := by
  intro j u hu
  have hj : j < m := by
    have := (List.getElem?_eq_some_iff.1 hu).1
    simpa [by8, rdl] using this
  have e1 : (rdl g (o + k) m)[j]? = some (g (o + k + j)) := rdl_at g _ hj
  have e2 : (rdl g o n)[k + j]? = some (g (o + (k + j : Nat))) := rdl_at g _ (by omega)
  rw [by8, List.getElem?_map, e1] at hu
  rw [by8, List.getElem?_map, e2, ← hu, show o + ((k + j : Nat) : Int) = o + k + j from by omega]

/-! ### Descriptors -/
structure DescV where
  addr : Int
  len : Int
  flags : Int
  next : Int
def DescV.val (d : DescV) : Value := .agg #[.int .u64 d.addr, .int .u32 d.len, .int .u16 d.flags, .int .u16 d.next]
/-- The descriptor that 16 bytes are. -/
def descAt (g : Int → Int) (o : Int) : DescV := ⟨le (rdl g o 8), le (rdl g (o + 8) 4), le (rdl g (o + 12) 2), le (rdl g (o + 14) 2)⟩
def descOk (size table i : Int) : Bool := decide (0 ≤ i ∧ i < 256) && inside ((table + 16 * i) % 18446744073709551616) 16 2147483648 size
def descS (g : Int → Int) (size table i : Int) : DescV := if descOk size table i = true then descAt g ((table + 16 * i) % 18446744073709551616 - 2147483648) else ⟨0, 0, 0, 0⟩
structure DescV.Ok (d : DescV) : Prop where
  addr : 0 ≤ d.addr ∧ d.addr ≤ 18446744073709551615
  len : 0 ≤ d.len ∧ d.len ≤ 4294967295
  flags : 0 ≤ d.flags ∧ d.flags ≤ 65535
  next : 0 ≤ d.next ∧ d.next ≤ 65535
theorem le_rdl {g : Int → Int} (hg : ∀ o, 0 ≤ g o ∧ g o ≤ 255) (o : Int) (n : Nat) (m : Int) (hm : (256 : Int) ^ n = m + 1) : 0 ≤ le (rdl g o n) ∧ le (rdl g o n) ≤ m := by
  have := le_range (rdl_byt hg o n)
  rw [rdl_length, hm] at this
  omega
theorem descAt_ok {g : Int → Int} (hg : ∀ o, 0 ≤ g o ∧ g o ≤ 255) (o : Int) : (descAt g o).Ok :=
  ⟨le_rdl hg _ 8 _ (by decide), le_rdl hg _ 4 _ (by decide), le_rdl hg _ 2 _ (by decide), le_rdl hg _ 2 _ (by decide)⟩
theorem descS_ok {g : Int → Int} (hg : ∀ o, 0 ≤ g o ∧ g o ≤ 255) (size table i : Int) : (descS g size table i).Ok := by
  unfold descS
  split
  · exact descAt_ok hg _
  · exact ⟨by decide, by decide, by decide, by decide⟩

def DescPost (d : DescV) (ok : Bool) (w : World) (e : Ending) (w' : World) : Prop := e = .returned (.tuple #[d.val, .bool ok]) ∧ Kept No w w'

set_option maxRecDepth 100000 in
theorem desc_calls (p : Nat) (F : Nat → Prop) (size : Int) (g : Int → Int) (t i : Int) (w : World) (h : RamAt w p F size g) (ht : 0 ≤ t ∧ t ≤ 18446744073709551615) (hi : 0 ≤ i ∧ i < 256) (hok : inside ((t + 16 * i) % 18446744073709551616) 16 2147483648 size = true) :
    Calls Try.prog 133 #[.pointer (some ⟨p, 0, none⟩), .int .u64 t, .int .i64 i] w (DescPost (descAt g ((t + 16 * i) % 18446744073709551616 - 2147483648)) true w) := by
  obtain ⟨i0, i1⟩ := hi
  obtain ⟨t0, t1⟩ := ht
  obtain ⟨a, ha⟩ : ∃ a, a = (t + 16 * i) % 18446744073709551616 := ⟨_, rfl⟩
  have hw : IntKind.u64.wrap (t + 16 * i) = a := by rw [IntKind.wrap_u64, ha]
  have hw' : IntKind.u64.wrap (t + IntKind.u64.wrap (16 * i)) = a := by rw [IntKind.wrap_u64, IntKind.wrap_u64, ha]; omega
  rw [← ha] at hok ⊢
  have a0 : 0 ≤ a ∧ a ≤ 18446744073709551615 := by omega
  clear ha
  go_enter Try.func133, Try.ntmps133
  go_wp2_with fail
  refine (read_yes _ _ _ _ _ _ _ (h.no ((Kept.refl No w).alloc _)) a0 (by omega) hok).mono ?_
  rintro e w1 ⟨b, rfl, hbn, hb, hk1⟩
  have hret := at_kept (at_new w (.cells #[.int .u64 0, .int .u32 0, .int .u16 0, .int .u16 0] 165)) hk1 (fun h => h)
  have hkk := ((Kept.refl No w).alloc (.cells #[.int .u64 0, .int .u32 0, .int .u16 0, .int .u16 0] 165)).trans hk1
  rw [show (16 : Int).toNat = 16 from rfl] at hb ⊢
  rw [rdl_length]
  obtain ⟨o, ho⟩ : ∃ o, o = a - 2147483648 := ⟨_, rfl⟩
  rw [← ho] at hb
  have HO := hid ho
  clear ho
  have s1 := Sl.of_part (N := No) 0 hb (fun h => h) (by8_rdl_part g o 16 0 8 (by omega))
  have s2 := Sl.of_part (N := No) 8 hb (fun h => h) (by8_rdl_part g o 16 8 4 (by omega))
  have s3 := Sl.of_part (N := No) 12 hb (fun h => h) (by8_rdl_part g o 16 12 2 (by omega))
  have s4 := Sl.of_part (N := No) 14 hb (fun h => h) (by8_rdl_part g o 16 14 2 (by omega))
  have c0 := fun i => cells_of hret i
  have f0 := frozen_of hret
  have HR := hid hret
  have HK := hid hkk
  clear hret hkk hk1 hb hbn
  have hbt := fun (x : Int) (n : Nat) => rdl_byt h.byte x n
  have hd := descAt_ok h.byte o
  have e1 : IntKind.u32.wrap (le (rdl g (o + 8) 4)) = le (rdl g (o + 8) 4) := by have := hd.len; simp only [descAt] at this; rw [IntKind.wrap_u32]; omega
  have e2 : IntKind.u16.wrap (le (rdl g (o + 12) 2)) = le (rdl g (o + 12) 2) := by have := hd.flags; simp only [descAt] at this; rw [IntKind.wrap_u16]; omega
  have e3 : IntKind.u16.wrap (le (rdl g (o + 14) 2)) = le (rdl g (o + 14) 2) := by have := hd.next; simp only [descAt] at this; rw [IntKind.wrap_u16]; omega
  clear h hd
  go_wp2_with fail
  go_region_with (first
    | (go_at_call 82; ((with_reducible refine (of_calls' (some ⟨b, 0, none⟩) 8 (rdl g (o + 0) 8) _ No _ ?_ ?_ ?_ ?_).mono ?_); (exact s1); (exact hbt _ _); (exact rdl_length _ _ _); omega; rintro e w2 ⟨rfl, h2⟩; subst h2))
    | (go_at_call 82; ((with_reducible refine (of_calls' (some ⟨b, 8, none⟩) 4 (rdl g (o + 8) 4) _ No _ ?_ ?_ ?_ ?_).mono ?_); (exact s2); (exact hbt _ _); (exact rdl_length _ _ _); omega; rintro e w2 ⟨rfl, h2⟩; subst h2))
    | (go_at_call 82; ((with_reducible refine (of_calls' (some ⟨b, 12, none⟩) 2 (rdl g (o + 12) 2) _ No _ ?_ ?_ ?_ ?_).mono ?_); (exact s3); (exact hbt _ _); (exact rdl_length _ _ _); omega; rintro e w2 ⟨rfl, h2⟩; subst h2))
    | (go_at_call 82; ((with_reducible refine (of_calls' (some ⟨b, 14, none⟩) 2 (rdl g (o + 14) 2) _ No _ ?_ ?_ ?_ ?_).mono ?_); (exact s4); (exact hbt _ _); (exact rdl_length _ _ _); omega; rintro e w2 ⟨rfl, h2⟩; subst h2)))
  go_wp2
  have hr := at_set (at_set (at_set (at_set HR.out 0 (.int .u64 (le (rdl g o 8)))) 1 (.int .u32 (le (rdl g (o + 8) 4)))) 2 (.int .u16 (le (rdl g (o + 12) 2)))) 3 (.int .u16 (le (rdl g (o + 14) 2)))
  have hq := fun i => cells_of hr i
  refine bodyPost_ret (v := .tuple #[(descAt g o).val, .bool true]) (by simp [results, Try.results133, go_sem, Act.put, hq, DescV.val, descAt]) rfl ⟨by rw [HO.out], ?_⟩
  exact ((((HK.out.set (.inr (Nat.le_refl _)) _).set (.inr (Nat.le_refl _)) _).set (.inr (Nat.le_refl _)) _).set (.inr (Nat.le_refl _)) _).drew

end Go.Proofs.Ytognedbehplaeaa
