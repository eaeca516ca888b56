/- The document's memory: a list of what was written. What its functions come to. -/
import Derived.Test.YtognedbehplaeaaRefa
set_option linter.unusedVariables false
namespace Go.Proofs.Ytognedbehplaeaa
open Go.RowKit

/-- The last byte that was written at a place. -/
def rg (bs : List (Int × Int)) (a : Int) : Int := bs.foldl (fun v p => if p.1 = a then p.2 else v) 0
theorem rg_append (bs cs : List (Int × Int)) (a : Int) : rg (bs ++ cs) a = cs.foldl (fun v p => if p.1 = a then p.2 else v) (rg bs a) := by simp [rg]
theorem rg_snoc (bs : List (Int × Int)) (x v a : Int) : rg (bs ++ [(x, v)]) a = if x = a then v else rg bs a := by rw [rg_append]; rfl
/-- Such a list in memory. -/
def bcells (bs : List (Int × Int)) : List Value := bs.flatMap fun p => [.int .u64 p.1, .int .u8 p.2]
theorem bcells_length (bs : List (Int × Int)) : (bcells bs).length = bs.length * 2 := by
  induction bs with
  | nil => rfl
  | cons p bs ih => simp [bcells] at ih ⊢; omega
theorem bcells_at {bs : List (Int × Int)} {j : Nat} {p : Int × Int} (h : bs[j]? = some p) : (bcells bs)[j * 2]? = some (.int .u64 p.1) ∧ (bcells bs)[j * 2 + 1]? = some (.int .u8 p.2) := by
  induction bs generalizing j with
  | nil => simp at h
  | cons q bs ih =>
    cases j with
    | zero => simp at h; subst h; simp [bcells]
    | succ j =>
      have := ih (j := j) (by simpa using h)
      have e : (j + 1) * 2 = j * 2 + 1 + 1 := by omega
      rw [e]
      simpa [bcells] using this

/-- The document's memory, of so many bytes, holds g. -/
structure RefM (w : World) (N : Nat → Prop) (A : Option Addr) (n : Nat) (size : Int) (g : Int → Int) (bs : List (Int × Int)) : Prop where
  len : n = bs.length
  sl : Sl w N A (bcells bs)
  ok : ∀ p ∈ bs, 2147483648 ≤ p.1 ∧ p.1 < 2147483648 + size ∧ 0 ≤ p.2 ∧ p.2 ≤ 255
  same : ∀ o, 0 ≤ o → o < size → rg bs (2147483648 + o) = g o
  size : 0 ≤ size ∧ size ≤ 268435456
  byte : ∀ o, 0 ≤ g o ∧ g o ≤ 255
  max : n ≤ 1152921504606846976

/-- The byte at an address; 0 beyond. -/
def look (g : Int → Int) (size a : Int) : Int := if inside a 1 2147483648 size = true then g (a - 2147483648) else 0
theorem rg_none {bs : List (Int × Int)} {a : Int} (h : ∀ p ∈ bs, p.1 ≠ a) (v : Int) : bs.foldl (fun v p => if p.1 = a then p.2 else v) v = v := by
  induction bs with
  | nil => rfl
  | cons p bs ih =>
    rw [List.foldl_cons, if_neg (h p (by simp))]
    exact ih (fun q hq => h q (by simp [hq]))
theorem RefM.look {w : World} {N : Nat → Prop} {A : Option Addr} {n : Nat} {size : Int} {g : Int → Int} {bs : List (Int × Int)} (h : RefM w N A n size g bs) (a : Int) : rg bs a = look g size a := by
  unfold Go.Proofs.Ytognedbehplaeaa.look
  cases hi : inside a 1 2147483648 size with
  | true =>
    have := inside_true hi
    rw [if_pos rfl, ← h.same _ (by omega) (by omega)]
    congr 1
    omega
  | false =>
    have hn := inside_false hi
    have hs := h.size
    rw [if_neg (by simp)]
    refine rg_none (fun p hp e => ?_) 0
    have := h.ok p hp
    omega

set_option maxRecDepth 100000 in
theorem rget_calls (size : Int) (A : Option Addr) (n c : Nat) (a : Int) (g : Int → Int) (bs : List (Int × Int)) (N : Nat → Prop) (w : World) (h : RefM w N A n size g bs) :
    Calls Try.prog 108 #[.agg #[.int .u64 size, .slice A n c], .int .u64 a] w fun e w' => e = .returned (.int .u8 (look g size a)) ∧ Kept No w w' := by
  obtain ⟨rfl⟩ := h.len
  have hm := h.max
  go_enter Try.func108, Try.ntmps108
  go_wp2
  have hS := h.sl.no ((Kept.refl No w).alloc (.cells #[.int .u64 size, .slice A bs.length c] 32))
  have hc0 : ∀ i, (w.alloc (.cells #[.int .u64 size, .slice A bs.length c] 32)).cell? ⟨w.heap.size, i, none⟩ = (#[.int .u64 size, .slice A bs.length c] : Array Value)[i]? := fun i => cells_of (at_new w _) i
  have HL := hid (h.look a)
  have HK := hid ((Kept.refl No w).alloc (.cells #[.int .u64 size, .slice A bs.length c] 32))
  generalize (w.alloc (.cells #[.int .u64 size, .slice A bs.length c] 32)) = W at *
  go_loop [5] (fun i => ∃ k : Nat, k ≤ bs.length ∧ i = .int .i64 ((k : Int) - 1) ∧ rg bs a = rg (bs.take k) a) (fun i => (intOf i + 1).toNat)
  case atStart => exact ⟨bs.length, Nat.le_refl _, rfl, by rw [List.take_length]⟩
  case round =>
    obtain ⟨k, hk, rfl, hr⟩ := hrel
    cases k with
    | zero =>
      have hz : rg bs a = 0 := by rw [hr]; rfl
      have HZ := hid hz
      clear hr hz
      go_wp2
      go_ret
      exact ⟨by rw [← HL.out, HZ.out]; rfl, HK.out⟩
    | succ k =>
      have hlt : k < bs.length := by omega
      obtain ⟨p, hp⟩ : ∃ p, bs[k]? = some p := ⟨_, List.getElem?_eq_getElem hlt⟩
      obtain ⟨b, o, rfl, -, -, hc1⟩ := hS.at_ (bcells_at hp).1
      obtain ⟨b', o', e', -, -, hc2⟩ := hS.at_ (bcells_at hp).2
      obtain ⟨rfl, rfl⟩ : b = b' ∧ o = o' := by simpa using e'
      rw [← Nat.add_assoc] at hc2
      have ht : rg (bs.take (k + 1)) a = if p.1 = a then p.2 else rg (bs.take k) a := by
        rw [List.take_add_one, hp]
        exact rg_snoc _ p.1 p.2 a
      have HR := hid (hr.trans ht)
      clear hr hp e' ht
      by_cases hpa : p.1 = a
      · have hb : (p.1 == a) = true := by simp [hpa]
        have HA := hid hpa
        clear hpa
        go_wp2
        go_ret
        exact ⟨by rw [← HL.out, HR.out, if_pos HA.out]; rfl, HK.out⟩
      · have hb : (p.1 == a) = false := by simp [hpa]
        have HA := hid hpa
        clear hpa
        go_wp2
        go_round
        case rel => exact ⟨k, by omega, rfl, by rw [HR.out, if_neg HA.out]⟩
        case measure => simp [intOf]

set_option maxRecDepth 100000 in
theorem rhas_calls (size : Int) (A : Option Addr) (n c : Nat) (a k : Int) (w : World) (hs : 0 ≤ size ∧ size ≤ 268435456) (ha : 0 ≤ a ∧ a ≤ 18446744073709551615) (hk : 0 ≤ k ∧ k ≤ 18446744073709551615) :
    Calls Try.prog 73 #[.agg #[.int .u64 size, .slice A n c], .int .u64 a, .int .u64 k] w fun e w' => e = .returned (.bool (inside a k 2147483648 size)) ∧ Kept No w w' := by
  have hc0 : ∀ i, (w.alloc (.cells #[.int .u64 size, .slice A n c] 32)).cell? ⟨w.heap.size, i, none⟩ = (#[.int .u64 size, .slice A n c] : Array Value)[i]? := fun i => cells_of (at_new w _) i
  have HK := hid ((Kept.refl No w).alloc (.cells #[.int .u64 size, .slice A n c] 32))
  go_enter Try.func73, Try.ntmps73
  go_wp2_with (go_at_call 132; refine (rwithin_calls _ _ _ _ _ ha hk (by omega) (by omega)).mono ?_; rintro e w1 ⟨rfl, h1⟩; subst h1)
  go_ret
  exact ⟨rfl, HK.out⟩

theorem info_byte : (Try.prog.info? 240).map (fun i => (i.zero, i.size, i.bytes)) = some (some (.agg #[.int .u64 0, .int .u8 0]), 2, 16) := by kernel_rfl
theorem made2 (n : Nat) : madeCells #[.int .u64 0, .int .u8 0] (n * 2) = (bcells (List.replicate n (0, 0))).toArray := by
  apply Array.ext'
  apply List.ext_getElem
  · rw [Array.length_toList, size_madeCells]
    simp [bcells_length]
  · intro i h1 h2
    have hi : i < n * 2 := by rw [Array.length_toList, size_madeCells] at h1; exact h1
    have hj : (List.replicate n ((0 : Int), (0 : Int)))[i / 2]? = some (0, 0) := by rw [List.getElem?_replicate, if_pos (by omega)]
    have hb := bcells_at hj
    have e2 : (bcells (List.replicate n (0, 0)))[i]? = some (if i % 2 = 0 then .int .u64 0 else .int .u8 0) := by
      by_cases hp : i % 2 = 0
      · rw [if_pos hp, show i = i / 2 * 2 from by omega]; exact hb.1
      · rw [if_neg hp, show i = i / 2 * 2 + 1 from by omega]; exact hb.2
    have e1 : (madeCells #[.int .u64 0, .int .u8 0] (n * 2)).toList[i] = if i % 2 = 0 then .int .u64 0 else .int .u8 0 := by
      have e3 : (madeCells #[.int .u64 0, .int .u8 0] (n * 2)).toList[i] = (#[.int .u64 0, .int .u8 0] : Array Value)[i % 2]! := by simp [madeCells]
      rw [e3]
      rcases (show i % 2 = 0 ∨ i % 2 = 1 by omega) with hp | hp <;> rw [hp] <;> rfl
    rw [List.getElem?_eq_getElem (by simpa using h2)] at e2
    injection e2 with e2
    rw [e1, ← e2]
/-- The first k of a list, zeros behind them. -/
def partP (xs : List (Int × Int)) (k : Nat) : List (Int × Int) := xs.take k ++ List.replicate (xs.length - k) (0, 0)
theorem partP_zero (xs : List (Int × Int)) : partP xs 0 = List.replicate xs.length (0, 0) := by simp [partP]
theorem partP_all (xs : List (Int × Int)) : partP xs xs.length = xs := by simp [partP]
theorem partP_length (xs : List (Int × Int)) {k : Nat} (h : k ≤ xs.length) : (partP xs k).length = xs.length := by simp [partP]; omega
theorem partP_set (xs : List (Int × Int)) {k : Nat} {p : Int × Int} (h : xs[k]? = some p) : (partP xs k).set k p = partP xs (k + 1) := by
  have hk : k < xs.length := (List.getElem?_eq_some_iff.1 h).1
  have hp : xs[k] = p := (List.getElem?_eq_some_iff.1 h).2
  apply List.ext_getElem
  · simp [partP]; omega
  · intro i h1 h2
    simp only [partP, List.getElem_set, List.getElem_append, List.length_take, List.getElem_take, List.getElem_replicate]
    by_cases e : k = i
    · subst e
      rw [if_pos rfl, dif_pos (by omega), hp]
    · rw [if_neg e]
      by_cases e2 : i < k
      · rw [dif_pos (by omega), dif_pos (by omega)]
      · rw [dif_neg (by omega), dif_neg (by omega)]
theorem bcells_set (ys : List (Int × Int)) : ∀ (k : Nat) (p : Int × Int), k < ys.length → ((bcells ys).set (k * 2) (.int .u64 p.1)).set (k * 2 + 1) (.int .u8 p.2) = bcells (ys.set k p) := by
  induction ys with
  | nil => intro k p h; simp at h
  | cons q ys ih =>
    intro k p h
    cases k with
    | zero => simp [bcells]
    | succ k =>
      have := ih k p (by simpa using h)
      rw [show (k + 1) * 2 = k * 2 + 1 + 1 from by omega]
      simpa [bcells] using this
theorem bcells_store (ys : List (Int × Int)) {k : Nat} (p : Int × Int) (h : k < ys.length) : ((bcells ys).toArray.setIfInBounds (k * 2) (.int .u64 p.1)).setIfInBounds (k * 2 + 1) (.int .u8 p.2) = (bcells (ys.set k p)).toArray := by
  rw [← bcells_set ys k p h]
  simp
theorem run_make2 (n : Nat) (h : n ≤ 17592186044416) (w : World) : (Instr.makeSlice 30 (.int .i64 (n : Int)) (.int .i64 (n : Int))).run Try.prog w = .ok (.slice (some ⟨w.heap.size, 0, none⟩) n n) (w.alloc (.cells (bcells (List.replicate n (0, 0))).toArray 240)) := by
  cases hi : Try.prog.info? 240 with
  | none => have := info_byte; rw [hi] at this; cases this
  | some i =>
    have hb := info_byte
    rw [hi] at hb
    simp only [Option.map_some, Option.some.injEq, Prod.mk.injEq] at hb
    obtain ⟨h1, h2, h3⟩ := hb
    rw [run_make w 30 240 i _ Try.underlying30 hi h1 .i64 .i64 n n (by omega) (by omega) (by rw [h3]; omega) (by omega), h2, Int.toNat_natCast]
    show _ = Result.ok _ (w.alloc (.cells (bcells (List.replicate n (0, 0))).toArray 240))
    rw [← made2]
    rfl

/-- The bytes that a write adds. -/
def newP (a : Int) (l : List Int) : List (Int × Int) := (List.range l.length).map fun i : Nat => (a + i, l.getD i 0)
/-- Where a write stands: k of the new list are laid. -/
structure WrSt (w : World) (size : Int) (A : Option Addr) (n c lb : Nat) (xs : List (Int × Int)) (k : Nat) (wr : World) : Prop where
  box : wr.heap[w.heap.size]? = some (.cells #[.int .u64 size, .slice A n c] 32 (0, 0))
  ret : wr.heap[w.heap.size + 1]? = some (.cells #[.int .u64 0, .slice none 0 0] 32 (0, 0))
  list : wr.heap[lb]? = some (.cells (bcells (partP xs k)).toArray 240 (0, 0))
  kept : Kept No w wr
theorem WrSt.cell {w wr : World} {size : Int} {A : Option Addr} {n c lb k : Nat} {xs : List (Int × Int)} (h : WrSt w size A n c lb xs k wr) (hk : k < xs.length) :
    wr.cell? ⟨lb, k * 2, none⟩ = some (.int .u64 0) ∧ wr.cell? ⟨lb, k * 2 + 1, none⟩ = some (.int .u8 0) := by
  have hp : (partP xs k)[k]? = some (0, 0) := by
    unfold partP
    rw [List.getElem?_append_right (by rw [List.length_take]; omega), List.getElem?_replicate, List.length_take, if_pos (by omega)]
  have := bcells_at hp
  rw [cells_of h.list, cells_of h.list, List.getElem?_toArray, List.getElem?_toArray]
  exact this

theorem WrSt.step {w wr : World} {size : Int} {A : Option Addr} {n c lb k : Nat} {xs : List (Int × Int)} {p : Int × Int} (h : WrSt w size A n c lb xs k wr) (hp : xs[k]? = some p) (h1 : lb ≠ w.heap.size) (h2 : lb ≠ w.heap.size + 1) (h3 : w.heap.size ≤ lb) :
    WrSt w size A n c lb xs (k + 1) ((wr.setCell ⟨lb, k * 2, none⟩ (.int .u64 p.1)).setCell ⟨lb, k * 2 + 1, none⟩ (.int .u8 p.2)) where
  box := at_far (at_far h.box (p := ⟨lb, k * 2, none⟩) h1.symm _) (p := ⟨lb, k * 2 + 1, none⟩) h1.symm _
  ret := at_far (at_far h.ret (p := ⟨lb, k * 2, none⟩) h2.symm _) (p := ⟨lb, k * 2 + 1, none⟩) h2.symm _
  list := by
    have hk : k < xs.length := (List.getElem?_eq_some_iff.1 hp).1
    rw [at_set (at_set h.list _ _) _ _, bcells_store _ p (by rw [partP_length _ (by omega)]; exact hk), partP_set xs hp]
  kept := (h.kept.set (.inr h3) _).set (.inr h3) _
theorem newP_at {a : Int} {l : List Int} {k : Nat} (h : k < l.length) : (newP a l)[k]? = some (a + k, l.getD k 0) := by simp [newP, h]

theorem WrSt.drew {w wr : World} {size : Int} {A : Option Addr} {n c lb k : Nat} {xs : List (Int × Int)} (h : WrSt w size A n c lb xs k wr) : WrSt w size A n c lb xs k wr.drew := ⟨h.box, h.ret, h.list, h.kept.drew⟩
theorem rg_newP (bs : List (Int × Int)) (a : Int) (l : List Int) (x : Int) : rg (bs ++ newP a l) x = if a ≤ x ∧ x < a + l.length then l.getD (x - a).toNat 0 else rg bs x := by
  have key : ∀ k, k ≤ l.length → rg (bs ++ (newP a l).take k) x = if a ≤ x ∧ x < a + k then l.getD (x - a).toNat 0 else rg bs x := by
    intro k
    induction k with
    | zero => intro _; rw [if_neg (by omega)]; simp
    | succ k ih =>
      intro hk
      rw [List.take_add_one, newP_at (by omega), ← List.append_assoc]
      show rg (bs ++ (newP a l).take k ++ [(a + k, l.getD k 0)]) x = _
      rw [rg_snoc, ih (by omega)]
      by_cases h : a + k = x
      · rw [if_pos h, if_pos (by omega), show (x - a).toNat = k from by omega]
      · rw [if_neg h]
        by_cases h2 : a ≤ x ∧ x < a + k
        · rw [if_pos h2, if_pos (by omega)]
        · rw [if_neg h2, if_neg (by omega)]
  have := key l.length (Nat.le_refl _)
  rwa [List.take_of_length_le (by simp [newP])] at this
theorem RefM.grow {w w' : World} {N N' : Nat → Prop} {A A' : Option Addr} {n n' : Nat} {size a : Int} {g : Int → Int} {bs : List (Int × Int)} {l : List Int} (h : RefM w N A n size g bs) (hb : Byt l) (hi : inside a l.length 2147483648 size = true)
    (hl : (bs ++ newP a l).length = n') (hs : Sl w' N' A' (bcells (bs ++ newP a l))) (hm : n' ≤ 1152921504606846976) : RefM w' N' A' n' size (Go.Proofs.Ytognedbehplaeaa.wr g (a - 2147483648) l) (bs ++ newP a l) where
  len := hl.symm
  sl := hs
  ok := fun p hp => by
    rcases List.mem_append.1 hp with hp | hp
    · exact h.ok p hp
    · obtain ⟨i, hi', rfl⟩ := List.mem_map.1 hp
      have hin := inside_true hi
      have := List.mem_range.1 hi'
      have := hb.at_ i
      refine ⟨?_, ?_, this.1, this.2⟩ <;> simp <;> omega
  same := fun o h0 h1 => by
    rw [rg_newP, h.same o h0 h1]
    unfold Go.Proofs.Ytognedbehplaeaa.wr
    by_cases hc : a ≤ 2147483648 + o ∧ 2147483648 + o < a + l.length
    · rw [if_pos hc, if_pos (by omega), show (2147483648 + o - a).toNat = (o - (a - 2147483648)).toNat from by omega]
    · rw [if_neg hc, if_neg (by omega)]
  size := h.size
  byte := wr_byte h.byte hb
  max := hm

/-- What a write of the document's memory ends in. -/
def RWPost (w : World) (size : Int) (v : Bool) (g : Int → Int) (N : Nat → Prop) (n : Nat) (e : Ending) (w' : World) : Prop :=
  ∃ A c bs, e = .returned (.tuple #[.agg #[.int .u64 size, .slice A n c], .bool v]) ∧ RefM w' N A n size g bs ∧ Kept No w w'

set_option maxRecDepth 100000 in
theorem rwrite_calls (size : Int) (A : Option Addr) (n c : Nat) (a : Int) (g : Int → Int) (bs : List (Int × Int)) (N : Nat → Prop) (A2 : Option Addr) (l : List Int) (c2 : Nat) (w : World) (h : RefM w N A n size g bs) (ha : 0 ≤ a ∧ a ≤ 18446744073709551615)
    (hl : Sl w N A2 (by8 l)) (hb : Byt l) (hN : ∀ b, N b → b < w.heap.size) (hn : n + l.length ≤ 17592186044416) (hi : inside a l.length 2147483648 size = true) :
    Calls Try.prog 71 #[.agg #[.int .u64 size, .slice A n c], .int .u64 a, .slice A2 l.length c2] w (RWPost w size true (wr g (a - 2147483648) l) N (n + l.length)) := by
  obtain ⟨rfl⟩ := h.len
  have hm := h.max
  have hs := h.size
  have hc0 : ∀ i, (w.alloc (.cells #[.int .u64 size, .slice A bs.length c] 32)).cell? ⟨w.heap.size, i, none⟩ = (#[.int .u64 size, .slice A bs.length c] : Array Value)[i]? := fun i => cells_of (at_new w _) i
  have hmk := run_make2 (bs.length + l.length) hn
  rw [Int.natCast_add] at hmk
  go_enter Try.func71, Try.ntmps71
  go_wp2_with fail
  refine (rhas_calls _ _ _ _ _ _ _ hs ha (by omega)).mono ?_
  rintro e w1 ⟨rfl, hk1⟩
  have hb0 := at_kept (at_alloc (at_new w (.cells #[.int .u64 size, .slice A bs.length c] 32)) (.cells #[.int .u64 0, .slice none 0 0] 32)) hk1 (fun h => h)
  have hb1 := at_kept (at_new (w.alloc (.cells #[.int .u64 size, .slice A bs.length c] 32)) (.cells #[.int .u64 0, .slice none 0 0] 32)) hk1 (fun h => h)
  have e1 : (w.alloc (.cells #[.int .u64 size, .slice A bs.length c] 32)).heap.size = w.heap.size + 1 := by simp
  rw [e1] at hb1
  have hk2 := (((Kept.refl No w).alloc (.cells #[.int .u64 size, .slice A bs.length c] 32)).alloc (.cells #[.int .u64 0, .slice none 0 0] 32)).trans hk1
  have c0 := fun i => cells_of hb0 i
  have c1 := fun i => cells_of hb1 i
  have HB0 := hid hb0
  have HB1 := hid hb1
  have HK2 := hid hk2
  clear hb0 hb1 hk2 hk1 hc0 e1
  go_wp2_with fail
  have hx : ∀ k, k < bs.length → (bs ++ newP a l)[k]? = bs[k]? := fun k hk => List.getElem?_append_left hk
  have hxl : (bs ++ newP a l).length = bs.length + l.length := by simp [newP]
  have h1l : w1.heap.size ≠ w.heap.size := by have := lt_of HB0.out; omega
  have h2l : w1.heap.size ≠ w.heap.size + 1 := by have := lt_of HB1.out; omega
  go_loopw [9] (fun i wr => ∃ k : Nat, k ≤ bs.length ∧ i = .int .i64 k ∧ WrSt w size A bs.length c w1.heap.size (bs ++ newP a l) k wr) (fun i _ => bs.length - (intOf i).toNat)
  case atStart => exact ⟨0, by omega, rfl, at_alloc HB0.out _, at_alloc HB1.out _, by rw [partP_zero, hxl]; exact at_new w1 _, HK2.out.alloc _⟩
  case round =>
    obtain ⟨k, hk, rfl, hS⟩ := hrel
    by_cases hlt : k < bs.length
    · obtain ⟨p, hp⟩ : ∃ p, bs[k]? = some p := ⟨_, List.getElem?_eq_getElem hlt⟩
      obtain ⟨b, o, rfl, -, -, hc1⟩ := (h.sl.no hS.kept).at_ (bcells_at hp).1
      obtain ⟨b', o', e', -, -, hc2⟩ := (h.sl.no hS.kept).at_ (bcells_at hp).2
      obtain ⟨rfl, rfl⟩ : b = b' ∧ o = o' := by simpa using e'
      rw [← Nat.add_assoc] at hc2
      have c0 := fun i => cells_of hS.box i
      have f0 := frozen_of hS.list
      have d0 := hS.cell (show k < (bs ++ newP a l).length by omega)
      have HS := hid hS
      have HP := hid ((hx k hlt).trans hp)
      clear hS hp e' hx
      go_wp2
      go_roundw
      case rel => exact ⟨k + 1, by omega, by go_num, HS.out.step HP.out h1l h2l (by have := HK2.out.size; omega)⟩
      case measure => simp [intOf]; omega
    · have hkk : k = bs.length := by omega
      subst hkk
      have c0 := fun i => cells_of hS.box i
      have HS := hid hS
      have HX := hid hx
      clear hS hx
      go_wp2_with fail
      clear c0
      go_loopw [10] (fun i wr => ∃ k : Nat, k ≤ l.length ∧ i = .int .i64 k ∧ WrSt w size A bs.length c w1.heap.size (bs ++ newP a l) (bs.length + k) wr) (fun i _ => l.length - (intOf i).toNat)
      case atStart => exact ⟨0, by omega, rfl, HS.out⟩
      case round =>
        obtain ⟨k, hk, rfl, hS⟩ := hrel
        by_cases hlt : k < l.length
        · obtain ⟨b, o, rfl, -, -, hcell⟩ := (hl.no hS.kept).at_ (by8_at hlt)
          have hp : (bs ++ newP a l)[bs.length + k]? = some (a + k, l.getD k 0) := by
            rw [List.getElem?_append_right (by omega), show bs.length + k - bs.length = k from by omega, newP_at hlt]
          have hx := hb.at_ k
          have hin := inside_true hi
          have c0 := fun i => cells_of hS.box i
          have f0 := frozen_of hS.list
          have d0 := hS.cell (show bs.length + k < (bs ++ newP a l).length by omega)
          have HS := hid hS
          have HPP := hid hp
          clear hS hp
          generalize hv : l.getD k 0 = v at *
          have HV := hid hv
          clear hv
          go_wp2
          go_region
          go_wp2
          go_roundw
          case rel => exact ⟨k + 1, by omega, by go_num, (HS.out.step HPP.out h1l h2l (by have := HK2.out.size; omega)).drew⟩
          case measure => simp [intOf]; omega
        · have hkk : k = l.length := by omega
          subst hkk
          rw [← hxl] at hS
          have hall := hS.list
          rw [partP_all] at hall
          have c0 := fun i => cells_of hS.box i
          have f0 := frozen_of hS.box
          have c1 := fun i => cells_of hS.ret i
          have f1 := frozen_of hS.ret
          have HS := hid hS
          have HALL := hid hall
          clear hS hall
          go_wp2
          have hr := at_set (at_set (at_far HS.out.ret (p := ⟨w.heap.size, 1, none⟩) (by simp) (.slice (some ⟨w1.heap.size, 0, none⟩) (bs.length + l.length) (bs.length + l.length))) 0 (.int .u64 size)) 1 (.slice (some ⟨w1.heap.size, 0, none⟩) (bs.length + l.length) (bs.length + l.length))
          have hq := fun i => cells_of hr i
          refine bodyPost_ret (v := .tuple #[.agg #[.int .u64 size, .slice (some ⟨w1.heap.size, 0, none⟩) (bs.length + l.length) (bs.length + l.length)], .bool true]) (by simp [results, Try.results71, go_sem, hq]) rfl ?_
          have hw0 := HK2.out.size
          have hfin := at_far (at_far (at_far HALL.out (p := ⟨w.heap.size, 1, none⟩) h1l (.slice (some ⟨w1.heap.size, 0, none⟩) (bs.length + l.length) (bs.length + l.length))) (p := ⟨w.heap.size + 1, 0, none⟩) h2l (.int .u64 size)) (p := ⟨w.heap.size + 1, 1, none⟩) h2l (.slice (some ⟨w1.heap.size, 0, none⟩) (bs.length + l.length) (bs.length + l.length))
          exact ⟨_, _, bs ++ newP a l, rfl, h.grow hb hi hxl (Sl.of_block hfin (fun hn => by have := hN _ hn; omega)) (by omega), ((HS.out.kept.set (.inr (Nat.le_refl _)) _).set (.inr (Nat.le_succ _)) _).set (.inr (Nat.le_succ _)) _⟩
end Go.Proofs.Ytognedbehplaeaa
