/- A disk's device: new registers, a new device. -/
import Derived.Test.YtognedbehplaeaaBlka
import Derived.Deep.DeepMust
set_option linter.unusedVariables false
namespace Go.Proofs.Ytognedbehplaeaa
open Go.RowKit

/-- The cells of a queue at its beginning. -/
def zq : Array Value := #[.int .i64 0, .int .u64 0, .int .u64 0, .int .u64 0, .bool false, .int .u16 0, .int .u16 0, .bool false, .bool false]
def regsC (id off : Int) (qb : Nat) (A : Option Addr) (n c : Nat) : Array Value := #[.int .u32 id, .int .u64 off, .int .u64 0, .int .u32 0, .int .u32 0, .int .u32 0, .slice (some ⟨qb, 0, none⟩) 1 1, .int .u32 0, .int .u32 0, .int .u32 0, .slice A n c]
def RNewPost (id off : Int) (l : List Int) (w : World) (e : Ending) (w' : World) : Prop :=
  ∃ p qb A c, e = .returned (.pointer (some ⟨p, 0, none⟩)) ∧ w'.heap[p]? = some (.cells (regsC id off qb A l.length c) 153 (0, 0)) ∧ w'.heap[qb]? = some (.cells zq 93 (0, 0)) ∧
    w'.ownsRow w.heap.size 5 1 (.slice A l.length c) l.length (by8 l) ∧ w.heap.size ≤ p ∧ w.heap.size ≤ qb ∧ Kept No w w'
set_option maxHeartbeats 400000 in
set_option maxRecDepth 100000 in
theorem rnew_calls (off : Int) (A : Option Addr) (n c : Nat) (l : List Int) (w : World) (ho : off = 805306880 ∨ off = 805306912) (hA : Sl w No A (by8 l)) (hn : l.length = n) (hm : n ≤ 1000) :
    Calls Try.prog 89 #[.int .u32 2, .int .u64 off, .int .i64 1, .slice A n c] w (RNewPost 2 (off + 4294967296) l w) := by
  have hmk : ∀ w, (Instr.makeSlice 151 (.int .i64 1) (.int .i64 1)).run Try.prog w = .ok (.slice (some ⟨w.heap.size, 0, none⟩) 1 1) (w.alloc (.cells zq 93)) := fun _ => by kernel_rfl
  have hor : bits .or .u64 off 4294967296 = off + 4294967296 := by rcases ho with rfl | rfl <;> decide
  obtain ⟨ti, hti, hz0, hz1, hz2⟩ := info_parts info_u8
  have HTI := hid hti
  have HN := hid hn
  have HOR := hid hor
  have HSRC := hid (hA.no ((Kept.refl No w).alloc (.cells #[] 5)))
  obtain ⟨off2, ho2⟩ : ∃ o, off + 4294967296 = o := ⟨_, rfl⟩
  rw [ho2] at hor ⊢
  clear hti hn HOR ho2
  go_enter Try.func89, Try.ntmps89
  go_wp2_with (at_builtin; refine wpList_append_sl _ rfl (.tmp 13) (.tmp 14) _ rfl w.heap.size 5 ti _ 1 1 Try.underlying49 HTI.out hz0 hz1 hz2 rfl (by omega) (.slice (some ⟨w.heap.size, 0, none⟩) 0 0) 0 [] rfl (World.ownsRow_made w #[] 0 (Nat.le_refl _) (by decide) rfl) No A n c (by8 l) rfl HSRC.out (by rw [by8_length, HN.out]; omega) (by8_one l) (by unfold maxLen; omega) (by omega) (by simp) ?_; intro v5 w5 hown5 hg5 hat5; obtain ⟨A5, c5, rfl⟩ := own_slice hown5; have HK5 := hid (((Kept.refl No w).alloc (.cells #[] 5)).grown hg5 (fun kk hkk => .inr (Nat.le_of_eq (ownBlock_eq hkk)))); have HO5 := hid hown5; clear hown5 hg5 hat5)
  go_ret
  have hO := HO5.out
  simp only [Nat.zero_add, List.nil_append] at hO
  have hw := HK5.out.size
  have hq := at_new (w5.alloc (.cells (regsC 2 off2 (w5.heap.size + 1) A5 n c5) 153)) (.cells zq 93)
  rw [show (w5.alloc (.cells (regsC 2 off2 (w5.heap.size + 1) A5 n c5) 153)).heap.size = w5.heap.size + 1 from by simp] at hq
  refine ⟨w5.heap.size, w5.heap.size + 1, A5, c5, rfl, ?_, hq, ?_, hw, by omega, (HK5.out.alloc _).alloc _⟩
  · rw [HN.out]; exact at_alloc (at_new w5 _) _
  · rw [HN.out]; exact own_no0 hO (((Kept.refl No w5).alloc _).alloc _)

theorem dlocked_calls (p : Nat) (F : Nat → Prop) (count : Int) (locked : Bool) (fault reqs flushes : Int) (g : Int → Int) (w : World) (h : DiskAt w p F count locked fault reqs flushes g) :
    Calls Try.prog 88 #[.pointer (some ⟨p, 0, none⟩)] w (fun e w' => e = .returned (.bool locked) ∧ w' = w) := by
  obtain ⟨r, es, clock, hp, -⟩ := h
  have c0 := fun i => cells_of hp i
  clear hp
  go_enter Try.func88, Try.ntmps88
  go_wp2
  go_ret
  exact ⟨rfl, rfl⟩
theorem dcount_calls (p : Nat) (F : Nat → Prop) (count : Int) (locked : Bool) (fault reqs flushes : Int) (g : Int → Int) (w : World) (h : DiskAt w p F count locked fault reqs flushes g) :
    Calls Try.prog 91 #[.pointer (some ⟨p, 0, none⟩)] w (fun e w' => e = .returned (.int .u64 count) ∧ w' = w) := by
  obtain ⟨r, es, clock, hp, -⟩ := h
  have c0 := fun i => cells_of hp i
  clear hp
  go_enter Try.func91, Try.ntmps91
  go_wp2
  go_ret
  exact ⟨rfl, rfl⟩

/-- A string's bytes. -/
def strB (s : ByteArray) : List Int := s.data.toList.map fun b : UInt8 => (b.toNat : Int)
theorem strB_length (s : ByteArray) : (strB s).length = s.size := by simp [strB]
/-- The first 20, or as many. -/
def name20 (l : List Int) : List Int := l.take 20 ++ List.replicate (20 - l.length) 0
theorem name20_length (l : List Int) : (name20 l).length = 20 := by simp [name20]; omega
def boxC (rp dp p : Nat) (name : List Int) (lv : Value) : Array Value := #[.pointer (some ⟨rp, 0, none⟩), .pointer (some ⟨dp, 0, none⟩), .pointer (some ⟨p, 0, none⟩)] ++ (by8 name).toArray ++ #[lv]
theorem run_copy_str {P : Program} (w : World) (dT sT ty elem : TypeId) (g o dLen dCap : Nat) (s : ByteArray) (cur : Array Value) (t : TypeId) (k : Nat) (hk : k = Nat.min s.size dLen)
    (hu : P.underlying dT = some (.slice elem)) (hs : (P.info? elem).map (·.size) = some 1) (hg : w.heap[g]? = some (.cells cur t (0, 0))) (hfit : o + k ≤ cur.size) :
    (Builtin.copy_ #[dT, sT] ty #[.slice (some ⟨g, o, none⟩) dLen dCap, .string s]).run P w =
      .ok (goInt k) (w.setRow g (cur.toList.take o ++ (by8 (strB s)).take k ++ cur.toList.drop (o + k)).toArray) := by
  subst hk
  have hkl : ((by8 (strB s)).take (Nat.min s.size dLen)).length = Nat.min s.size dLen := by rw [List.length_take, by8_length, strB_length]; exact Nat.min_eq_left (Nat.min_le_left _ _)
  have hst := run_storeCells_at P g o t ((by8 (strB s)).take (Nat.min s.size dLen)) 0 cur w hg (by rw [hkl]; simpa using hfit) (fun u hu => by8_one _ u (List.mem_of_mem_take hu))
  have htk : List.take (Nat.min s.size dLen) (List.map (fun b : UInt8 => Value.int IntKind.u8 (b.toNat : Int)) s.data.toList) = (by8 (strB s)).take (Nat.min s.size dLen) := by
    unfold by8 strB
    rw [List.map_map]
    rfl
  rw [hkl] at hst
  simp only [Nat.add_zero] at hst
  cases hq : P.info? elem with
  | none => simp [hq] at hs
  | some i =>
    simp [Builtin.copy_, run_underlying hu, Builtin.lenOf, Builtin.firstCells, sizeOf, typeInfo, hq]
    simp [hq] at hs
    simp [htk, hst, Result.andThen]
theorem wpList_copy_run' {P : Program} (w : World) {ops : Array Oper} {rest : List Oper} {o : Oper} {a : Act} {Q : Exit → Act → World → Prop} (hgd : o.guard = none) (d s : Operand) (t t' : TypeId)
    (ho : o.op = .call { callee := .builtin .copy, args := #[d, s], argTypes := #[t, t'] }) (v u : Value) (hd : a.eval d = v) (hs : a.eval s = u) {v' : Value} {w' : World}
    (hr : (Builtin.copy_ #[t, t'] o.type #[v, u]).run P w = .ok v' w') (h : wpList P ops Q rest (a.put o.dst v') w') : wpList P ops Q (o :: rest) a w := by
  refine wpList_plain hgd fun _ hK => ?_
  unfold Oper.wp execOp
  simp only [ho, resolve, invoke, builtin, Sem.run_bind, Sem.run_pure, Result.andThen_ok, List.map_toArray, List.map_cons, List.map_nil, hd, hs, hr]
  exact hK _ _ h
theorem Kept.setRow {F : Nat → Prop} {w w' : World} (h : Kept F w w') {g : Nat} (hg : F g ∨ w.heap.size ≤ g) (cs : Array Value) : Kept F w (w'.setRow g cs) :=
  ⟨h.os, h.tape, h.output, by simpa [World.setRow] using h.size, fun k hk hf => (setRow_other w' g k cs (by rintro rfl; rcases hg with h | h; exact hf h; omega)).trans (h.block k hk hf)⟩
theorem box_splice (P Z L : List Value) (lv : Value) (k : Nat) (h3 : P.length = 3) (hk : k ≤ Z.length) : (P ++ (Z ++ [lv])).take 3 ++ L ++ (P ++ (Z ++ [lv])).drop (3 + k) = P ++ (L ++ (Z.drop k ++ [lv])) := by
  rw [List.take_left' h3, List.drop_append, h3, List.drop_eq_nil_of_le (by omega), List.nil_append, show 3 + k - 3 = k from by omega, List.drop_append_of_le_length hk, List.append_assoc]
theorem name_splice (l : List Int) (k : Nat) (hk : k = Nat.min l.length 20) : (by8 l).take k ++ (by8 (List.replicate 20 0)).drop k = by8 (name20 l) := by
  unfold name20 by8
  rw [List.map_append, List.map_take, List.map_replicate, List.map_replicate, List.drop_replicate]
  by_cases h : l.length ≤ 20
  · have : k = l.length := by rw [hk]; exact Nat.min_eq_left h
    rw [this, List.take_of_length_le (by simp), List.take_of_length_le (by simp; omega)]
  · have : k = 20 := by rw [hk]; exact Nat.min_eq_right (by omega)
    rw [this, show 20 - l.length = 20 - 20 from by omega]
theorem boxC_list (rp dp p : Nat) (name : List Int) (lv : Value) : (boxC rp dp p name lv).toList = [.pointer (some ⟨rp, 0, none⟩), .pointer (some ⟨dp, 0, none⟩), .pointer (some ⟨p, 0, none⟩)] ++ (by8 name ++ [lv]) := by simp [boxC]
theorem boxC_copy (rp dp p : Nat) (lv : Value) (l : List Int) (k : Nat) (hk : k = Nat.min l.length 20) :
    ((boxC rp dp p (List.replicate 20 0) lv).toList.take 3 ++ (by8 l).take k ++ (boxC rp dp p (List.replicate 20 0) lv).toList.drop (3 + k)).toArray = boxC rp dp p (name20 l) lv := by
  have hk20 : k ≤ 20 := by rw [hk]; exact Nat.min_le_right _ _
  apply Array.ext'
  rw [boxC_list, boxC_list, box_splice _ _ _ _ _ rfl (by rw [by8_length, List.length_replicate]; exact hk20), ← name_splice l k hk, List.append_assoc]

theorem boxC_lit (rp dp p : Nat) : boxC rp dp p (List.replicate 20 0) (.slice none 0 0) = #[.pointer (some ⟨rp, 0, none⟩), .pointer (some ⟨dp, 0, none⟩), .pointer (some ⟨p, 0, none⟩), .int .u8 0, .int .u8 0, .int .u8 0, .int .u8 0, .int .u8 0, .int .u8 0, .int .u8 0, .int .u8 0, .int .u8 0, .int .u8 0, .int .u8 0, .int .u8 0, .int .u8 0, .int .u8 0, .int .u8 0, .int .u8 0, .int .u8 0, .int .u8 0, .int .u8 0, .int .u8 0, .slice none 0 0] := by simp [boxC, by8, List.replicate]
def BNewPost (p dp : Nat) (off count : Int) (name : List Int) (w : World) (e : Ending) (w' : World) : Prop :=
  ∃ b rp qb A c, e = .returned (.pointer (some ⟨b, 0, none⟩)) ∧ w'.heap[b]? = some (.cells (boxC rp dp p name (.slice none 0 0)) 150 (0, 0)) ∧ w'.heap[rp]? = some (.cells (regsC 2 off qb A 8 c) 153 (0, 0)) ∧ w'.heap[qb]? = some (.cells zq 93 (0, 0)) ∧
    w'.ownsRow w.heap.size 5 1 (.slice A 8 c) 8 (by8 (wby count 8)) ∧ w.heap.size ≤ b ∧ w.heap.size ≤ rp ∧ w.heap.size ≤ qb ∧ Kept No w w'
set_option maxHeartbeats 1000000 in
set_option maxRecDepth 100000 in
theorem bnew_calls (p dp : Nat) (F : Nat → Prop) (count : Int) (locked : Bool) (fault reqs flushes : Int) (g : Int → Int) (s : ByteArray) (w : World) (h : DiskAt w dp F count locked fault reqs flushes g) :
    Calls Try.prog 29 #[.pointer (some ⟨p, 0, none⟩), .pointer (some ⟨dp, 0, none⟩), .string s] w (BNewPost p dp (if locked = true then 5100274208 else 5100274176) count (name20 (strB s)) w) := by
  have hcount := h
  obtain ⟨r, es, clock, hp, ⟨hc1, hc2⟩, -⟩ := hcount
  have HH := hid h
  have hsz : ∃ k, k = Nat.min s.size 20 := ⟨_, rfl⟩
  obtain ⟨k, hk⟩ := hsz
  have HKK := hid hk
  clear hp hk h
  obtain ⟨off, hoff⟩ : ∃ off, off = (if locked = true then 805306912 else 805306880 : Int) := ⟨_, rfl⟩
  have hoff2 : off = 805306880 ∨ off = 805306912 := by cases locked <;> simp [hoff]
  have hoff3 : (if locked = true then 5100274208 else 5100274176 : Int) = off + 4294967296 := by cases locked <;> simp [hoff]
  rw [hoff3]
  have hor : bits .or .u64 805306880 32 = 805306912 := by decide
  have HOF := hid hoff2
  clear hoff2 hoff3
  have HB8 : Hid (∀ W, Calls Try.prog 90 #[.int .u64 count, .int .i64 8] W (BytesPost (wby count 8) W)) := hid (fun W => bytes_calls count 8 W (by omega) (by omega))
  have hk20 : k ≤ 20 := by rw [HKK.out]; exact Nat.min_le_right _ _
  have hrun : ∀ (rp : Nat) (w2 : World), (Builtin.copy_ #[49, 9] 3 #[.slice (some ⟨w2.heap.size, 3, none⟩) 20 20, .string s]).run Try.prog (w2.alloc (.cells #[.pointer (some ⟨rp, 0, none⟩), .pointer (some ⟨dp, 0, none⟩), .pointer (some ⟨p, 0, none⟩), .int .u8 0, .int .u8 0, .int .u8 0, .int .u8 0, .int .u8 0, .int .u8 0, .int .u8 0, .int .u8 0, .int .u8 0, .int .u8 0, .int .u8 0, .int .u8 0, .int .u8 0, .int .u8 0, .int .u8 0, .int .u8 0, .int .u8 0, .int .u8 0, .int .u8 0, .int .u8 0, .slice none 0 0] 150)) = .ok (goInt k) ((w2.alloc (.cells #[.pointer (some ⟨rp, 0, none⟩), .pointer (some ⟨dp, 0, none⟩), .pointer (some ⟨p, 0, none⟩), .int .u8 0, .int .u8 0, .int .u8 0, .int .u8 0, .int .u8 0, .int .u8 0, .int .u8 0, .int .u8 0, .int .u8 0, .int .u8 0, .int .u8 0, .int .u8 0, .int .u8 0, .int .u8 0, .int .u8 0, .int .u8 0, .int .u8 0, .int .u8 0, .int .u8 0, .int .u8 0, .slice none 0 0] 150)).setRow w2.heap.size (boxC rp dp p (name20 (strB s)) (.slice none 0 0))) := by
    intro rp w2
    have h0 := run_copy_str (P := Try.prog) (w2.alloc (.cells #[.pointer (some ⟨rp, 0, none⟩), .pointer (some ⟨dp, 0, none⟩), .pointer (some ⟨p, 0, none⟩), .int .u8 0, .int .u8 0, .int .u8 0, .int .u8 0, .int .u8 0, .int .u8 0, .int .u8 0, .int .u8 0, .int .u8 0, .int .u8 0, .int .u8 0, .int .u8 0, .int .u8 0, .int .u8 0, .int .u8 0, .int .u8 0, .int .u8 0, .int .u8 0, .int .u8 0, .int .u8 0, .slice none 0 0] 150)) 49 9 3 5 w2.heap.size 3 20 20 s #[.pointer (some ⟨rp, 0, none⟩), .pointer (some ⟨dp, 0, none⟩), .pointer (some ⟨p, 0, none⟩), .int .u8 0, .int .u8 0, .int .u8 0, .int .u8 0, .int .u8 0, .int .u8 0, .int .u8 0, .int .u8 0, .int .u8 0, .int .u8 0, .int .u8 0, .int .u8 0, .int .u8 0, .int .u8 0, .int .u8 0, .int .u8 0, .int .u8 0, .int .u8 0, .int .u8 0, .int .u8 0, .slice none 0 0] 150 k HKK.out Try.underlying49 (by kernel_rfl) (at_new w2 _) (by simp; omega)
    have h1 := boxC_copy rp dp p (.slice none 0 0) (strB s) k (by rw [strB_length]; exact HKK.out)
    rw [boxC_lit] at h1
    rw [h1] at h0
    exact h0
  cases locked with
  | true =>
    obtain rfl : off = 805306912 := hoff
    go_enter Try.func29, Try.ntmps29
    go_wp2_with (first
      | (go_at_call 88; ((with_reducible refine (dlocked_calls dp F count true fault reqs flushes g _ HH.out).mono ?_); (rintro e w1 ⟨rfl, h1⟩; have h3 := h1.symm; subst h3)))
      | (go_at_call 91; ((with_reducible refine (dcount_calls dp F count true fault reqs flushes g _ HH.out).mono ?_); (rintro e w1 ⟨rfl, h1⟩; have h3 := h1.symm; subst h3)))
      | (go_at_call 90; ((with_reducible refine (HB8.out _).mono ?_); (rintro e w1 ⟨A1, c1, rfl, ho1, hk1⟩; rw [wby_length] at ho1 ⊢; have HO1 := hid ho1; have HK1 := hid hk1; clear ho1 hk1)))
      | (go_at_call 89; ((with_reducible refine (rnew_calls _ A1 8 c1 (wby count 8) _ (.inr rfl) (own_sl HO1.out (fun _ _ h => h)) (wby_length _ _) (by omega)).mono ?_); (rintro e w2 ⟨rp, qb, A2, c2, rfl, hr2, hq2, ho2, hp2, hqb2, hk2⟩; rw [wby_length] at hr2 ho2; have HN := hid (And.intro hr2 (And.intro hq2 (And.intro ho2 (And.intro hp2 (And.intro hqb2 hk2))))); clear hr2 hq2 ho2 hp2 hqb2 hk2))))
    go_ret
    obtain ⟨hr2, hq2, ho2, hp2, hqb2, hk2⟩ := HN.out
    have hb := setRow_heap (w2.alloc (.cells #[.pointer (some ⟨rp, 0, none⟩), .pointer (some ⟨dp, 0, none⟩), .pointer (some ⟨p, 0, none⟩), .int .u8 0, .int .u8 0, .int .u8 0, .int .u8 0, .int .u8 0, .int .u8 0, .int .u8 0, .int .u8 0, .int .u8 0, .int .u8 0, .int .u8 0, .int .u8 0, .int .u8 0, .int .u8 0, .int .u8 0, .int .u8 0, .int .u8 0, .int .u8 0, .int .u8 0, .int .u8 0, .slice none 0 0] 150)) w2.heap.size #[.pointer (some ⟨rp, 0, none⟩), .pointer (some ⟨dp, 0, none⟩), .pointer (some ⟨p, 0, none⟩), .int .u8 0, .int .u8 0, .int .u8 0, .int .u8 0, .int .u8 0, .int .u8 0, .int .u8 0, .int .u8 0, .int .u8 0, .int .u8 0, .int .u8 0, .int .u8 0, .int .u8 0, .int .u8 0, .int .u8 0, .int .u8 0, .int .u8 0, .int .u8 0, .int .u8 0, .int .u8 0, .slice none 0 0] (boxC rp dp p (name20 (strB s)) (.slice none 0 0)) 150 (0, 0) (at_new w2 _)
    have hws := HK1.out.size
    have hk3 := ((HK1.out.trans hk2).alloc (.cells #[.pointer (some ⟨rp, 0, none⟩), .pointer (some ⟨dp, 0, none⟩), .pointer (some ⟨p, 0, none⟩), .int .u8 0, .int .u8 0, .int .u8 0, .int .u8 0, .int .u8 0, .int .u8 0, .int .u8 0, .int .u8 0, .int .u8 0, .int .u8 0, .int .u8 0, .int .u8 0, .int .u8 0, .int .u8 0, .int .u8 0, .int .u8 0, .int .u8 0, .int .u8 0, .int .u8 0, .int .u8 0, .slice none 0 0] 150)).setRow (g := w2.heap.size) (.inr (Nat.le_trans hws hk2.size)) (boxC rp dp p (name20 (strB s)) (.slice none 0 0))
    have hrow : ∀ k, k < w2.heap.size → ((w2.alloc (.cells #[.pointer (some ⟨rp, 0, none⟩), .pointer (some ⟨dp, 0, none⟩), .pointer (some ⟨p, 0, none⟩), .int .u8 0, .int .u8 0, .int .u8 0, .int .u8 0, .int .u8 0, .int .u8 0, .int .u8 0, .int .u8 0, .int .u8 0, .int .u8 0, .int .u8 0, .int .u8 0, .int .u8 0, .int .u8 0, .int .u8 0, .int .u8 0, .int .u8 0, .int .u8 0, .int .u8 0, .int .u8 0, .slice none 0 0] 150)).setRow w2.heap.size (boxC rp dp p (name20 (strB s)) (.slice none 0 0))).heap[k]? = w2.heap[k]? := fun k hk => (setRow_other _ _ k _ (by omega)).trans (Below.heap_alloc w2 _ k hk)
    exact ⟨w2.heap.size, rp, qb, A2, c2, rfl, hb, (hrow rp (lt_of hr2)).trans hr2, (hrow qb (lt_of hq2)).trans hq2, own_mono (own_keep ho2 (fun k hk => hrow k (lt_of (own_lt ho2 hk).2.choose_spec))) hws, Nat.le_trans hws hk2.size, Nat.le_trans hws hp2, Nat.le_trans hws hqb2, hk3⟩
  | false =>
    obtain rfl : off = 805306880 := hoff
    go_enter Try.func29, Try.ntmps29
    go_wp2_with (first
      | (go_at_call 88; ((with_reducible refine (dlocked_calls dp F count false fault reqs flushes g _ HH.out).mono ?_); (rintro e w1 ⟨rfl, h1⟩; have h3 := h1.symm; subst h3)))
      | (go_at_call 91; ((with_reducible refine (dcount_calls dp F count false fault reqs flushes g _ HH.out).mono ?_); (rintro e w1 ⟨rfl, h1⟩; have h3 := h1.symm; subst h3)))
      | (go_at_call 90; ((with_reducible refine (HB8.out _).mono ?_); (rintro e w1 ⟨A1, c1, rfl, ho1, hk1⟩; rw [wby_length] at ho1 ⊢; have HO1 := hid ho1; have HK1 := hid hk1; clear ho1 hk1)))
      | (go_at_call 89; ((with_reducible refine (rnew_calls _ A1 8 c1 (wby count 8) _ (.inl rfl) (own_sl HO1.out (fun _ _ h => h)) (wby_length _ _) (by omega)).mono ?_); (rintro e w2 ⟨rp, qb, A2, c2, rfl, hr2, hq2, ho2, hp2, hqb2, hk2⟩; rw [wby_length] at hr2 ho2; have HN := hid (And.intro hr2 (And.intro hq2 (And.intro ho2 (And.intro hp2 (And.intro hqb2 hk2))))); clear hr2 hq2 ho2 hp2 hqb2 hk2))))
    go_ret
    obtain ⟨hr2, hq2, ho2, hp2, hqb2, hk2⟩ := HN.out
    have hb := setRow_heap (w2.alloc (.cells #[.pointer (some ⟨rp, 0, none⟩), .pointer (some ⟨dp, 0, none⟩), .pointer (some ⟨p, 0, none⟩), .int .u8 0, .int .u8 0, .int .u8 0, .int .u8 0, .int .u8 0, .int .u8 0, .int .u8 0, .int .u8 0, .int .u8 0, .int .u8 0, .int .u8 0, .int .u8 0, .int .u8 0, .int .u8 0, .int .u8 0, .int .u8 0, .int .u8 0, .int .u8 0, .int .u8 0, .int .u8 0, .slice none 0 0] 150)) w2.heap.size #[.pointer (some ⟨rp, 0, none⟩), .pointer (some ⟨dp, 0, none⟩), .pointer (some ⟨p, 0, none⟩), .int .u8 0, .int .u8 0, .int .u8 0, .int .u8 0, .int .u8 0, .int .u8 0, .int .u8 0, .int .u8 0, .int .u8 0, .int .u8 0, .int .u8 0, .int .u8 0, .int .u8 0, .int .u8 0, .int .u8 0, .int .u8 0, .int .u8 0, .int .u8 0, .int .u8 0, .int .u8 0, .slice none 0 0] (boxC rp dp p (name20 (strB s)) (.slice none 0 0)) 150 (0, 0) (at_new w2 _)
    have hws := HK1.out.size
    have hk3 := ((HK1.out.trans hk2).alloc (.cells #[.pointer (some ⟨rp, 0, none⟩), .pointer (some ⟨dp, 0, none⟩), .pointer (some ⟨p, 0, none⟩), .int .u8 0, .int .u8 0, .int .u8 0, .int .u8 0, .int .u8 0, .int .u8 0, .int .u8 0, .int .u8 0, .int .u8 0, .int .u8 0, .int .u8 0, .int .u8 0, .int .u8 0, .int .u8 0, .int .u8 0, .int .u8 0, .int .u8 0, .int .u8 0, .int .u8 0, .int .u8 0, .slice none 0 0] 150)).setRow (g := w2.heap.size) (.inr (Nat.le_trans hws hk2.size)) (boxC rp dp p (name20 (strB s)) (.slice none 0 0))
    have hrow : ∀ k, k < w2.heap.size → ((w2.alloc (.cells #[.pointer (some ⟨rp, 0, none⟩), .pointer (some ⟨dp, 0, none⟩), .pointer (some ⟨p, 0, none⟩), .int .u8 0, .int .u8 0, .int .u8 0, .int .u8 0, .int .u8 0, .int .u8 0, .int .u8 0, .int .u8 0, .int .u8 0, .int .u8 0, .int .u8 0, .int .u8 0, .int .u8 0, .int .u8 0, .int .u8 0, .int .u8 0, .int .u8 0, .int .u8 0, .int .u8 0, .int .u8 0, .slice none 0 0] 150)).setRow w2.heap.size (boxC rp dp p (name20 (strB s)) (.slice none 0 0))).heap[k]? = w2.heap[k]? := fun k hk => (setRow_other _ _ k _ (by omega)).trans (Below.heap_alloc w2 _ k hk)
    exact ⟨w2.heap.size, rp, qb, A2, c2, rfl, hb, (hrow rp (lt_of hr2)).trans hr2, (hrow qb (lt_of hq2)).trans hq2, own_mono (own_keep ho2 (fun k hk => hrow k (lt_of (own_lt ho2 hk).2.choose_spec))) hws, Nat.le_trans hws hk2.size, Nat.le_trans hws hp2, Nat.le_trans hws hqb2, hk3⟩
end Go.Proofs.Ytognedbehplaeaa
