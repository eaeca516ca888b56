/- A disk's device: a request's beginning; the bytes of a word; a new disk, new registers. -/
import Derived.Test.YtognedbehplaeaaGath
import Derived.Deep.RegionWith
set_option linter.unusedVariables false
namespace Go.Proofs.Ytognedbehplaeaa
open Go.RowKit

def ParsePost (k s : Int) (w : World) (e : Ending) (w' : World) : Prop := e = .returned (.tuple #[.agg #[.int .u32 k, .int .u64 s], .bool true]) ∧ Kept No w w'
set_option maxHeartbeats 1000000 in
set_option maxRecDepth 100000 in
theorem parse_yes (b o n c : Nat) (l : List Int) (w : World) (h : Sl w No (some ⟨b, o, none⟩) (by8 l)) (hb : Byt l) (hn : l.length = n) (h16 : 16 ≤ n) (hc : n ≤ c) (hm : c ≤ 9223372036854775807) :
    Calls Try.prog 25 #[.slice (some ⟨b, o, none⟩) n c] w (ParsePost (le (l.take 4)) (le ((l.drop 8).take 8)) w) := by
  have hr := at_new w (.cells #[.int .u32 0, .int .u64 0] 61)
  have hk := (Kept.refl No w).alloc (.cells #[.int .u32 0, .int .u64 0] 61)
  have s1 : Sl (w.alloc (.cells #[.int .u32 0, .int .u64 0] 61)) No (some ⟨b, o, none⟩) (by8 (l.take 4)) := by
    have := (sl_part h 0 4).no hk
    simpa using this
  have s2 : Sl (w.alloc (.cells #[.int .u32 0, .int .u64 0] 61)) No (some ⟨b, o + 8, none⟩) (by8 ((l.drop 8).take 8)) := (sl_part h 8 8).no hk
  have b1 : Byt (l.take 4) := fun x hx => hb x (List.mem_of_mem_take hx)
  have b2 : Byt ((l.drop 8).take 8) := fun x hx => hb x (List.mem_of_mem_drop (List.mem_of_mem_take hx))
  have n1 : (l.take 4).length = 4 := by rw [List.length_take]; omega
  have n2 : ((l.drop 8).take 8).length = 8 := by rw [List.length_take, List.length_drop]; omega
  have r1 := le_range b1
  rw [n1] at r1
  have e4 : (256 : Int) ^ 4 = 4294967296 := by decide
  rw [e4] at r1
  obtain ⟨x, hx⟩ : ∃ x, le (l.take 4) = x := ⟨_, rfl⟩
  obtain ⟨y, hy⟩ : ∃ y, le ((l.drop 8).take 8) = y := ⟨_, rfl⟩
  rw [hx] at r1 ⊢
  rw [hy]
  have kx : IntKind.u32.wrap x = x := by rw [IntKind.wrap_u32]; omega
  have hc8 : ¬ c = 8 := by omega
  have hc16 : 16 ≤ c := by omega
  have hc4 : 4 ≤ c := by omega
  have hn16 : ¬ (n : Int) < 16 := by omega
  have HX := hid hx
  have HY := hid hy
  have HR := hid hr
  have HK := hid hk
  have S1 := hid s1
  have S2 := hid s2
  have N1 := hid n1
  have N2 := hid n2
  have f0 := frozen_of hr
  have c0 := fun i => cells_of hr i
  clear hr hk s1 s2 r1 e4 hx hy hn n1 n2
  go_enter Try.func25, Try.ntmps25
  go_wp2_with fail
  go_region_with (first
    | (go_at_call 82; ((with_reducible refine (of_calls' (some ⟨b, o, none⟩) 4 (l.take 4) _ No _ ?_ ?_ ?_ ?_).mono ?_); (exact S1.out); (exact b1); (exact N1.out); omega; rintro e w2 ⟨rfl, h2⟩; subst h2; rw [HX.out]))
    | (go_at_call 82; ((with_reducible refine (of_calls' (some ⟨b, o + 8, none⟩) 8 ((l.drop 8).take 8) _ No _ ?_ ?_ ?_ ?_).mono ?_); (exact S2.out); (exact b2); (exact N2.out); omega; rintro e w2 ⟨rfl, h2⟩; subst h2; rw [HY.out])))
  all_goals
    go_wp2
    refine bodyPost_ret (v := .tuple #[.agg #[.int .u32 x, .int .u64 y], .bool true]) (by simp [results, Try.results25, go_sem, Act.put]) rfl ⟨rfl, ?_⟩
    with_reducible exact ((Kept.refl No w).alloc _).drew
set_option maxRecDepth 100000 in
theorem parse_no (A : Option Addr) (n c : Nat) (w : World) (h16 : n < 16) :
    Calls Try.prog 25 #[.slice A n c] w (fun e w' => e = .returned (.tuple #[.agg #[.int .u32 0, .int .u64 0], .bool false]) ∧ Kept No w w') := by
  have HK := hid ((Kept.refl No w).alloc (.cells #[.int .u32 0, .int .u64 0] 61))
  have hn : (n : Int) < 16 := by omega
  go_enter Try.func25, Try.ntmps25
  go_wp2
  refine bodyPost_ret (v := .tuple #[.agg #[.int .u32 0, .int .u64 0], .bool false]) (by simp [results, Try.results25, go_sem]) rfl ⟨rfl, ?_⟩
  exact HK.out

/-- The bytes of a word: a new list. -/
def BytesPost (l : List Int) (w : World) (e : Ending) (w' : World) : Prop :=
  ∃ A c, e = .returned (.slice A l.length c) ∧ w'.ownsRow w.heap.size 5 1 (.slice A l.length c) l.length (by8 l) ∧ Kept No w w'
set_option maxHeartbeats 400000 in
set_option maxRecDepth 100000 in
theorem bytes_calls (v : Int) (n : Nat) (w : World) (hv : 0 ≤ v ∧ v ≤ 18446744073709551615) (hn : n ≤ 8) :
    Calls Try.prog 90 #[.int .u64 v, .int .i64 n] w (BytesPost (wby v n) w) := by
  have hmk : ∀ w, (Instr.makeSlice 49 (.int .i64 0) (.int .i64 8)).run Try.prog w = .ok (.slice (some ⟨w.heap.size, 0, none⟩) 0 8) (w.alloc (.cells (by8 (List.replicate 8 0)).toArray 5)) := fun _ => by kernel_rfl
  obtain ⟨ti, hti, hz0, hz1, hz2⟩ := info_parts info_u8
  have HTI := hid hti
  have HO := hid (World.ownsRow_made (base := w.heap.size) (e := 5) (size := 1) w (by8 (List.replicate 8 0)).toArray 8 (Nat.le_refl _) (by decide) (by simp [by8]))
  have HK := hid ((Kept.refl No w).alloc (.cells (by8 (List.replicate 8 0)).toArray 5))
  have hn1 : (n : Int) ≤ 8 := by omega
  have hn0 : (0 : Int) ≤ n := by omega
  clear hti
  go_enter Try.func90, Try.ntmps90
  go_wp2_with fail
  go_loopw [0, 5, 10] (fun vv ov iv wr => ∃ (k c : Nat) (A : Option Addr) (V : Int), k ≤ n ∧ iv = .int .i64 k ∧ vv = .int .u64 V ∧ ov = .slice A k c ∧ 0 ≤ V ∧ V ≤ 18446744073709551615 ∧ Hid (V = v / 256 ^ k) ∧ wr.ownsRow w.heap.size 5 1 (.slice A k c) k (by8 (wby v k)) ∧ Kept No w wr) (fun _ _ iv _ => n - (intOf iv).toNat)
  case atStart => exact ⟨0, 8, some ⟨w.heap.size, 0, none⟩, v, by omega, rfl, rfl, rfl, hv.1, hv.2, hid (by simp), HO.out, HK.out⟩
  case round =>
    obtain ⟨k, c, A, V, hk, rfl, rfl, rfl, V0, V1, HV, hO, hK⟩ := hrel
    have HOW := hid hO
    have HKK := hid hK
    clear hO hK HO HK
    by_cases hlt : k < n
    · have hlt' : (k : Int) < n := by omega
      have hwb := HKK.out.size
      go_wp2_with (at_builtin; refine wpList_append_lies _ rfl (.tmp 12) (.tmp 15) _ rfl w.heap.size 5 ti _ 1 1 Try.underlying49 HTI.out hz0 hz1 hz2 rfl (by omega) (.slice A k c) k (by8 (wby v k)) rfl (HOW.out.alloc _) ⟨wr.heap.size, 0, none⟩ 1 1 [.int .u8 (V % 256)] rfl rfl (World.news_of_block (cs := #[.int .u8 (V % 256)]) (t := 5) (fr := (0, 0)) (heap_alloc_new _ _)) (by simp [Value.oneCell']) (by omega) (by unfold maxLen; omega) (by omega) (by simp; omega) _ rfl ?_; intro gg cap w5 hown5 hg5 hat5 hlt5)
      have hk5 : Kept No w w5 := (HKK.out.alloc _).grown hg5 (fun kk hkk => .inr (own_lt HOW.out hkk).1)
      have HK5 := hid hk5
      have HO5 := hid hown5
      clear hown5 hg5 hat5 hlt5 hk5
      go_wp2
      go_roundw
      case rel => exact ⟨k + 1, cap, some ⟨gg, 0, none⟩, V / 256, by omega, by go_num, by rfl, by rfl, by omega, by omega, hid (by rw [HV.out, Int.pow_succ, Int.ediv_ediv_of_nonneg (by exact Int.le_of_lt (Int.pow_pos (by omega)))]), by rw [wby_snoc, by8_append, ← HV.out]; exact HO5.out, HK5.out⟩
      case measure => simp [intOf]; omega
    · have hkk : k = n := by omega
      subst hkk
      have HP : Hid (BytesPost (wby v k) w (.returned (.slice A k c)) wr) := hid ⟨A, c, by rw [wby_length], by rw [wby_length]; exact HOW.out, HKK.out⟩
      go_wp2
      go_ret
      exact HP.out

/-- A disk of sectors. -/
def DiskAt (w : World) (p : Nat) (F : Nat → Prop) (count : Int) (locked : Bool) (fault reqs flushes : Int) (g : Int → Int) : Prop :=
  ∃ r es clock, w.heap[p]? = some (.cells #[.int .u64 count, .bool locked, .map (some r), .int .u64 fault, .int .u64 reqs, .int .u64 flushes] 206 (0, 0)) ∧ (1 ≤ count ∧ count ≤ 65536) ∧ F p ∧ (∀ b, F b → b < w.heap.size) ∧ (∀ o, 0 ≤ g o ∧ g o ≤ 255) ∧ (0 ≤ fault ∧ fault ≤ 18446744073709551615) ∧ PagesAt w F 209 512 r g es clock
def DNewPost (w : World) (count : Int) (locked : Bool) (e : Ending) (w' : World) : Prop :=
  ∃ p F, e = .returned (.tuple #[.pointer (some ⟨p, 0, none⟩), .int .i64 0]) ∧ DiskAt w' p F count locked 0 0 0 (fun _ => 0) ∧ Kept No w w' ∧ ∀ b, F b → w.heap.size ≤ b
set_option maxRecDepth 100000 in
theorem dnew_calls (count : Int) (locked : Bool) (w : World) (hc : 1 ≤ count ∧ count ≤ 65536) :
    Calls Try.prog 81 #[.int .u64 count, .bool locked] w (DNewPost w count locked) := by
  have hmm := @run_makeMap Try.prog
  have hm1 : ((w.alloc (.map #[] 0)).alloc (.cells #[.int .u64 count, .bool locked, .map (some w.heap.size), .int .u64 0, .int .u64 0, .int .u64 0] 206)).heap[w.heap.size]? = some (.map #[] 0) := at_alloc (at_new w _) _
  have hp1 := at_new (w.alloc (.map #[] 0)) (.cells #[.int .u64 count, .bool locked, .map (some w.heap.size), .int .u64 0, .int .u64 0, .int .u64 0] 206)
  have e1 : (w.alloc (.map #[] 0)).heap.size = w.heap.size + 1 := by simp
  have e2 : ((w.alloc (.map #[] 0)).alloc (.cells #[.int .u64 count, .bool locked, .map (some w.heap.size), .int .u64 0, .int .u64 0, .int .u64 0] 206)).heap.size = w.heap.size + 1 + 1 := by simp
  rw [e1] at hp1
  refine calls_to ?_ ⟨w.heap.size + 1, fun b => b = w.heap.size ∨ b = w.heap.size + 1, rfl, ⟨w.heap.size, #[], 0, hp1, hc, .inr rfl, fun b hb => by rw [e2]; omega, fun _ => ⟨Int.le_refl 0, show (0 : Int) ≤ 255 by decide⟩, by omega,
    ⟨hm1, .inl rfl, by simp, by simp, fun _ _ _ _ _ => rfl⟩⟩, ((Kept.refl No w).alloc _).alloc _, fun b hb => by omega⟩
  obtain ⟨c0, c1⟩ := hc
  clear hm1 hp1 e1 e2
  go_enter Try.func81, Try.ntmps81
  go_wp2
  go_ret2
  exact ⟨rfl, rfl⟩
end Go.Proofs.Ytognedbehplaeaa
