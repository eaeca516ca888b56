/- A machine's memory: a new one, a copy. -/
import Derived.Test.YtognedbehplaeaaRamb
import Derived.Deep.WholeRow
set_option linter.unusedVariables false
namespace Go.Proofs.Ytognedbehplaeaa
open Go.RowKit

theorem RamAt.congr {w : World} {p : Nat} {F : Nat → Prop} {size : Int} {g g' : Int → Int} (h : RamAt w p F size g) (hg : ∀ o, 0 ≤ o → g' o = g o) (hb : ∀ o, 0 ≤ g' o ∧ g' o ≤ 255) : RamAt w p F size g' := by
  obtain ⟨r, es, clock, hp, hsz, hF, hlt, _, hP⟩ := h
  exact ⟨r, es, clock, hp, hsz, hF, hlt, hb, hP.congr hg⟩

/-- What a call that makes a memory ends in. -/
def NewPost (w : World) (size : Int) (g : Int → Int) (mk : Value → Value) (e : Ending) (w' : World) : Prop :=
  ∃ p F, e = .returned (mk (.pointer (some ⟨p, 0, none⟩))) ∧ RamAt w' p F size g ∧ Kept No w w' ∧ ∀ b, F b → w.heap.size ≤ b

set_option maxRecDepth 100000 in
theorem new_calls (size : Int) (w : World) (hs : 4096 ≤ size) (hs' : size ≤ 268435456) (hd : size % 4096 = 0) :
    Calls Try.prog 27 #[.int .u64 size] w (NewPost w size (fun _ => 0) fun v => .tuple #[v, .int .i64 0]) := by
  have hmm := @run_makeMap Try.prog
  have hdd : decide (size % 4096 = 0) = true := decide_eq_true hd
  have hm1 : ((w.alloc (.map #[] 0)).alloc (.cells #[.int .u64 size, .map (some w.heap.size), .pointer none] 175)).heap[w.heap.size]? = some (.map #[] 0) := at_alloc (at_new w _) _
  have hp1 := at_new (w.alloc (.map #[] 0)) (.cells #[.int .u64 size, .map (some w.heap.size), .pointer none] 175)
  have e1 : (w.alloc (.map #[] 0)).heap.size = w.heap.size + 1 := by simp
  have e2 : ((w.alloc (.map #[] 0)).alloc (.cells #[.int .u64 size, .map (some w.heap.size), .pointer none] 175)).heap.size = w.heap.size + 1 + 1 := by simp
  rw [e1] at hp1
  refine calls_to ?_ ⟨w.heap.size + 1, fun b => b = w.heap.size ∨ b = w.heap.size + 1, rfl, ⟨w.heap.size, #[], 0, hp1, by omega, .inr rfl, fun b hb => by rw [e2]; omega, fun _ => ⟨Int.le_refl 0, show (0 : Int) ≤ 255 by decide⟩,
    ⟨hm1, .inl rfl, by simp, by simp, fun _ _ _ _ _ => rfl⟩⟩, ((Kept.refl No w).alloc _).alloc _, fun b hb => by omega⟩
  clear hm1 hp1 e1 e2 hd
  go_enter Try.func27, Try.ntmps27
  go_wp2_with (go_at_call 83; refine (aligned_calls _ _ _ (by omega) (by omega)).mono ?_; rintro e w1 ⟨rfl, h1⟩; subst h1)
  go_ret2
  exact ⟨rfl, rfl⟩

set_option maxRecDepth 100000 in
theorem copy_calls (p : Nat) (F : Nat → Prop) (size : Int) (g : Int → Int) (w : World) (h : RamAt w p F size g) :
    Calls Try.prog 21 #[.pointer (some ⟨p, 0, none⟩)] w (NewPost w size g fun v => v) := by
  obtain ⟨r, es, clock, hp, hsz, hFp, hlt, hg, hP⟩ := h
  have hmm := @run_makeMap Try.prog
  have hc := fun i => cells_of hp i
  have hpl := lt_of hp
  have hc1 : ∀ o i, (w.alloc o).cell? ⟨p, i, none⟩ = (#[.int .u64 size, .map (some r), .pointer none] : Array Value)[i]? := fun o i => cells_of (at_alloc hp o) i
  have hc2 : ∀ o o' i, ((w.alloc o).alloc o').cell? ⟨p, i, none⟩ = (#[.int .u64 size, .map (some r), .pointer none] : Array Value)[i]? := fun o o' i => cells_of (at_alloc (at_alloc hp o) o') i
  have hm2 := fun o o' => run_range_map (P := Try.prog) ((w.alloc o).alloc o') 172 23 176 r es clock Try.underlying172 (at_alloc (at_alloc hP.map o) o')
  have HP := hid hP
  have HG := hid hg
  have HLT := hid hlt
  clear hP hg hlt
  go_enter Try.func21, Try.ntmps21
  go_wp2_with fail
  clear hc hc1 hc2 hm2
  go_loopw [] (fun wr => ∃ seen es2 clock2 F2, CopyRel w F2 178 4096 r w.heap.size (w.heap.size + 1 + 1) g es clock seen es2 clock2 wr ∧ F2 (w.heap.size + 1) ∧
      wr.heap[w.heap.size + 1]? = some (.cells #[.int .u64 size, .map (some w.heap.size), .pointer none] 175 (0, 0)))
    (fun wr => (leftOf es (wr.iterSeen (w.heap.size + 1 + 1))).size)
  case atStart =>
    have hm1 : (((w.alloc (.map #[] 0)).alloc (.cells #[.int .u64 size, .map (some w.heap.size), .pointer none] 175)).alloc (.mapIter (some r) clock #[] clock)).heap[w.heap.size]? = some (.map #[] 0) := at_alloc (at_alloc (at_new w _) _) _
    have hp1 := at_alloc (at_new (w.alloc (.map #[] 0)) (.cells #[.int .u64 size, .map (some w.heap.size), .pointer none] 175)) (.mapIter (some r) clock #[] clock)
    have hi1 := at_new ((w.alloc (.map #[] 0)).alloc (.cells #[.int .u64 size, .map (some w.heap.size), .pointer none] 175)) (.mapIter (some r) clock #[] clock)
    have e1 : (w.alloc (.map #[] 0)).heap.size = w.heap.size + 1 := by simp
    have e2 : ((w.alloc (.map #[] 0)).alloc (.cells #[.int .u64 size, .map (some w.heap.size), .pointer none] 175)).heap.size = w.heap.size + 1 + 1 := by simp
    have e3 : (((w.alloc (.map #[] 0)).alloc (.cells #[.int .u64 size, .map (some w.heap.size), .pointer none] 175)).alloc (.mapIter (some r) clock #[] clock)).heap.size = w.heap.size + 1 + 1 + 1 := by simp
    rw [e1] at hp1
    rw [e2] at hi1
    refine ⟨#[], #[], 0, fun b => b = w.heap.size ∨ b = w.heap.size + 1, ⟨hi1, ⟨hm1, .inl rfl, by simp, by simp, fun _ _ _ _ _ => by simp [keptG, entryOf]⟩, fun b hb => by rw [e3]; omega, fun x => by simp [entryOf], (((Kept.refl No w).alloc _).alloc _).alloc _, by omega⟩, .inr rfl, hp1⟩
  case round =>
    obtain ⟨seen, es2, clock2, F2, hR, hFq, hq⟩ := hrel
    have hPr := HP.out.stay (w' := wr) (fun b hb => hR.kept.block b (HLT.out b hb) (fun h => h))
    rcases run_next_at (P := Try.prog) wr 0 (w.heap.size + 1 + 1) r clock clock seen es clock hR.iter hPr.map hPr.young (Nat.le_refl _) with ⟨hl0, hrun⟩ | ⟨e, he, w1, hw1, hrun⟩
    · have hfin : RamAt wr (w.heap.size + 1) F2 size g := ⟨w.heap.size, es2, clock2, hq, hsz, hFq, fun b hb => (hR.inF b hb).2.1, HG.out, hR.all HP.out (by omega) hl0⟩
      have hF2 := fun b hb => (hR.inF b hb).1
      have HF := hid hF2
      have HK := hid hR.kept
      have HQ := hid hfin
      clear hfin hF2 hR hq hPr hl0 hFq
      go_wp2
      go_ret
      exact ⟨w.heap.size + 1, F2, rfl, HQ.out, HK.out, HF.out⟩
    · obtain ⟨he1, he2⟩ := mem_left he
      obtain ⟨k, b, cs, hk, k0, k1, hv, hFb, hbo, hb, hcs, hg4⟩ := hPr.entry e he1
      rw [hk, hv] at hrun
      have hh : w1.heap = wr.heap := by rcases hw1 with rfl | rfl <;> rfl
      have hw1k : Kept No w w1 := by rcases hw1 with rfl | rfl; exact hR.kept; exact hR.kept.drew
      obtain ⟨W, hW⟩ : ∃ W, W = Go.ChangeMaps.setBlock w1 (w.heap.size + 1 + 1) (.mapIter (some r) clock (seen.push e.born) clock) := ⟨_, rfl⟩
      have hW' : W = put w1 (w.heap.size + 1 + 1) (.mapIter (some r) clock (seen.push e.born) clock) := hW
      rw [← hW] at hrun
      have hil := lt_of hR.iter
      have hWi : W.heap[w.heap.size + 1 + 1]? = some (.mapIter (some r) clock (seen.push e.born) clock) := by rw [hW']; exact put_same _ _ _ (by rw [hh]; exact hil)
      have hWo : ∀ j, j ≠ w.heap.size + 1 + 1 → W.heap[j]? = wr.heap[j]? := fun j hj => by rw [hW', put_other _ _ _ _ hj, hh]
      have hWs : W.heap.size = wr.heap.size := by rw [hW', put_size, hh]
      have hWk : Kept No w W := by rw [hW']; exact hw1k.put (.inr (by omega)) _
      have hrn : r ≠ w.heap.size + 1 + 1 := by have := HLT.out r HP.out.inF; omega
      have hbn : b ≠ w.heap.size + 1 + 1 := by have := HLT.out b hFb; omega
      have hent := run_entry_at (P := Try.prog) W (w.heap.size + 1 + 1) r clock seen es clock e hWi ((hWo r hrn).trans hPr.map) he1 hPr.borns
      rw [hk, hv] at hent
      have hWb : W.heap[b]? = some (.cells cs 178 (0, 0)) := (hWo b hbn).trans hb
      have hinfo : (Try.prog.info? 178).map (·.size) = some cs.size := by rw [hcs]; kernel_rfl
      have hone : cs.all (·.oneCell') = true := by
        rw [Array.all_eq_true]
        intro i hi
        have := hg4 i (by omega)
        rw [Array.getElem?_eq_getElem hi] at this
        injection this with this
        rw [this]
        rfl
      have hstc := run_storeCells_new (P := Try.prog) W 178 Try.zeroCells178 cs hinfo (by rw [hcs]; exact zero_cells.1) hone
      obtain ⟨hx2, hP2, hR2⟩ := hR.step HP.out hWs hWi hWo hWk he1 he2 hk k0 k1 hcs hg4
      have hWq : W.heap[w.heap.size + 1]? = some (.cells #[.int .u64 size, .map (some w.heap.size), .pointer none] 175 (0, 0)) := (hWo _ (by omega)).trans hq
      have hq3 : ∀ i, (W.alloc (.cells cs 178)).cell? ⟨w.heap.size + 1, i, none⟩ = (#[.int .u64 size, .map (some w.heap.size), .pointer none] : Array Value)[i]? := fun i => cells_of (at_alloc hWq _) i
      have hst := run_store_new (P := Try.prog) (t := 172) (kt := 23) (et := 176) Try.underlying172 Try.underlying23 (at_alloc hP2.map (.cells cs 178)) hP2.words k (.pointer (some ⟨W.heap.size, 0, none⟩)) hx2
      have hfin : ∃ s' e' c' F', CopyRel w F' 178 4096 r w.heap.size (w.heap.size + 1 + 1) g es clock s' e' c' (put (W.alloc (.cells cs 178)) w.heap.size (.map (es2.push ⟨.int .u64 k, .pointer (some ⟨W.heap.size, 0, none⟩), clock2⟩) (clock2 + 1))) ∧ F' (w.heap.size + 1) ∧
          (put (W.alloc (.cells cs 178)) w.heap.size (.map (es2.push ⟨.int .u64 k, .pointer (some ⟨W.heap.size, 0, none⟩), clock2⟩) (clock2 + 1))).heap[w.heap.size + 1]? = some (.cells #[.int .u64 size, .map (some w.heap.size), .pointer none] 175 (0, 0)) :=
        ⟨_, _, _, Or2 F2 (· = W.heap.size), hR2, Or.inl hFq, (put_other _ _ _ _ (by omega)).trans (at_alloc hWq _)⟩
      have hmea : (leftOf es ((put (W.alloc (.cells cs 178)) w.heap.size (.map (es2.push ⟨.int .u64 k, .pointer (some ⟨W.heap.size, 0, none⟩), clock2⟩) (clock2 + 1))).iterSeen (w.heap.size + 1 + 1))).size < (leftOf es (wr.iterSeen (w.heap.size + 1 + 1))).size := by
        have e1 : wr.iterSeen (w.heap.size + 1 + 1) = seen := by simp [World.iterSeen, hR.iter]
        have e2 : (put (W.alloc (.cells cs 178)) w.heap.size (.map (es2.push ⟨.int .u64 k, .pointer (some ⟨W.heap.size, 0, none⟩), clock2⟩) (clock2 + 1))).iterSeen (w.heap.size + 1 + 1) = seen.push e.born := by simp [World.iterSeen, hR2.iter]
        rw [e1, e2]
        exact left_shrinks es seen e he
      have HW := hid hWb
      have HI := hid hinfo
      have HFIN := hid hfin
      have HM := hid hmea
      clear hW hW' hR hR2 hP2 hPr hh hw1 hw1k hWk hWs hWo hrn hbn hil he hk hv he2 hg4 hb hWi hq hp hpl he1 k0 k1 hWb hinfo hone hFq hFb hsz hWq hx2 hbo hfin hmea
      go_wp2_with (refine wpList_load_row rfl 178 _ rfl b rfl 178 cs (0, 0) _ HW.out Try.underlying178 rfl HI.out ?_)
      go_roundw
      case rel => exact HFIN.out
      case measure => exact HM.out
end Go.Proofs.Ytognedbehplaeaa
