/- The walk of pages of the statements' package. -/
import Derived.Test.YtgheokocdfgjpaaCount
import Derived.Deep.RegionLaw
import Derived.BigRegion
import Derived.Deep.AppendLies
namespace Go.Proofs.Ytgheokocdfgjpaa
open Go.RowKit Go.MapKept Go.ChangeMaps Go.Maps Go.WideMaps

/-- Is the k-th address selected? -/
def bitOn (n : Int) (k : Nat) : Bool := (pickI n 32 / 2 ^ k).tmod 2 == 1
def mark (v : Int) : BA := strOfNums [65 + v / 26 % 26, 97 + v % 26]
def pagesTo (n v : Int) : Nat → List (BA × BA)
  | 0 => []
  | k + 1 => pagesTo n v k ++ if bitOn n k then [(ad k, mark v ++ ad k)] else []
def cellsOf (L : List (BA × BA)) : List Value := L.flatMap fun p => [.string p.1, .string p.2, .slice none 0 0]

def adRow : Obj := .cells #[.string (ad 0), .string (ad 1), .string (ad 2), .string (ad 3), .string (ad 4)] 9

theorem info47 : (Try.prog.info? 47).map (fun i => (i.zero, i.size, i.bytes)) = some (some (.agg #[.string ⟨#[]⟩, .string ⟨#[]⟩, .slice none 0 0]), 3, 56) := by kernel_rfl

theorem mark_size (v : Int) : (mark v).size = 2 := by simp [mark, strOfNums_size]

theorem mark_nums (v : Int) (hv : 0 ≤ v) (hv1 : v ≤ 1000) : v.tdiv 26 = v / 26 ∧ IntKind.i64.wrap (v / 26) = v / 26 ∧ (v / 26).tmod 26 = v / 26 % 26 ∧ IntKind.i64.wrap (65 + v / 26 % 26) = 65 + v / 26 % 26 ∧ IntKind.u8.wrap (65 + v / 26 % 26) = 65 + v / 26 % 26 ∧
    v.tmod 26 = v % 26 ∧ IntKind.i64.wrap (97 + v % 26) = 97 + v % 26 ∧ IntKind.u8.wrap (97 + v % 26) = 97 + v % 26 :=
  ⟨Int.tdiv_eq_ediv_of_nonneg hv, IntWalk.i64_in _ (by omega), Int.tmod_eq_emod_of_nonneg (by omega), IntWalk.i64_in _ (by omega), IntWalk.u8_in _ (by omega), Int.tmod_eq_emod_of_nonneg hv, IntWalk.i64_in _ (by omega), IntWalk.u8_in _ (by omega)⟩

theorem mark_conv (w : World) (v : Int) : (convert 64 9 (.slice (some ⟨w.heap.size, 0, none⟩) 2 2)).run Try.prog (w.alloc (.cells #[.int .u8 (65 + v / 26 % 26), .int .u8 (97 + v % 26)] 5)).drew = .ok (.string (mark v)) (w.alloc (.cells #[.int .u8 (65 + v / 26 % 26), .int .u8 (97 + v % 26)] 5)).drew :=
  run_convert_bytes_arg _ 64 5 Try.underlying64 Try.underlying5 w.heap.size 0 2 2 [65 + v / 26 % 26, 97 + v % 26] rfl (fun i hi => by
    match i, hi with
    | 0, _ => simp
    | 1, _ => simp) 9 Try.underlying9

theorem two_new (w : World) (o o' : Obj) : ((w.alloc o).alloc o').drew.heap[w.heap.size + 1]? = some o' := by
  show ((w.alloc o).alloc o').heap[w.heap.size + 1]? = _
  rw [heap_alloc_eq, if_pos (by simp)]

theorem ad_size (k : Nat) : (ad k).size ≤ 10 := by
  match k with
  | 0 => decide
  | 1 => decide
  | 2 => decide
  | 3 => decide
  | n + 4 => show (ad 4).size ≤ 10; decide

theorem adRow_cell (w : World) (k : Nat) (hk : k < 5) : (w.alloc adRow).cell? ⟨w.heap.size, k, none⟩ = some (.string (ad k)) := by
  match k, hk with
  | 0, _ => simp [adRow]
  | 1, _ => simp [adRow]
  | 2, _ => simp [adRow]
  | 3, _ => simp [adRow]
  | 4, _ => simp [adRow]

theorem pagesTo_len (n v : Int) (k : Nat) : (pagesTo n v k).length ≤ k := by
  induction k with
  | zero => simp [pagesTo]
  | succ k ih =>
    unfold pagesTo
    split <;> simp <;> omega

theorem cells_at : ∀ (L : List (BA × BA)) (i : Nat) p, L[i]? = some p → (cellsOf L)[i * 3]? = some (.string p.1) ∧ (cellsOf L)[i * 3 + 1]? = some (.string p.2) ∧ (cellsOf L)[i * 3 + 2]? = some (.slice none 0 0)
  | [], i, p, h => by simp at h
  | q :: r, 0, p, h => by
    simp only [List.getElem?_cons_zero, Option.some.injEq] at h
    subst h
    simp [cellsOf]
  | q :: r, i + 1, p, h => by
    simp only [List.getElem?_cons_succ] at h
    obtain ⟨h1, h2, h3⟩ := cells_at r i p h
    have e : cellsOf (q :: r) = [.string q.1, .string q.2, .slice none 0 0] ++ cellsOf r := by simp [cellsOf]
    have e3 : ∀ j, (cellsOf (q :: r))[(i + 1) * 3 + j]? = (cellsOf r)[i * 3 + j]? := fun j => by
      rw [e, List.getElem?_append_right (by simp; omega)]
      congr 1
      simp
      omega
    exact ⟨(e3 0).trans h1, (e3 1).trans h2, (e3 2).trans h3⟩

def pagesL (n v : Int) : List (BA × BA) := pagesTo n v 5

theorem pagesTo_small (n v : Int) (k : Nat) : ∀ p ∈ pagesTo n v k, p.1.size ≤ 1000 ∧ p.2.size ≤ 1000 := by
  induction k with
  | zero => simp [pagesTo]
  | succ k ih =>
    intro p hp
    unfold pagesTo at hp
    rcases List.mem_append.1 hp with hp | hp
    · exact ih p hp
    · split at hp
      · simp only [List.mem_singleton] at hp
        subst hp
        have := ad_size k
        have := mark_size v
        refine ⟨by show (ad k).size ≤ 1000; omega, ?_⟩
        show (mark v ++ ad k).size ≤ 1000
        rw [ByteArray.size_append]
        omega
      · simp at hp

def PagesPost (w : World) (L : List (BA × BA)) (e : Ending) (w' : World) : Prop := ∃ val, e = .returned val ∧ PagesAt w' val L ∧ Below w.heap.size w w'

theorem pages_end {w wr : World} {val : Value} {n v : Int} (hown : wr.ownsRow (w.heap.size + 1) 47 3 val (pagesTo n v 5).length (cellsOf (pagesTo n v 5))) (hbw : Below (w.heap.size + 1) (w.alloc adRow) wr) : PagesPost w (pagesL n v) (.returned val) wr := by
  have hl := pagesTo_len n v 5
  refine ⟨val, rfl, ⟨pagesTo_small n v 5, by show (pagesTo n v 5).length ≤ 1000; omega, ?_⟩, ((Below.refl _ _).alloc (Nat.le_refl _) _).trans (hbw.mono (by omega))⟩
  obtain ⟨_, ⟨h1, h2⟩ | ⟨g, cap, cur, h1, h2, h3, h4, h5, h6, h7⟩⟩ := hown
  · exact .inl ⟨h1, List.length_eq_zero_iff.1 h2⟩
  · refine .inr ⟨g, cap, h1, (Array.getElem?_eq_some_iff.1 h3).1, fun i p hp => ?_⟩
    obtain ⟨c0, c1, c2⟩ := cells_at _ i p hp
    have hat : ∀ j u, (cellsOf (pagesTo n v 5))[j]? = some u → wr.cell? ⟨g, j, none⟩ = some u := fun j u hu => by
      rw [← h7] at hu
      have : cur[j]? = some u := by
        rw [List.getElem?_take] at hu
        split at hu
        · simpa using hu
        · cases hu
      simp [World.cell?, h3, this]
    exact ⟨hat _ _ c0, hat _ _ c1, none, 0, 0, hat _ _ c2⟩

theorem cat_fits (v : Int) (k : Nat) : ¬ (9223372036854775807 < (mark v).size + (ad k).size) := by
  have h1 := mark_size v
  have h2 := ad_size k
  omega

set_option maxRecDepth 100000 in
set_option maxHeartbeats 2000000 in
theorem pages_any (n v : Int) (w : World) (h0 : -9223372036854775808 ≤ n) (h1 : n ≤ 9223372036854775807) (hv : 0 ≤ v) (hv1 : v ≤ 1000) :
    Calls Try.prog 19 #[.int .i64 n, .int .i64 v] w (PagesPost w (pagesL n v)) := by
  obtain ⟨i0, hi, hz0, hz1, hz2⟩ := info_parts info47
  go_enter Try.func19, Try.ntmps19
  go_wp2_with (go_at_call 10; refine (addresses_any _).mono ?_; rintro e w' ⟨rfl, rfl⟩)
  go_loopw [5, 7] (fun l i wr => ∃ k : Nat, i = .int .i64 k ∧ k ≤ 5 ∧ wr.ownsRow (w.heap.size + 1) 47 3 l (pagesTo n v k).length (cellsOf (pagesTo n v k)) ∧ Below (w.heap.size + 1) (w.alloc adRow) wr) (fun _ i _ => 5 - (intOf i).toNat)
  case atStart => exact ⟨0, rfl, by omega, World.ownsRow_nil _ _ _ _, Below.refl _ _⟩
  case round =>
    obtain ⟨k, rfl, hk, hown, hbw⟩ := hrel
    obtain ⟨hd0, hd1⟩ := pickI_bd n 32 (by omega)
    by_cases hlt : k < 5
    · have hk0 : (0 : Int) ≤ (k : Int) := by omega
      have hk5 : (k : Int) < 5 := by omega
      have hsz := hbw.size
      simp only [World.size_alloc] at hsz
      cases hb : bitOn n k with
      | true =>
        have hb' : ((pickI n 32 / 2 ^ k).tmod 2 == 1) = true := hb
        have hrow : Hid (pagesTo n v (k + 1) = pagesTo n v k ++ [(ad k, mark v ++ ad k)]) := by show pagesTo n v (k + 1) = _; simp [pagesTo, hb]
        have hlen := pagesTo_len n v k
        have q0 : wr.cell? ⟨w.heap.size, k, none⟩ = some (.string (ad k)) := by
          rw [hbw.cell (p := ⟨w.heap.size, k, none⟩) (by simp)]
          exact adRow_cell w k hlt
        have q1 : ∀ o, (wr.alloc o).cell? ⟨w.heap.size, k, none⟩ = some (.string (ad k)) := fun o => by
          rw [World.cell?_alloc_lt _ _ _ (by dsimp only; omega)]
          exact q0
        have hcv := mark_conv wr v
        have hno := cat_fits v k
        obtain ⟨a1, a2, a3, a4, a5, b3, b4, b5⟩ := mark_nums v hv hv1
        have Hown := Lib.hid hown
        have Hbw := Lib.hid hbw
        clear hb hown hbw
        go_wp2_with (go_at_call 13; refine (pick_any n 32 _ h0 h1 (by omega)).mono ?_; rintro e w' ⟨rfl, rfl⟩)
        go_region_law
          (first
            | (refine step_append_lies _ (by rfl) _ _ _ (by rfl) (w.heap.size + 1) 47 i0 _ 3 56 Try.underlying42 hi hz0 hz1 hz2 rfl (by omega) u5 _ _ (by rfl) (((Hown.out.alloc _).alloc _).drew) ⟨wr.heap.size + 1, 0, none⟩ 1 1 [.string (ad k), .string (mark v ++ ad k), .slice none 0 0] (by rfl) (by rfl) (World.news_of_block (cs := #[.string (ad k), .string (mark v ++ ad k), .slice none 0 0]) (t := 47) (fr := (0, 0)) (two_new _ _ _)) (by simp [Value.oneCell']) (by omega) (by unfold maxLen; omega) (by omega) (by simp; omega) (wr.heap.size + 2) (by simp) ?_; intro gg cap w1 hown1 hgrow hat hlt))
        all_goals
          have hown2 : Hid (w1.ownsRow (w.heap.size + 1) 47 3 (.slice (some ⟨gg, 0, none⟩) ((pagesTo n v k).length + 1) cap) (pagesTo n v (k + 1)).length (cellsOf (pagesTo n v (k + 1)))) := by
            show w1.ownsRow (w.heap.size + 1) 47 3 (.slice (some ⟨gg, 0, none⟩) ((pagesTo n v k).length + 1) cap) (pagesTo n v (k + 1)).length (cellsOf (pagesTo n v (k + 1)))
            rw [hrow.out]
            have e : cellsOf (pagesTo n v k ++ [(ad k, mark v ++ ad k)]) = cellsOf (pagesTo n v k) ++ [.string (ad k), .string (mark v ++ ad k), .slice none 0 0] := by simp [cellsOf]
            rw [e, List.length_append]
            exact hown1
          have hbw2 := Lib.hid ((((Hbw.out.alloc (by omega) _).alloc (by simp; omega) _).drew).grown hgrow (by simp; omega) (fun j hj => (Hown.out.lt j hj).1))
          clear hown1 hgrow hat hcv q0 q1 a1 a2 a3 a4 a5 b3 b4 b5
          go_wp2
          go_roundw
          case rel => exact ⟨k + 1, by go_num, by omega, hown2.out, hbw2.out⟩
          case measure => simp [intOf]; omega
      | false =>
        have hb' : ((pickI n 32 / 2 ^ k).tmod 2 == 1) = false := hb
        have hrow : Hid (pagesTo n v (k + 1) = pagesTo n v k) := by show pagesTo n v (k + 1) = _; simp [pagesTo, hb]
        have Hown := Lib.hid hown
        have Hbw := Lib.hid hbw
        clear hb hown hbw
        go_wp2_with (go_at_call 13; refine (pick_any n 32 _ h0 h1 (by omega)).mono ?_; rintro e w' ⟨rfl, rfl⟩)
        go_roundw
        case rel => exact ⟨k + 1, by go_num, by omega, by rw [hrow.out]; exact Hown.out, Hbw.out⟩
        case measure => simp [intOf]; omega
    · have hk5 : k = 5 := by omega
      subst hk5
      have hend := Lib.hid (pages_end hown hbw)
      clear hown hbw
      go_wp2
      go_ret
      exact hend.out
end Go.Proofs.Ytgheokocdfgjpaa
