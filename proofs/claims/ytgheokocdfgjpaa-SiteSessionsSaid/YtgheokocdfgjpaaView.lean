/- The walk of view of the statements' package. -/
import Derived.Test.YtgheokocdfgjpaaPerform
import Derived.Deep.DeepCutAuto
import Derived.Deep.DeepMust
namespace Go.Proofs.Ytgheokocdfgjpaa
open Go.RowKit Go.MapKept Go.ChangeMaps Go.Maps Go.WideMaps

def errT (e : Int) : BA := if e = 0 then emptyB else if e = 251 then none5 else site5
def okErr (e : Int) : Prop := e = 0 ∨ e = 251 ∨ e = 250

theorem errT_size (e : Int) : (errT e).size ≤ 5 := by
  unfold errT
  split
  · decide
  · split <;> decide

theorem errorText_any (e : Int) (he : okErr e) (w : World) : Calls Try.prog 24 #[.int .i64 e] w fun r w' => r = .returned (.string (errT e)) ∧ w = w' := by
  rcases he with rfl | rfl | rfl
  · exact errorText_ok w
  · exact errorText_none w
  · exact errorText_site w

theorem getR_err (f : BA → Option BA) (a : BA) : okErr (getR f a).2 := by
  unfold getR
  cases f a
  · exact .inr (.inl rfl)
  · exact .inl rfl

theorem getA_err (A : AS) (c : Int) (a : BA) : okErr (getA A c a).2 := by
  unfold getA
  split
  · exact getR_err _ _
  · exact .inr (.inr rfl)

theorem readA_err (A : AS) (n : Int) (a : BA) : okErr (readA A n a).2 := by
  unfold readA
  split
  · exact getR_err _ _
  · exact .inr (.inr rfl)

theorem SnapAt.small {F : Nat → Prop} {w : World} {b : Nat} {c : Int} {f : BA → Option BA} (h : SnapAt F w b c f) (a : BA) : (getR f a).1.size ≤ 1000 := by
  obtain ⟨t, l, _, _, _, h2, rfl⟩ := h
  unfold getR
  cases hq : asc l a with
  | none => show emptyB.size ≤ 1000; decide
  | some v => exact (h2.2 _ (asc_mem hq)).2

theorem getA_small {F : Nat → Prop} {w : World} {s : Nat} {A : AS} (h : Rep F w s A) (c : Int) (a : BA) : (getA A c a).1.size ≤ 1000 := by
  obtain ⟨B, hB⟩ := h
  unfold getA
  split
  · rename_i hc
    simp only [isClass, decide_eq_true_eq] at hc
    exact (hB.cur c.toNat (by omega)).small a
  · show emptyB.size ≤ 1000; decide

theorem readA_small {F : Nat → Prop} {w : World} {s : Nat} {A : AS} (h : Rep F w s A) (n : Int) (a : BA) : (readA A n a).1.size ≤ 1000 := by
  obtain ⟨B, hB⟩ := h
  unfold readA
  rcases asc_idx hB.keys n with ⟨e1, e2⟩ | ⟨j, b, q, hj1, hj2, e1, e2⟩
  · rw [e2]; show emptyB.size ≤ 1000; decide
  · rw [e2]; exact (hB.at_ j _ _ hj1 hj2).small a

def getS (A : AS) (t : Nat) : BA := (getA A ((t / 5 : Nat) - 1) (ad (t % 5))).1 ++ errT (getA A ((t / 5 : Nat) - 1) (ad (t % 5))).2
def readS (A : AS) (t : Nat) : BA := (readA A (t / 5 : Nat) (ad (t % 5))).1 ++ errT (readA A (t / 5 : Nat) (ad (t % 5))).2
def getL (A : AS) (t : Nat) : List Value := (List.range t).map fun j => Value.string (getS A j)
def readL (A : AS) (t : Nat) : List Value := (List.range t).map fun j => Value.string (readS A j)

theorem getL_succ (A : AS) (t : Nat) : getL A (t + 1) = getL A t ++ [.string (getS A t)] := by simp [getL, List.range_succ]
theorem readL_succ (A : AS) (t : Nat) : readL A (t + 1) = readL A t ++ [.string (readS A t)] := by simp [readL, List.range_succ]

theorem info9 : (Try.prog.info? 9).map (fun i => (i.zero, i.size, i.bytes)) = some (some (.string ⟨#[]⟩), 1, 16) := by kernel_rfl

theorem cat_ok {s e : BA} (h1 : s.size ≤ 1000) (h2 : e.size ≤ 5) : ¬ (9223372036854775807 < s.size + e.size) := by omega

theorem one_news (w : World) (x : BA) : ∀ (j : Nat) u, [Value.string x][j]? = some u → (w.alloc (.cells #[.string x] 9)).cell? ((⟨w.heap.size, 0, none⟩ : Addr).add j) = some u := fun j u hu => by
  match j with
  | 0 =>
    simp only [List.getElem?_cons_zero, Option.some.injEq] at hu
    subst hu
    simp [Addr.add]
  | j + 1 => simp at hu
theorem one_cell (x : BA) : ∀ u ∈ [Value.string x], u.oneCell' = true := by simp [Value.oneCell']

theorem getS_at (A : AS) (q k : Nat) (hk : k < 5) : getS A (q * 5 + k) = (getA A ((q : Int) - 1) (ad k)).1 ++ errT (getA A ((q : Int) - 1) (ad k)).2 := by
  have h1 : (q * 5 + k) / 5 = q := by omega
  have h2 : (q * 5 + k) % 5 = k := by omega
  unfold getS
  rw [h1, h2]
theorem readS_at (A : AS) (q k : Nat) (hk : k < 5) : readS A (q * 5 + k) = (readA A (q : Int) (ad k)).1 ++ errT (readA A (q : Int) (ad k)).2 := by
  have h1 : (q * 5 + k) / 5 = q := by omega
  have h2 : (q * 5 + k) % 5 = k := by omega
  unfold readS
  rw [h1, h2]

/-- All that can be read. -/
def viewL (A : AS) (m : Nat) : List Value := getL A 30 ++ readL A ((m + 2) * 5)

theorem viewL_len (A : AS) (m : Nat) : (viewL A m).length = 30 + (m + 2) * 5 := by simp [viewL, getL, readL]

/-- v is a slice of n one-cell elements, xs, in memory that is new since w. -/
def RowAt (w w' : World) (v : Value) (e : TypeId) (xs : List Value) : Prop := w'.ownsRow w.heap.size e 1 v xs.length xs

def ViewPost (w : World) (A : AS) (m : Nat) (e : Ending) (w' : World) : Prop := ∃ v, e = .returned v ∧ RowAt w w' v 9 (viewL A m) ∧ Below w.heap.size w w'

theorem ownsRow_mono {w : World} {b b' e n : Nat} {size : Nat} {v : Value} {xs : List Value} (h : w.ownsRow b e size v n xs) (hb : b' ≤ b) : w.ownsRow b' e size v n xs := by
  obtain ⟨h1, h2 | ⟨g, cap, cur, a1, a2, r⟩⟩ := h
  · exact ⟨h1, .inl h2⟩
  · exact ⟨h1, .inr ⟨g, cap, cur, a1, Nat.le_trans hb a2, r⟩⟩

set_option maxRecDepth 100000 in
set_option maxHeartbeats 4000000 in
theorem view_any (F : Nat → Prop) (s : Nat) (A : AS) (m : Nat) (w : World) (h : Rep F w s A) (hm : m ≤ 900) :
    Calls Try.prog 11 #[ptrV s, .int .i64 (m : Int)] w (ViewPost w A m) := by
  obtain ⟨i0, hi, hz0, hz1, hz2⟩ := info_parts info9
  have H := Lib.hid h; clear h
  unfold ptrV
  go_enter Try.func11, Try.ntmps11
  go_wp2_with (go_at_call 10; refine (addresses_any _).mono ?_; rintro e w' ⟨rfl, rfl⟩)
  go_loopw [5, 7] (fun l i wr => ∃ q : Nat, i = .int .i64 ((q : Int) - 1) ∧ q ≤ 6 ∧ wr.ownsRow (w.heap.size + 1) 9 1 l (q * 5) (getL A (q * 5)) ∧ Below (w.heap.size + 1) (w.alloc adRow) wr) (fun _ i _ => (5 - intOf i).toNat)
  case atStart => exact ⟨0, rfl, by omega, World.ownsRow_nil _ _ _ _, Below.refl _ _⟩
  case round =>
    obtain ⟨q, rfl, hq, hown, hbw⟩ := hrel
    by_cases hlt : q < 6
    · have hown0 := Lib.hid hown
      have hbw0 := Lib.hid hbw
      clear hown hbw
      have hd : decide ((q : Int) - 1 ≤ 4) = true := by simp; omega
      go_wp2_with fail
      clear hd
      obtain ⟨v0, hv0⟩ : ∃ v0, v0 = wr := ⟨_, rfl⟩
      rw [← hv0] at hown0 hbw0 ⊢
      clear hv0
      go_loopw [5, 8] (fun l i wr => ∃ k : Nat, i = .int .i64 k ∧ k ≤ 5 ∧ wr.ownsRow (w.heap.size + 1) 9 1 l (q * 5 + k) (getL A (q * 5 + k)) ∧ Below (w.heap.size + 1) (w.alloc adRow) wr) (fun _ i _ => 5 - (intOf i).toNat)
      case atStart => exact ⟨0, rfl, by omega, hown0.out, hbw0.out⟩
      case round =>
        clear hown0 hbw0
        obtain ⟨k, rfl, hk, hown, hbw⟩ := hrel
        by_cases hkl : k < 5
        · have hsz := hbw.size
          simp only [World.size_alloc] at hsz
          have hk0 : (0 : Int) ≤ (k : Int) := by omega
          have hk5 : (k : Int) < 5 := by omega
          have q0 : wr.cell? ⟨w.heap.size, k, none⟩ = some (.string (ad k)) := by
            rw [hbw.cell (p := ⟨w.heap.size, k, none⟩) (by simp)]
            exact adRow_cell w k hkl
          have hrep : Rep F wr s A := H.out.below (((Below.refl _ _).alloc (Nat.le_refl _) adRow).trans (hbw.mono (by omega)))
          have hget := Lib.hid (getA_any F s A ((q : Int) - 1) (ad k) wr hrep (by have := ad_size k; omega))
          have herr := Lib.hid (getA_err A ((q : Int) - 1) (ad k))
          have hno := cat_ok (getA_small hrep ((q : Int) - 1) (ad k)) (errT_size (getA A ((q : Int) - 1) (ad k)).2)
          have Hc1 := Lib.hid (one_news wr ((getA A ((q : Int) - 1) (ad k)).1 ++ errT (getA A ((q : Int) - 1) (ad k)).2))
          have Hc2 := Lib.hid (one_cell ((getA A ((q : Int) - 1) (ad k)).1 ++ errT (getA A ((q : Int) - 1) (ad k)).2))
          have Hown := Lib.hid hown
          have Hbw := Lib.hid hbw
          have N1 : Hid (q * 5 + k + 1 ≤ maxLen) := by show q * 5 + k + 1 ≤ maxLen; unfold maxLen; omega
          have N2 : Hid ((q * 5 + k + 1) * 16 ≤ 140737488355328) := by show (q * 5 + k + 1) * 16 ≤ 140737488355328; omega
          have N3 : Hid (w.heap.size + 1 ≤ (wr.alloc (.cells #[.string ((getA A ((q : Int) - 1) (ad k)).1 ++ errT (getA A ((q : Int) - 1) (ad k)).2)] 9)).heap.size) := by show w.heap.size + 1 ≤ _; simp; omega
          clear hown hbw hrep
          unfold ptrV at hget
          go_wp2_with (first
            | (go_at_call 16; refine hget.out.mono ?_; rintro e w' ⟨rfl, rfl⟩)
            | (go_at_call 24; refine (errorText_any _ herr.out _).mono ?_; rintro e w' ⟨rfl, rfl⟩)
            | (at_builtin; refine wpList_append_own _ rfl _ _ 28 rfl (w.heap.size + 1) 9 i0 (.string ⟨#[]⟩) 1 16 Try.underlying28 hi hz0 hz1 hz2 rfl (by decide) _ _ _ rfl (Hown.out.alloc _) ⟨wr.heap.size, 0, none⟩ 1 1 [.string ((getA A ((q : Int) - 1) (ad k)).1 ++ errT (getA A ((q : Int) - 1) (ad k)).2)] rfl rfl Hc1.out Hc2.out N1.out N2.out N3.out ?_; intro v' w1 hown1 hgrow1 _))
          have hown2 : Hid (w1.ownsRow (w.heap.size + 1) 9 1 v' (q * 5 + (k + 1)) (getL A (q * 5 + (k + 1)))) := by
            show w1.ownsRow (w.heap.size + 1) 9 1 v' (q * 5 + (k + 1)) (getL A (q * 5 + (k + 1)))
            rw [show q * 5 + (k + 1) = (q * 5 + k) + 1 by omega, getL_succ, getS_at A q k hkl]
            exact hown1
          have hbw2 := Lib.hid ((Hbw.out.alloc (by omega) _).grown hgrow1 (by simp; omega) (fun j hj => (Hown.out.lt j hj).1))
          clear hown1 hgrow1
          go_roundw
          case rel => exact ⟨k + 1, by go_num, by omega, hown2.out, hbw2.out⟩
          case measure => simp [intOf]; omega
        · have hk5 : k = 5 := by omega
          subst hk5
          have Hown := Lib.hid hown
          have Hbw := Lib.hid hbw
          clear hown hbw
          go_wp2
          go_roundw
          case rel => exact ⟨q + 1, by rw [show ((q + 1 : Nat) : Int) - 1 = (q : Int) by omega], by omega, by rw [show (q + 1) * 5 = q * 5 + 5 by omega]; exact Hown.out, Hbw.out⟩
          case measure => simp [intOf]; omega
    · have hq6 : q = 6 := by omega
      subst hq6
      have hownA := Lib.hid hown
      have hbwA := Lib.hid hbw
      clear hown hbw
      rw [show (((6 : Nat) : Int)) - 1 = 5 from rfl]
      go_wp2_with fail
      obtain ⟨v1, hv1⟩ : ∃ v1, v1 = wr := ⟨_, rfl⟩
      rw [← hv1] at hownA hbwA ⊢
      clear hv1
      go_loopw [5, 11] (fun l i wr => ∃ q : Nat, i = .int .i64 (q : Int) ∧ q ≤ m + 2 ∧ wr.ownsRow (w.heap.size + 1) 9 1 l (30 + q * 5) (getL A 30 ++ readL A (q * 5)) ∧ Below (w.heap.size + 1) (w.alloc adRow) wr) (fun _ i _ => ((m : Int) + 2 - intOf i).toNat)
      case atStart => exact ⟨0, rfl, by omega, by simpa [readL] using hownA.out, hbwA.out⟩
      case round =>
        clear hownA hbwA
        obtain ⟨q, rfl, hq, hown, hbw⟩ := hrel
        by_cases hlt : q < m + 2
        · have hown0 := Lib.hid hown
          have hbw0 := Lib.hid hbw
          clear hown hbw
          have hd : decide ((q : Int) ≤ (m : Int) + 1) = true := by simp; omega
          go_wp2_with fail
          clear hd
          obtain ⟨v0, hv0⟩ : ∃ v0, v0 = wr := ⟨_, rfl⟩
          rw [← hv0] at hown0 hbw0 ⊢
          clear hv0
          go_loopw [5, 12] (fun l i wr => ∃ k : Nat, i = .int .i64 k ∧ k ≤ 5 ∧ wr.ownsRow (w.heap.size + 1) 9 1 l (30 + (q * 5 + k)) (getL A 30 ++ readL A (q * 5 + k)) ∧ Below (w.heap.size + 1) (w.alloc adRow) wr) (fun _ i _ => 5 - (intOf i).toNat)
          case atStart => exact ⟨0, rfl, by omega, hown0.out, hbw0.out⟩
          case round =>
            clear hown0 hbw0
            obtain ⟨k, rfl, hk, hown, hbw⟩ := hrel
            by_cases hkl : k < 5
            · have hsz := hbw.size
              simp only [World.size_alloc] at hsz
              have hk0 : (0 : Int) ≤ (k : Int) := by omega
              have hk5 : (k : Int) < 5 := by omega
              have q0 : wr.cell? ⟨w.heap.size, k, none⟩ = some (.string (ad k)) := by
                rw [hbw.cell (p := ⟨w.heap.size, k, none⟩) (by simp)]
                exact adRow_cell w k hkl
              have hrep : Rep F wr s A := H.out.below (((Below.refl _ _).alloc (Nat.le_refl _) adRow).trans (hbw.mono (by omega)))
              have hget := Lib.hid (read_any F s A (q : Int) (ad k) wr hrep (by omega) (by omega) (by have := ad_size k; omega))
              have herr := Lib.hid (readA_err A (q : Int) (ad k))
              have hno := cat_ok (readA_small hrep (q : Int) (ad k)) (errT_size (readA A (q : Int) (ad k)).2)
              have Hc1 := Lib.hid (one_news wr ((readA A (q : Int) (ad k)).1 ++ errT (readA A (q : Int) (ad k)).2))
              have Hc2 := Lib.hid (one_cell ((readA A (q : Int) (ad k)).1 ++ errT (readA A (q : Int) (ad k)).2))
              have Hown := Lib.hid hown
              have Hbw := Lib.hid hbw
              have N1 : Hid (30 + (q * 5 + k) + 1 ≤ maxLen) := by show 30 + (q * 5 + k) + 1 ≤ maxLen; unfold maxLen; omega
              have N2 : Hid ((30 + (q * 5 + k) + 1) * 16 ≤ 140737488355328) := by show (30 + (q * 5 + k) + 1) * 16 ≤ 140737488355328; omega
              have N3 : Hid (w.heap.size + 1 ≤ (wr.alloc (.cells #[.string ((readA A (q : Int) (ad k)).1 ++ errT (readA A (q : Int) (ad k)).2)] 9)).heap.size) := by show w.heap.size + 1 ≤ _; simp; omega
              clear hown hbw hrep
              unfold ptrV at hget
              go_wp2_with (first
                | (go_at_call 15; refine hget.out.mono ?_; rintro e w' ⟨rfl, rfl⟩)
                | (go_at_call 24; refine (errorText_any _ herr.out _).mono ?_; rintro e w' ⟨rfl, rfl⟩)
                | (at_builtin; refine wpList_append_own _ rfl _ _ 28 rfl (w.heap.size + 1) 9 i0 (.string ⟨#[]⟩) 1 16 Try.underlying28 hi hz0 hz1 hz2 rfl (by decide) _ _ _ rfl (Hown.out.alloc _) ⟨wr.heap.size, 0, none⟩ 1 1 [.string ((readA A (q : Int) (ad k)).1 ++ errT (readA A (q : Int) (ad k)).2)] rfl rfl Hc1.out Hc2.out N1.out N2.out N3.out ?_; intro v' w1 hown1 hgrow1 _))
              have hown2 : Hid (w1.ownsRow (w.heap.size + 1) 9 1 v' (30 + (q * 5 + (k + 1))) (getL A 30 ++ readL A (q * 5 + (k + 1)))) := by
                show w1.ownsRow (w.heap.size + 1) 9 1 v' (30 + (q * 5 + (k + 1))) (getL A 30 ++ readL A (q * 5 + (k + 1)))
                rw [show q * 5 + (k + 1) = (q * 5 + k) + 1 by omega, readL_succ, readS_at A q k hkl, ← List.append_assoc]
                exact hown1
              have hbw2 := Lib.hid ((Hbw.out.alloc (by omega) _).grown hgrow1 (by simp; omega) (fun j hj => (Hown.out.lt j hj).1))
              clear hown1 hgrow1
              go_roundw
              case rel => exact ⟨k + 1, by go_num, by omega, hown2.out, hbw2.out⟩
              case measure => simp [intOf]; omega
            · have hk5 : k = 5 := by omega
              subst hk5
              have Hown := Lib.hid hown
              have Hbw := Lib.hid hbw
              clear hown hbw
              go_wp2
              go_roundw
              case rel => exact ⟨q + 1, by go_num, by omega, by rw [show (q + 1) * 5 = q * 5 + 5 by omega]; exact Hown.out, Hbw.out⟩
              case measure => simp [intOf]; omega
        · have hqm : q = m + 2 := by omega
          subst hqm
          have hend : Hid (∀ v, wr.ownsRow (w.heap.size + 1) 9 1 v (30 + (m + 2) * 5) (getL A 30 ++ readL A ((m + 2) * 5)) → ViewPost w A m (.returned v) wr) := fun v hv =>
            ⟨v, rfl, by
              show wr.ownsRow w.heap.size 9 1 v (viewL A m).length (viewL A m)
              rw [viewL_len]
              exact ownsRow_mono hv (by omega), ((Below.refl _ _).alloc (Nat.le_refl _) adRow).trans (hbw.mono (by omega))⟩
          have Hown := Lib.hid hown
          clear hown hbw
          have hd : decide ((((m + 2 : Nat) : Int)) ≤ (m : Int) + 1) = false := by simp
          go_wp2
          go_ret
          exact hend.out _ Hown.out
end Go.Proofs.Ytgheokocdfgjpaa
