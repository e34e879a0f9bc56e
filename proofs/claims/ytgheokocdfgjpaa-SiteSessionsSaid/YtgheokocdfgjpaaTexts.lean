/- A view of a Site as a row of texts that stays as it is. -/
import Derived.Test.YtgheokocdfgjpaaHeld
namespace Go.Proofs.Ytgheokocdfgjpaa
open Go.RowKit Go.MapKept Go.ChangeMaps Go.Maps Go.WideMaps

/-- The cells of block g are xs. -/
def TextsAt (v : World) (g : Nat) (xs : List Value) : Prop := g < v.heap.size ∧ ∀ (i : Nat) x, xs[i]? = some x → v.cell? ⟨g, i, none⟩ = some x

theorem RowAt.texts {w v : World} {val : Value} {e : TypeId} {xs : List Value} (h : RowAt w v val e xs) (hx : xs ≠ []) :
    ∃ g cap, val = .slice (some ⟨g, 0, none⟩) xs.length cap ∧ w.heap.size ≤ g ∧ TextsAt v g xs := by
  obtain ⟨_, ⟨_, h2⟩ | ⟨g, cap, cur, h1, h2, h3, h4, h5, h6, h7⟩⟩ := h
  · exact absurd (List.length_eq_zero_iff.1 h2) hx
  · refine ⟨g, cap, h1, h2, (Array.getElem?_eq_some_iff.1 h3).1, fun j u hu => ?_⟩
    rw [← h7] at hu
    have : cur[j]? = some u := by
      rw [List.getElem?_take] at hu
      split at hu
      · simpa using hu
      · cases hu
    simp [World.cell?, h3, this]

theorem TextsAt.keep {v v' : World} {g : Nat} {xs : List Value} (h : TextsAt v g xs) (hb : v'.heap[g]? = v.heap[g]?) : TextsAt v' g xs := by
  have hlt : g < v'.heap.size := by
    rw [Array.getElem?_eq_getElem h.1] at hb
    exact (Array.getElem?_eq_some_iff.1 hb).1
  refine ⟨hlt, fun i x hx => ?_⟩
  rw [← h.2 i x hx]
  simp [World.cell?, hb]

theorem TextsAt.below {v v' : World} {g : Nat} {xs : List Value} (h : TextsAt v g xs) (hb : Below v.heap.size v v') : TextsAt v' g xs := h.keep (hb.block g h.1)

theorem viewL_ne (A : AS) (m : Nat) : viewL A m ≠ [] := fun h => by
  have := viewL_len A m
  rw [h] at this
  simp at this

theorem viewL_get (A : AS) (m i : Nat) (h : i < 30) : (viewL A m)[i]? = some (.string (getS A i)) := by
  unfold viewL
  rw [List.getElem?_append_left (by simp [getL]; omega)]
  simp [getL, h]

theorem viewL_read (A : AS) (m i : Nat) (h : 30 ≤ i) (h2 : i < 30 + (m + 2) * 5) : (viewL A m)[i]? = some (.string (readS A (i - 30))) := by
  unfold viewL
  rw [List.getElem?_append_right (by simp [getL]; omega)]
  simp only [readL, getL, List.length_map, List.length_range, List.getElem?_map]
  rw [List.getElem?_range (by omega)]
  rfl

/-- What view returns, as a row of texts. -/
def ViewTexts (w : World) (A : AS) (m : Nat) (e : Ending) (w' : World) : Prop :=
  ∃ g cap, e = .returned (.slice (some ⟨g, 0, none⟩) (30 + (m + 2) * 5) cap) ∧ w.heap.size ≤ g ∧ TextsAt w' g (viewL A m) ∧ Below w.heap.size w w'

theorem view_texts (F : Nat → Prop) (s : Nat) (A : AS) (m : Nat) (z : Int) (hz : z = m) (w : World) (h : Rep F w s A) (hm : m ≤ 900) :
    Calls Try.prog 11 #[ptrV s, .int .i64 z] w (ViewTexts w A m) := by
  subst hz
  refine (view_any F s A m w h hm).mono fun e w' h => ?_
  obtain ⟨val, rfl, hr, hb⟩ := h
  obtain ⟨g, cap, rfl, hg, ht⟩ := hr.texts (viewL_ne A m)
  rw [viewL_len]
  exact ⟨g, cap, rfl, hg, ht, hb⟩
end Go.Proofs.Ytgheokocdfgjpaa
