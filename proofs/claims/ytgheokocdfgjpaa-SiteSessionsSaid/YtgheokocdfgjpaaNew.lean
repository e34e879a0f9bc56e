/- The walk of New of package site. -/
import Derived.Test.YtgheokocdfgjpaaOpen
import Derived.Handy
namespace Go.Proofs.Ytgheokocdfgjpaa
open Go.RowKit Go.MapKept Go.ChangeMaps Go.Maps Go.WideMaps

def A0 : AS := { cur := fun _ _ => none, ses := [], opened := 0 }

theorem heap_alloc_eq (w : World) (o : Obj) (i : Nat) : (w.alloc o).heap[i]? = if i = w.heap.size then some o else w.heap[i]? := by
  show (w.heap.push o)[i]? = _
  rw [Array.getElem?_push]

def NewPost (w : World) (e : Ending) (w' : World) : Prop := ∃ s F, e = .returned (ptrV s) ∧ Rep F w' s A0 ∧ Below w.heap.size w w' ∧ ∀ i, F i → w.heap.size ≤ i

theorem MapIs.empty {K V : Type} {kf : K → Value} {vf : V → Value} {w : World} {b : Nat} (h : w.heap[b]? = some (.map #[] 0)) : MapIs (K := K) (V := V) w b kf vf [] :=
  ⟨#[], 0, h, stamped_empty 0, rfl⟩

theorem new_rep (n : Nat) (w' : World) (hz : w'.heap.size = n + 10) (hm : w'.heap[n]? = some (.map #[] 0))
    (ht : w'.heap[n + 1]? = some (.cells #[ptrV (n + 3), ptrV (n + 5), ptrV (n + 7), ptrV (n + 9), .map (some n), intV 0] 55 (0, 0)))
    (hs : ∀ k, k < 4 → w'.heap[n + 2 + 2 * k]? = some (.map #[] 0) ∧ w'.heap[n + 3 + 2 * k]? = some (.cells #[intV k, .map (some (n + 2 + 2 * k))] 58 (0, 0))) :
    Rep (fun i => n ≤ i ∧ i < n + 10) w' (n + 1) A0 := by
  refine ⟨⟨fun k => n + 3 + 2 * k, n, []⟩, ⟨by omega, by show n ≤ n ∧ n < n + 10; omega, fun i hi => by omega, ht, MapIs.empty hm, fun i hi => ?_, rfl, fun j p q hp => by simp at hp, fun p hp => by simp [A0] at hp, by simp [A0], by simp [A0]⟩⟩
  obtain ⟨h1, h2⟩ := hs i hi
  refine ⟨n + 2 + 2 * i, [], ⟨⟨?_, ?_⟩, ?_, ?_⟩, ⟨⟨?_, ?_⟩, ?_, ?_⟩, h2, ⟨MapIs.empty h1, by simp⟩, rfl⟩ <;> (try dsimp only) <;> omega

theorem new_heap (w : World) (o0 o1 o2 o3 o4 o5 o6 o7 o8 o9 : Obj) (w' : World) (hw : w' = (((((((((w.alloc o0).alloc o1).alloc o2).alloc o3).alloc o4).alloc o5).alloc o6).alloc o7).alloc o8).alloc o9) :
    w'.heap.size = w.heap.size + 10 ∧ w'.heap[w.heap.size]? = some o0 ∧ w'.heap[w.heap.size + 1]? = some o1 ∧ w'.heap[w.heap.size + 2]? = some o2 ∧ w'.heap[w.heap.size + 3]? = some o3 ∧ w'.heap[w.heap.size + 4]? = some o4 ∧
      w'.heap[w.heap.size + 5]? = some o5 ∧ w'.heap[w.heap.size + 6]? = some o6 ∧ w'.heap[w.heap.size + 7]? = some o7 ∧ w'.heap[w.heap.size + 8]? = some o8 ∧ w'.heap[w.heap.size + 9]? = some o9 ∧ Below w.heap.size w w' := by
  obtain ⟨w1, e1⟩ : ∃ x, x = w.alloc o0 := ⟨_, rfl⟩
  have z1 : w1.heap.size = w.heap.size + 1 := by rw [e1]; simp
  have n1 : w1.heap[w.heap.size + 0]? = some o0 := by rw [e1, heap_alloc_eq, if_pos (by omega)]
  have p1 : ∀ i, i < w.heap.size + 0 → w1.heap[i]? = w.heap[i]? := fun i hi => by rw [e1, heap_alloc_eq, if_neg (by omega)]
  obtain ⟨w2, e2⟩ : ∃ x, x = w1.alloc o1 := ⟨_, rfl⟩
  have z2 : w2.heap.size = w.heap.size + 2 := by rw [e2]; simp [z1]
  have n2 : w2.heap[w.heap.size + 1]? = some o1 := by rw [e2, heap_alloc_eq, if_pos (by omega)]
  have p2 : ∀ i, i < w.heap.size + 1 → w2.heap[i]? = w1.heap[i]? := fun i hi => by rw [e2, heap_alloc_eq, if_neg (by omega)]
  obtain ⟨w3, e3⟩ : ∃ x, x = w2.alloc o2 := ⟨_, rfl⟩
  have z3 : w3.heap.size = w.heap.size + 3 := by rw [e3]; simp [z2]
  have n3 : w3.heap[w.heap.size + 2]? = some o2 := by rw [e3, heap_alloc_eq, if_pos (by omega)]
  have p3 : ∀ i, i < w.heap.size + 2 → w3.heap[i]? = w2.heap[i]? := fun i hi => by rw [e3, heap_alloc_eq, if_neg (by omega)]
  obtain ⟨w4, e4⟩ : ∃ x, x = w3.alloc o3 := ⟨_, rfl⟩
  have z4 : w4.heap.size = w.heap.size + 4 := by rw [e4]; simp [z3]
  have n4 : w4.heap[w.heap.size + 3]? = some o3 := by rw [e4, heap_alloc_eq, if_pos (by omega)]
  have p4 : ∀ i, i < w.heap.size + 3 → w4.heap[i]? = w3.heap[i]? := fun i hi => by rw [e4, heap_alloc_eq, if_neg (by omega)]
  obtain ⟨w5, e5⟩ : ∃ x, x = w4.alloc o4 := ⟨_, rfl⟩
  have z5 : w5.heap.size = w.heap.size + 5 := by rw [e5]; simp [z4]
  have n5 : w5.heap[w.heap.size + 4]? = some o4 := by rw [e5, heap_alloc_eq, if_pos (by omega)]
  have p5 : ∀ i, i < w.heap.size + 4 → w5.heap[i]? = w4.heap[i]? := fun i hi => by rw [e5, heap_alloc_eq, if_neg (by omega)]
  obtain ⟨w6, e6⟩ : ∃ x, x = w5.alloc o5 := ⟨_, rfl⟩
  have z6 : w6.heap.size = w.heap.size + 6 := by rw [e6]; simp [z5]
  have n6 : w6.heap[w.heap.size + 5]? = some o5 := by rw [e6, heap_alloc_eq, if_pos (by omega)]
  have p6 : ∀ i, i < w.heap.size + 5 → w6.heap[i]? = w5.heap[i]? := fun i hi => by rw [e6, heap_alloc_eq, if_neg (by omega)]
  obtain ⟨w7, e7⟩ : ∃ x, x = w6.alloc o6 := ⟨_, rfl⟩
  have z7 : w7.heap.size = w.heap.size + 7 := by rw [e7]; simp [z6]
  have n7 : w7.heap[w.heap.size + 6]? = some o6 := by rw [e7, heap_alloc_eq, if_pos (by omega)]
  have p7 : ∀ i, i < w.heap.size + 6 → w7.heap[i]? = w6.heap[i]? := fun i hi => by rw [e7, heap_alloc_eq, if_neg (by omega)]
  obtain ⟨w8, e8⟩ : ∃ x, x = w7.alloc o7 := ⟨_, rfl⟩
  have z8 : w8.heap.size = w.heap.size + 8 := by rw [e8]; simp [z7]
  have n8 : w8.heap[w.heap.size + 7]? = some o7 := by rw [e8, heap_alloc_eq, if_pos (by omega)]
  have p8 : ∀ i, i < w.heap.size + 7 → w8.heap[i]? = w7.heap[i]? := fun i hi => by rw [e8, heap_alloc_eq, if_neg (by omega)]
  obtain ⟨w9, e9⟩ : ∃ x, x = w8.alloc o8 := ⟨_, rfl⟩
  have z9 : w9.heap.size = w.heap.size + 9 := by rw [e9]; simp [z8]
  have n9 : w9.heap[w.heap.size + 8]? = some o8 := by rw [e9, heap_alloc_eq, if_pos (by omega)]
  have p9 : ∀ i, i < w.heap.size + 8 → w9.heap[i]? = w8.heap[i]? := fun i hi => by rw [e9, heap_alloc_eq, if_neg (by omega)]
  obtain ⟨w10, e10⟩ : ∃ x, x = w9.alloc o9 := ⟨_, rfl⟩
  have z10 : w10.heap.size = w.heap.size + 10 := by rw [e10]; simp [z9]
  have n10 : w10.heap[w.heap.size + 9]? = some o9 := by rw [e10, heap_alloc_eq, if_pos (by omega)]
  have p10 : ∀ i, i < w.heap.size + 9 → w10.heap[i]? = w9.heap[i]? := fun i hi => by rw [e10, heap_alloc_eq, if_neg (by omega)]
  rw [← e1, ← e2, ← e3, ← e4, ← e5, ← e6, ← e7, ← e8, ← e9, ← e10] at hw
  subst hw
  refine ⟨z10, (p10 _ (by omega)).trans ((p9 _ (by omega)).trans ((p8 _ (by omega)).trans ((p7 _ (by omega)).trans ((p6 _ (by omega)).trans ((p5 _ (by omega)).trans ((p4 _ (by omega)).trans ((p3 _ (by omega)).trans ((p2 _ (by omega)).trans (n1))))))))), (p10 _ (by omega)).trans ((p9 _ (by omega)).trans ((p8 _ (by omega)).trans ((p7 _ (by omega)).trans ((p6 _ (by omega)).trans ((p5 _ (by omega)).trans ((p4 _ (by omega)).trans ((p3 _ (by omega)).trans (n2)))))))), (p10 _ (by omega)).trans ((p9 _ (by omega)).trans ((p8 _ (by omega)).trans ((p7 _ (by omega)).trans ((p6 _ (by omega)).trans ((p5 _ (by omega)).trans ((p4 _ (by omega)).trans (n3))))))), (p10 _ (by omega)).trans ((p9 _ (by omega)).trans ((p8 _ (by omega)).trans ((p7 _ (by omega)).trans ((p6 _ (by omega)).trans ((p5 _ (by omega)).trans (n4)))))), (p10 _ (by omega)).trans ((p9 _ (by omega)).trans ((p8 _ (by omega)).trans ((p7 _ (by omega)).trans ((p6 _ (by omega)).trans (n5))))), (p10 _ (by omega)).trans ((p9 _ (by omega)).trans ((p8 _ (by omega)).trans ((p7 _ (by omega)).trans (n6)))), (p10 _ (by omega)).trans ((p9 _ (by omega)).trans ((p8 _ (by omega)).trans (n7))), (p10 _ (by omega)).trans ((p9 _ (by omega)).trans (n8)), (p10 _ (by omega)).trans (n9), n10, ?_⟩
  rw [e10, e9, e8, e7, e6, e5, e4, e3, e2, e1]
  go_grown

theorem new_post (w w' : World) (v : Value) (hv : v = .pointer (some ⟨w.heap.size + 1, 0, none⟩))
    (hw : w' = (((((((((w.alloc (.map #[] 0)).alloc (.cells #[.pointer (some ⟨w.heap.size + 3, 0, none⟩), .pointer (some ⟨w.heap.size + 5, 0, none⟩), .pointer (some ⟨w.heap.size + 7, 0, none⟩), .pointer (some ⟨w.heap.size + 9, 0, none⟩), .map (some w.heap.size), .int .i64 0] 55)).alloc
      (.map #[] 0)).alloc (.cells #[.int .i64 0, .map (some (w.heap.size + 2))] 58)).alloc (.map #[] 0)).alloc (.cells #[.int .i64 1, .map (some (w.heap.size + 4))] 58)).alloc
      (.map #[] 0)).alloc (.cells #[.int .i64 2, .map (some (w.heap.size + 6))] 58)).alloc (.map #[] 0)).alloc (.cells #[.int .i64 3, .map (some (w.heap.size + 8))] 58)) : NewPost w (.returned v) w' := by
  obtain ⟨h, h0, h1, h2, h3, h4, h5, h6, h7, h8, h9, hb⟩ := new_heap w _ _ _ _ _ _ _ _ _ _ w' hw
  refine ⟨w.heap.size + 1, fun i => w.heap.size ≤ i ∧ i < w.heap.size + 10, by rw [hv]; rfl, new_rep w.heap.size _ h h0 h1 ?_, hb, fun i hi => hi.1⟩
  intro k hk
  match k, hk with
  | 0, _ => exact ⟨h2, h3⟩
  | 1, _ => exact ⟨h4, h5⟩
  | 2, _ => exact ⟨h6, h7⟩
  | 3, _ => exact ⟨h8, h9⟩

set_option maxHeartbeats 1000000 in
theorem new_any (w : World) : Calls Try.prog 8 #[] w (NewPost w) := by
  have hmm := @run_makeMap Try.prog
  go_enter Try.func8, Try.ntmps8
  go_wp2
  go_rounds 5
  go_ret
  exact new_post w _ _ rfl rfl
end Go.Proofs.Ytgheokocdfgjpaa
