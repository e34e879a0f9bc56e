/- The walk of perform of the statements' package. -/
import Derived.Test.YtgheokocdfgjpaaPages
import Derived.Deep.RegionHeld3
namespace Go.Proofs.Ytgheokocdfgjpaa
open Go.RowKit Go.MapKept Go.ChangeMaps Go.Maps Go.WideMaps

structure OpI where
  kind : Int
  cls : Int
  n : Int

def OpI.ok (o : OpI) : Prop := (-9223372036854775808 ≤ o.kind ∧ o.kind ≤ 9223372036854775807) ∧ (-9223372036854775808 ≤ o.cls ∧ o.cls ≤ 9223372036854775807) ∧ (-9223372036854775808 ≤ o.n ∧ o.n ≤ 9223372036854775807)

def OpI.k (o : OpI) : Int := pickI o.kind 4

def perfR (A : AS) (o : OpI) (v opened : Int) : Int × Int :=
  if o.k = 0 ∨ o.k = 1 then (0, pubR (classI o.cls) (pagesL o.n v))
  else if o.k = 2 then openR A (classI o.cls) else (0, closeR A (pickI o.n (opened + 2)))
def perfA (A : AS) (o : OpI) (v opened : Int) : AS :=
  if o.k = 0 then pubA A (classI o.cls) (pagesL o.n v) false
  else if o.k = 1 then pubA A (classI o.cls) (pagesL o.n v) true
  else if o.k = 2 then openA A (classI o.cls) else closeA A (pickI o.n (opened + 2))

def PerfPost (F : Nat → Prop) (w : World) (s : Nat) (A : AS) (o : OpI) (v opened : Int) (e : Ending) (w' : World) : Prop :=
  e = .returned (.tuple #[.int .i64 (perfR A o v opened).1, .int .i64 (perfR A o v opened).2]) ∧ After F w s (perfA A o v opened) w'

theorem After.from {F : Nat → Prop} {w w1 w2 : World} {s : Nat} {A : AS} (hb : Below w.heap.size w w1) (h : After F w1 s A w2) : After F w s A w2 := by
  obtain ⟨F', h1, h2, h3⟩ := h
  exact ⟨F', h1, (Only.of_below hb F).trans h2 (fun _ _ x => x), fun i hi hx => h3 i (Nat.lt_of_lt_of_le hi hb.size) hx⟩

theorem After.cell {F : Nat → Prop} {w w' : World} {s : Nat} {A : AS} (h : After F w s A w') {p : Addr} (hp : p.block < w.heap.size) (hF : ¬ F p.block) : w'.cell? p = w.cell? p := by
  obtain ⟨_, _, h2, _⟩ := h
  exact h2.cell hp hF

theorem Rep.boxed {F : Nat → Prop} {w wp : World} {s n : Nat} {A : AS} {o : Obj} (h : Rep F w s A) (hbp : Below n (w.alloc o).drew wp) (hn : w.heap.size ≤ n) : Rep F wp s A :=
  h.below ((((Below.refl _ _).alloc (Nat.le_refl _) o).drew).trans (hbp.mono hn))
theorem Rep.boxedB {w wp : World} {n : Nat} {o : Obj} (hbp : Below n (w.alloc o).drew wp) (hn : w.heap.size ≤ n) : Below w.heap.size w wp :=
  (((Below.refl _ _).alloc (Nat.le_refl _) o).drew).trans (hbp.mono hn)

def boxOf (o : OpI) : Obj := .cells #[.int .i64 o.kind, .int .i64 o.cls, .int .i64 o.n] 35

set_option maxRecDepth 100000 in
set_option maxHeartbeats 2000000 in
theorem perf0 (F : Nat → Prop) (s : Nat) (A : AS) (o : OpI) (v opened : Int) (w : World) (h : Rep F w s A) (ho : o.ok) (hv : 0 ≤ v) (hv1 : v ≤ 1000) (hk : o.k = 0) :
    Calls Try.prog 12 #[ptrV s, .agg #[.int .i64 o.kind, .int .i64 o.cls, .int .i64 o.n], .int .i64 v, .int .i64 opened] w (PerfPost F w s A o v opened) := by
  obtain ⟨⟨k0, k1⟩, ⟨c0, c1⟩, ⟨n0, n1⟩⟩ := ho
  have hb : (pickI o.kind 4 == 0) = true := by simpa [OpI.k] using hk
  have hR : Hid (perfR A o v opened = (0, pubR (classI o.cls) (pagesL o.n v))) := by show perfR A o v opened = _; simp [perfR, hk]
  have hA : Hid (perfA A o v opened = pubA A (classI o.cls) (pagesL o.n v) false) := by show perfA A o v opened = _; simp [perfA, hk]
  have hlt := Lib.hid h.lt
  have hrep := Lib.hid h
  clear h hk
  unfold ptrV
  go_enter Try.func12, Try.ntmps12
  go_wp2_with (go_at_call 13; refine (pick_any _ 4 _ k0 k1 (by omega)).mono ?_; rintro e w' ⟨rfl, rfl⟩)
  go_region_held3 (fun w' => w'.cell? ⟨w.heap.size, 1, none⟩ = some (.int .i64 o.cls) ∧ w'.cell? ⟨w.heap.size, 2, none⟩ = some (.int .i64 o.n)) (first
      | go_keep
      | (go_split_ands
         refine ⟨?_, ?_⟩
         · (rw [hbp.cell (by simp)]; assumption)
         · (rw [hbp.cell (by simp)]; assumption))
      | (go_split_ands
         refine ⟨?_, ?_⟩
         · (rw [hq.cell (by have := hbp.size; simp at this ⊢; omega) (fun hf => by have := hlt.out _ hf; simp at this)]; assumption)
         · (rw [hq.cell (by have := hbp.size; simp at this ⊢; omega) (fun hf => by have := hlt.out _ hf; simp at this)]; assumption)))
    (first
      | (go_at_call 14; refine (class_any _ _ c0 c1).mono ?_; rintro e w' ⟨rfl, rfl⟩)
      | (go_at_call 19; refine (pages_any _ _ _ n0 n1 hv hv1).mono ?_; rintro e wp ⟨val, rfl, hpa, hbp⟩)
      | (go_at_call 18; refine (pub_pages F s _ A _ (pagesL o.n v) false _ (hrep.out.boxed hbp (by simp)) hpa).mono ?_; rintro e wq ⟨rfl, hq⟩))
  have hfin := Lib.hid (hq.from (Rep.boxedB hbp (by simp)))
  clear hq hbp hpa
  go_wp2
  go_ret2
  exact ⟨by rw [hR.out]; rfl, by rw [hA.out]; exact hfin.out⟩
set_option maxRecDepth 100000 in
set_option maxHeartbeats 2000000 in
theorem perf1 (F : Nat → Prop) (s : Nat) (A : AS) (o : OpI) (v opened : Int) (w : World) (h : Rep F w s A) (ho : o.ok) (hv : 0 ≤ v) (hv1 : v ≤ 1000) (hk : o.k = 1) :
    Calls Try.prog 12 #[ptrV s, .agg #[.int .i64 o.kind, .int .i64 o.cls, .int .i64 o.n], .int .i64 v, .int .i64 opened] w (PerfPost F w s A o v opened) := by
  obtain ⟨⟨k0, k1⟩, ⟨c0, c1⟩, ⟨n0, n1⟩⟩ := ho
  have hb : (pickI o.kind 4 == 0) = false := by rw [show pickI o.kind 4 = 1 from hk]; rfl
  have hb2 : (pickI o.kind 4 == 1) = true := by rw [show pickI o.kind 4 = 1 from hk]; rfl
  have hR : Hid (perfR A o v opened = (0, pubR (classI o.cls) (pagesL o.n v))) := by show perfR A o v opened = _; simp [perfR, hk]
  have hA : Hid (perfA A o v opened = pubA A (classI o.cls) (pagesL o.n v) true) := by show perfA A o v opened = _; simp [perfA, hk]
  have hlt := Lib.hid h.lt
  have hrep := Lib.hid h
  clear h hk
  unfold ptrV
  go_enter Try.func12, Try.ntmps12
  go_wp2_with (go_at_call 13; refine (pick_any _ 4 _ k0 k1 (by omega)).mono ?_; rintro e w' ⟨rfl, rfl⟩)
  go_region_held3 (fun w' => w'.cell? ⟨w.heap.size, 1, none⟩ = some (.int .i64 o.cls) ∧ w'.cell? ⟨w.heap.size, 2, none⟩ = some (.int .i64 o.n)) (first
      | go_keep
      | (go_split_ands
         refine ⟨?_, ?_⟩
         · (rw [hbp.cell (by simp)]; assumption)
         · (rw [hbp.cell (by simp)]; assumption))
      | (go_split_ands
         refine ⟨?_, ?_⟩
         · (rw [hq.cell (by have := hbp.size; simp at this ⊢; omega) (fun hf => by have := hlt.out _ hf; simp at this)]; assumption)
         · (rw [hq.cell (by have := hbp.size; simp at this ⊢; omega) (fun hf => by have := hlt.out _ hf; simp at this)]; assumption)))
    (first
      | (go_at_call 14; refine (class_any _ _ c0 c1).mono ?_; rintro e w' ⟨rfl, rfl⟩)
      | (go_at_call 19; refine (pages_any _ _ _ n0 n1 hv hv1).mono ?_; rintro e wp ⟨val, rfl, hpa, hbp⟩)
      | (go_at_call 18; refine (pub_pages F s _ A _ (pagesL o.n v) true _ (hrep.out.boxed hbp (by simp)) hpa).mono ?_; rintro e wq ⟨rfl, hq⟩))
  have hfin := Lib.hid (hq.from (Rep.boxedB hbp (by simp)))
  clear hq hbp hpa
  go_wp2
  go_ret2
  exact ⟨by rw [hR.out]; rfl, by rw [hA.out]; exact hfin.out⟩
set_option maxHeartbeats 1000000 in
theorem perf2 (F : Nat → Prop) (s : Nat) (A : AS) (o : OpI) (v opened : Int) (w : World) (h : Rep F w s A) (ho : o.ok) (hop : A.opened ≤ 900) (hk : o.k = 2) :
    Calls Try.prog 12 #[ptrV s, .agg #[.int .i64 o.kind, .int .i64 o.cls, .int .i64 o.n], .int .i64 v, .int .i64 opened] w (PerfPost F w s A o v opened) := by
  obtain ⟨⟨k0, k1⟩, ⟨c0, c1⟩, ⟨n0, n1⟩⟩ := ho
  have hb : (pickI o.kind 4 == 0) = false := by rw [show pickI o.kind 4 = 2 from hk]; rfl
  have hb2 : (pickI o.kind 4 == 1) = false := by rw [show pickI o.kind 4 = 2 from hk]; rfl
  have hb3 : (pickI o.kind 4 == 2) = true := by rw [show pickI o.kind 4 = 2 from hk]; rfl
  have hR : Hid (perfR A o v opened = openR A (classI o.cls)) := by show perfR A o v opened = _; simp [perfR, hk]
  have hA : Hid (perfA A o v opened = openA A (classI o.cls)) := by show perfA A o v opened = _; simp [perfA, hk]
  have hbx : Below w.heap.size w (w.alloc (.cells #[.int .i64 o.kind, .int .i64 o.cls, .int .i64 o.n] 35)) := (Below.refl _ _).alloc (Nat.le_refl _) _
  have hc := Lib.hid (open_any F s A (classI o.cls) _ (h.below hbx) hop)
  have Hbx := Lib.hid hbx
  clear h hk hbx
  unfold ptrV at hc ⊢
  go_enter Try.func12, Try.ntmps12
  go_wp2_with (first
    | (go_at_call 13; refine (pick_any _ 4 _ k0 k1 (by omega)).mono ?_; rintro e w' ⟨rfl, rfl⟩)
    | (go_at_call 14; refine (class_any _ _ c0 c1).mono ?_; rintro e w' ⟨rfl, rfl⟩)
    | (go_at_call 22; refine hc.out.mono ?_; rintro e wq ⟨rfl, hq⟩))
  have hfin := Lib.hid (hq.from Hbx.out)
  clear hq
  go_wp2
  go_ret2
  exact ⟨by rw [hR.out]; rfl, by rw [hA.out]; exact hfin.out⟩

theorem pickI4 (c : Int) (h0 : pickI c 4 ≠ 0) (h1 : pickI c 4 ≠ 1) (h2 : pickI c 4 ≠ 2) : pickI c 4 = 3 := by
  have := pickI_bd c 4 (by omega)
  omega

set_option maxHeartbeats 1000000 in
theorem perf3 (F : Nat → Prop) (s : Nat) (A : AS) (o : OpI) (v opened : Int) (w : World) (h : Rep F w s A) (ho : o.ok) (hop0 : 0 ≤ opened) (hop : opened ≤ 900) (hk : o.k = 3) :
    Calls Try.prog 12 #[ptrV s, .agg #[.int .i64 o.kind, .int .i64 o.cls, .int .i64 o.n], .int .i64 v, .int .i64 opened] w (PerfPost F w s A o v opened) := by
  obtain ⟨⟨k0, k1⟩, ⟨c0, c1⟩, ⟨n0, n1⟩⟩ := ho
  have hb : (pickI o.kind 4 == 0) = false := by rw [show pickI o.kind 4 = 3 from hk]; rfl
  have hb2 : (pickI o.kind 4 == 1) = false := by rw [show pickI o.kind 4 = 3 from hk]; rfl
  have hb3 : (pickI o.kind 4 == 2) = false := by rw [show pickI o.kind 4 = 3 from hk]; rfl
  have hR : Hid (perfR A o v opened = (0, closeR A (pickI o.n (opened + 2)))) := by show perfR A o v opened = _; simp [perfR, hk]
  have hA : Hid (perfA A o v opened = closeA A (pickI o.n (opened + 2))) := by show perfA A o v opened = _; simp [perfA, hk]
  have hbx : Below w.heap.size w (w.alloc (.cells #[.int .i64 o.kind, .int .i64 o.cls, .int .i64 o.n] 35)) := (Below.refl _ _).alloc (Nat.le_refl _) _
  have hbd := pickI_bd o.n (opened + 2) (by omega)
  have hc := Lib.hid (close_any F s A (pickI o.n (opened + 2)) _ (h.below hbx) (by omega) (by omega))
  have Hbx := Lib.hid hbx
  clear h hk hbx hbd
  unfold ptrV at hc ⊢
  go_enter Try.func12, Try.ntmps12
  go_wp2_with (first
    | (go_at_call 13; refine (pick_any _ 4 _ k0 k1 (by omega)).mono ?_; rintro e w' ⟨rfl, rfl⟩)
    | (go_at_call 17; refine (session_any _ _ _ n0 n1 hop0 (by omega)).mono ?_; rintro e w' ⟨rfl, rfl⟩)
    | (go_at_call 23; refine hc.out.mono ?_; rintro e wq ⟨rfl, hq⟩))
  have hfin := Lib.hid (hq.from Hbx.out)
  clear hq
  go_wp2
  go_ret2
  exact ⟨by rw [hR.out]; rfl, by rw [hA.out]; exact hfin.out⟩

theorem perform_any (F : Nat → Prop) (s : Nat) (A : AS) (o : OpI) (v opened : Int) (w : World) (h : Rep F w s A) (ho : o.ok) (hv : 0 ≤ v) (hv1 : v ≤ 1000) (hA : A.opened ≤ 900) (hop0 : 0 ≤ opened) (hop : opened ≤ 900) :
    Calls Try.prog 12 #[ptrV s, .agg #[.int .i64 o.kind, .int .i64 o.cls, .int .i64 o.n], .int .i64 v, .int .i64 opened] w (PerfPost F w s A o v opened) := by
  by_cases h0 : o.k = 0
  · exact perf0 F s A o v opened w h ho hv hv1 h0
  by_cases h1 : o.k = 1
  · exact perf1 F s A o v opened w h ho hv hv1 h1
  by_cases h2 : o.k = 2
  · exact perf2 F s A o v opened w h ho hA h2
  exact perf3 F s A o v opened w h ho hop0 hop (pickI4 _ h0 h1 h2)

end Go.Proofs.Ytgheokocdfgjpaa
