/- The walk of sane of the statements' package. -/
import Derived.Test.YtgheokocdfgjpaaView
import Derived.KernelRfl
namespace Go.Proofs.Ytgheokocdfgjpaa
open Go.RowKit Go.MapKept Go.ChangeMaps Go.Maps Go.WideMaps

def sa : BA := ⟨#[97]⟩
def sb : BA := ⟨#[98]⟩
def sx : BA := ⟨#[120]⟩
def sy : BA := ⟨#[121]⟩
def sz : BA := ⟨#[122]⟩
def sw : BA := ⟨#[119]⟩
def L1 : List (BA × BA) := [(sa, sx), (sb, sy)]
def L2 : List (BA × BA) := [(sa, sz)]
def L3 : List (BA × BA) := [(sa, sw)]
def A1 : AS := pubA A0 1 L1 false
def A2 : AS := openA A1 1
def A3 : AS := pubA A2 1 L2 false
def A4 : AS := pubA A3 1 L3 true

theorem s_pub1 : pubR 1 L1 = 0 := by kernel_rfl
theorem s_pub2 : pubR 1 L2 = 0 := by kernel_rfl
theorem s_pub3 : pubR 1 L3 = 0 := by kernel_rfl
theorem s_open : openR A1 1 = (1, 0) := by kernel_rfl
theorem s_get1 : getA A3 1 sa = (sz, 0) := by kernel_rfl
theorem s_read1 : readA A3 1 sb = (sy, 0) := by kernel_rfl
theorem s_get2 : getA A3 1 sb = (emptyB, 251) := by kernel_rfl
theorem s_get3 : getA A3 4 sa = (emptyB, 250) := by kernel_rfl
theorem s_len : A3.ses.length = 1 := by kernel_rfl
theorem s_read2 : readA A4 1 sa = (sw, 0) := by kernel_rfl
theorem s_read3 : readA A4 1 sb = (emptyB, 251) := by kernel_rfl
theorem s_op1 : A1.opened ≤ 900 := by decide +kernel

theorem s_count {w w' : World} {e : Ending} (h : CountPost w A3 e w') : e = .returned (.int .i64 5) ∧ Below w.heap.size w w' := by
  obtain ⟨n, he, h1, h2, h3, h4⟩ := h
  have hl := s_len
  have hses : A3.ses = [(1, 1, asc (mkm L1))] := by kernel_rfl
  have h5 : 5 ≤ n := h3 (1, 1, asc (mkm L1)) (by rw [hses]; simp) (fun i hi ⟨e1, e2⟩ => by
    have hi1 : i = 1 := by
      have : (1 : Int) = (i : Int) := e1
      omega
    subst hi1
    have e3 := congrFun e2 sb
    have k1 : (asc (mkm L1)) sb = some sy := by kernel_rfl
    have k2 : A3.cur 1 sb = none := by kernel_rfl
    have e4 : (asc (mkm L1)) sb = A3.cur 1 sb := e3
    rw [k1, k2] at e4
    cases e4)
  have : n = 5 := by omega
  subst this
  exact ⟨he, h4⟩

/-! ### Calls of a nil Site -/
theorem nil_get (w : World) (c : Int) (a : BA) : Calls Try.prog 16 #[.pointer none, .int .i64 c, .string a] w fun e w' => e = .returned (.tuple #[.string emptyB, .int .i64 1]) ∧ w = w' := by
  go_enter Try.func16, Try.ntmps16
  go_wp2
  go_ret2
  exact ⟨rfl, rfl⟩
theorem nil_read (w : World) (c : Int) (a : BA) : Calls Try.prog 15 #[.pointer none, .int .i64 c, .string a] w fun e w' => e = .returned (.tuple #[.string emptyB, .int .i64 1]) ∧ w = w' := by
  go_enter Try.func15, Try.ntmps15
  go_wp2
  go_ret2
  exact ⟨rfl, rfl⟩
theorem nil_open (w : World) (c : Int) : Calls Try.prog 22 #[.pointer none, .int .i64 c] w fun e w' => e = .returned (.tuple #[.int .i64 0, .int .i64 1]) ∧ w = w' := by
  go_enter Try.func22, Try.ntmps22
  go_wp2
  go_ret2
  exact ⟨rfl, rfl⟩
theorem nil_pub (w : World) (c : Int) (v : Value) (b : Bool) : Calls Try.prog 18 #[.pointer none, .int .i64 c, v, .bool b] w fun e w' => e = .returned (.int .i64 1) ∧ w = w' := by
  go_enter Try.func18, Try.ntmps18
  go_wp2
  go_ret
  exact ⟨rfl, rfl⟩
theorem nil_close (w : World) (c : Int) : Calls Try.prog 23 #[.pointer none, .int .i64 c] w fun e w' => e = .returned (.int .i64 1) ∧ w = w' := by
  go_enter Try.func23, Try.ntmps23
  go_wp2
  go_ret
  exact ⟨rfl, rfl⟩
theorem nil_sessions (w : World) : Calls Try.prog 20 #[.pointer none] w fun e w' => e = .returned (.int .i64 0) ∧ w = w' := by
  go_enter Try.func20, Try.ntmps20
  go_wp2
  go_ret
  exact ⟨rfl, rfl⟩
theorem nil_count (w : World) : Calls Try.prog 21 #[.pointer none] w fun e w' => e = .returned (.int .i64 0) ∧ w = w' := by
  go_enter Try.func21, Try.ntmps21
  go_wp2
  go_ret
  exact ⟨rfl, rfl⟩

/-! ### A Site all of whose blocks are new since block B -/
def Fresh (B : Nat) (s : Nat) (A : AS) (w : World) : Prop := B ≤ w.heap.size ∧ ∃ F, Rep F w s A ∧ ∀ i, F i → B ≤ i

theorem Fresh.below {B s : Nat} {A : AS} {w w' : World} (h : Fresh B s A w) (hb : Below w.heap.size w w') : Fresh B s A w' := by
  obtain ⟨h0, F, h1, h2⟩ := h
  exact ⟨Nat.le_trans h0 hb.size, F, h1.below hb, h2⟩

theorem After.fresh {F : Nat → Prop} {B s : Nat} {A : AS} {w w' : World} (h : After F w s A w') (hB : B ≤ w.heap.size) (hF : ∀ i, F i → B ≤ i) : Fresh B s A w' ∧ Below B w w' := by
  obtain ⟨F', h1, h2, h3⟩ := h
  refine ⟨⟨Nat.le_trans hB h2.size, F', h1, fun i hi => ?_⟩, h2.os, h2.tape, h2.output, h2.size, fun i hi => h2.block i (by omega) (fun hf => by have := hF i hf; omega)⟩
  by_cases e : i < w.heap.size
  · exact hF i (h3 i e hi)
  · omega

theorem pub_fresh {B s : Nat} {A : AS} {w : World} {c : Int} {L : List (BA × BA)} {pg : Bool} {v : Value} {r : Int} (h : Fresh B s A w) (hv : PagesAt w v L) (hr : pubR c L = r) :
    Calls Try.prog 18 #[ptrV s, .int .i64 c, v, .bool pg] w fun e w' => e = .returned (.int .i64 r) ∧ Fresh B s (pubA A c L pg) w' ∧ Below B w w' := by
  obtain ⟨h0, F, h1, h2⟩ := h
  refine (pub_pages F s v A c L pg w h1 hv).mono ?_
  rintro e w' ⟨he, hA⟩
  rw [hr] at he
  exact ⟨he, hA.fresh h0 h2⟩

theorem open_fresh {B s : Nat} {A : AS} {w : World} {c : Int} {n r : Int} (h : Fresh B s A w) (ho : A.opened ≤ 900) (hr : openR A c = (n, r)) :
    Calls Try.prog 22 #[ptrV s, .int .i64 c] w fun e w' => e = .returned (.tuple #[.int .i64 n, .int .i64 r]) ∧ Fresh B s (openA A c) w' ∧ Below B w w' := by
  obtain ⟨h0, F, h1, h2⟩ := h
  refine (open_any F s A c w h1 ho).mono ?_
  rintro e w' ⟨he, hA⟩
  rw [hr] at he
  exact ⟨he, hA.fresh h0 h2⟩

theorem get_fresh {B s : Nat} {A : AS} {w : World} {c : Int} {a t : BA} {r : Int} (h : Fresh B s A w) (ha : a.size ≤ 1000) (hr : getA A c a = (t, r)) :
    Calls Try.prog 16 #[ptrV s, .int .i64 c, .string a] w fun e w' => e = .returned (.tuple #[.string t, .int .i64 r]) ∧ w = w' := by
  obtain ⟨h0, F, h1, h2⟩ := h
  have := getA_any F s A c a w h1 ha
  rw [hr] at this
  exact this

theorem read_fresh {B s : Nat} {A : AS} {w : World} {n : Int} {a t : BA} {r : Int} (h : Fresh B s A w) (h0 : -9223372036854775808 ≤ n) (h1 : n ≤ 9223372036854775807) (ha : a.size ≤ 1000) (hr : readA A n a = (t, r)) :
    Calls Try.prog 15 #[ptrV s, .int .i64 n, .string a] w fun e w' => e = .returned (.tuple #[.string t, .int .i64 r]) ∧ w = w' := by
  obtain ⟨_, F, h3, h2⟩ := h
  have := read_any F s A n a w h3 h0 h1 ha
  rw [hr] at this
  exact this

theorem pages_lit1 (w : World) (a x : BA) (ha : a.size ≤ 1000) (hx : x.size ≤ 1000) : PagesAt (w.alloc (.cells #[.string a, .string x, .slice none 0 0] 47)) (.slice (some ⟨w.heap.size, 0, none⟩) 1 1) [(a, x)] := by
  refine ⟨by simp [ha, hx], by simp, .inr ⟨w.heap.size, 1, rfl, by simp, fun i p hp => ?_⟩⟩
  match i with
  | 0 =>
    simp only [List.getElem?_cons_zero, Option.some.injEq] at hp
    subst hp
    exact ⟨by simp, by simp, none, 0, 0, by simp⟩
  | i + 1 => simp at hp

theorem pages_lit2 (w : World) (a x b y : BA) (ha : a.size ≤ 1000) (hx : x.size ≤ 1000) (hb : b.size ≤ 1000) (hy : y.size ≤ 1000) :
    PagesAt (w.alloc (.cells #[.string a, .string x, .slice none 0 0, .string b, .string y, .slice none 0 0] 47)) (.slice (some ⟨w.heap.size, 0, none⟩) 2 2) [(a, x), (b, y)] := by
  refine ⟨by simp [ha, hx, hb, hy], by simp, .inr ⟨w.heap.size, 2, rfl, by simp, fun i p hp => ?_⟩⟩
  match i with
  | 0 =>
    simp only [List.getElem?_cons_zero, Option.some.injEq] at hp
    subst hp
    exact ⟨by simp, by simp, none, 0, 0, by simp⟩
  | 1 =>
    simp only [List.getElem?_cons_succ, List.getElem?_cons_zero, Option.some.injEq] at hp
    subst hp
    exact ⟨by simp, by simp, none, 0, 0, by simp⟩
  | i + 2 => simp at hp

theorem pub1 {B s : Nat} {w : World} (h : Fresh B s A0 w) : Calls Try.prog 18 #[.pointer (some ⟨s, 0, none⟩), .int .i64 1, .slice (some ⟨w.heap.size, 0, none⟩) 2 2, .bool false]
    (w.alloc (.cells #[.string ⟨#[97]⟩, .string ⟨#[120]⟩, .slice none 0 0, .string ⟨#[98]⟩, .string ⟨#[121]⟩, .slice none 0 0] 47)) fun e w' => e = .returned (.int .i64 0) ∧ Fresh B s A1 w' ∧ Below B (w.alloc (.cells #[.string ⟨#[97]⟩, .string ⟨#[120]⟩, .slice none 0 0, .string ⟨#[98]⟩, .string ⟨#[121]⟩, .slice none 0 0] 47)) w' :=
  pub_fresh (h.below ((Below.refl _ _).alloc (Nat.le_refl _) _)) (pages_lit2 w sa sx sb sy (by decide) (by decide) (by decide) (by decide)) s_pub1
theorem pub2 {B s : Nat} {w : World} (h : Fresh B s A2 w) : Calls Try.prog 18 #[.pointer (some ⟨s, 0, none⟩), .int .i64 1, .slice (some ⟨w.heap.size, 0, none⟩) 1 1, .bool false]
    (w.alloc (.cells #[.string ⟨#[97]⟩, .string ⟨#[122]⟩, .slice none 0 0] 47)) fun e w' => e = .returned (.int .i64 0) ∧ Fresh B s A3 w' ∧ Below B (w.alloc (.cells #[.string ⟨#[97]⟩, .string ⟨#[122]⟩, .slice none 0 0] 47)) w' :=
  pub_fresh (h.below ((Below.refl _ _).alloc (Nat.le_refl _) _)) (pages_lit1 w sa sz (by decide) (by decide)) s_pub2
theorem pub3 {B s : Nat} {w : World} (h : Fresh B s A3 w) : Calls Try.prog 18 #[.pointer (some ⟨s, 0, none⟩), .int .i64 1, .slice (some ⟨w.heap.size, 0, none⟩) 1 1, .bool true]
    (w.alloc (.cells #[.string ⟨#[97]⟩, .string ⟨#[119]⟩, .slice none 0 0] 47)) fun e w' => e = .returned (.int .i64 0) ∧ Fresh B s A4 w' ∧ Below B (w.alloc (.cells #[.string ⟨#[97]⟩, .string ⟨#[119]⟩, .slice none 0 0] 47)) w' :=
  pub_fresh (h.below ((Below.refl _ _).alloc (Nat.le_refl _) _)) (pages_lit1 w sa sw (by decide) (by decide)) s_pub3
theorem open1 {B s : Nat} {w : World} (h : Fresh B s A1 w) : Calls Try.prog 22 #[.pointer (some ⟨s, 0, none⟩), .int .i64 1] w fun e w' => e = .returned (.tuple #[.int .i64 1, .int .i64 0]) ∧ Fresh B s A2 w' ∧ Below B w w' := open_fresh h s_op1 s_open
theorem count1 {B s : Nat} {w : World} (h : Fresh B s A3 w) : Calls Try.prog 21 #[.pointer (some ⟨s, 0, none⟩)] w fun e w' => e = .returned (.int .i64 5) ∧ Fresh B s A3 w' ∧ Below B w w' := by
  obtain ⟨h0, F, h1, h2⟩ := h
  refine (count_any F s A3 w h1).mono ?_
  intro e w' hc
  obtain ⟨he, hb⟩ := s_count hc
  exact ⟨he, ⟨Nat.le_trans h0 hb.size, F, h1.below hb, h2⟩, hb.mono h0⟩
theorem sessions1 {B s : Nat} {w : World} (h : Fresh B s A3 w) : Calls Try.prog 20 #[.pointer (some ⟨s, 0, none⟩)] w fun e w' => e = .returned (.int .i64 1) ∧ w = w' := by
  obtain ⟨h0, F, h1, h2⟩ := h
  have := sessions_any F s A3 w h1
  rw [s_len] at this
  exact this

def SanePost (w : World) (e : Ending) (w' : World) : Prop := e = .returned (.bool true) ∧ Below w.heap.size w w'

set_option maxRecDepth 100000 in
set_option maxHeartbeats 4000000 in
theorem sane_any (w : World) : Calls Try.prog 7 #[] w (SanePost w) := by
  go_enter Try.func7, Try.ntmps7
  go_wp2_with fail
  refine (new_any w).mono ?_
  rintro e w1 ⟨s, F, rfl, hr, hb1, hF⟩
  have f1 := Lib.hid (show Fresh w.heap.size s A0 w1 from ⟨hb1.size, F, hr, hF⟩)
  have b1 := Lib.hid hb1
  clear hr hb1 hF
  unfold ptrV
  go_wp2_with fail
  refine (pub1 f1.out).mono ?_
  rintro e w2 ⟨rfl, f2, b2⟩
  have f2 := Lib.hid f2
  have b2 := Lib.hid (b1.out.trans (((Below.refl _ _).alloc b1.out.size _).trans b2))
  clear f1 b1
  go_wp2_with fail
  refine (open1 f2.out).mono ?_
  rintro e w3 ⟨rfl, f3, b3⟩
  have f3 := Lib.hid f3
  have b3 := Lib.hid (b2.out.trans b3)
  clear f2 b2
  go_wp2_with fail
  refine (pub2 f3.out).mono ?_
  rintro e w4 ⟨rfl, f4, b4⟩
  have f4 := Lib.hid f4
  have b4 := Lib.hid (b3.out.trans (((Below.refl _ _).alloc b3.out.size _).trans b4))
  clear f3 b3
  go_wp2_with fail
  refine (get_fresh f4.out (by decide) s_get1).mono ?_
  rintro e w' ⟨rfl, rfl⟩
  go_wp2_with fail
  refine (read_fresh f4.out (by decide) (by decide) (by decide) s_read1).mono ?_
  rintro e w' ⟨rfl, rfl⟩
  go_wp2_with fail
  refine (get_fresh f4.out (by decide) s_get2).mono ?_
  rintro e w' ⟨rfl, rfl⟩
  go_wp2_with fail
  refine (get_fresh f4.out (by decide) s_get3).mono ?_
  rintro e w' ⟨rfl, rfl⟩
  go_wp2_with fail
  refine (count1 f4.out).mono ?_
  rintro e w5 ⟨rfl, f5, b5⟩
  have f5 := Lib.hid f5
  have b5 := Lib.hid (b4.out.trans b5)
  clear f4 b4
  go_wp2_with fail
  refine (sessions1 f5.out).mono ?_
  rintro e w' ⟨rfl, rfl⟩
  go_wp2_with fail
  refine (pub3 f5.out).mono ?_
  rintro e w6 ⟨rfl, f6, b6⟩
  have f6 := Lib.hid f6
  have b6 := Lib.hid (b5.out.trans (((Below.refl _ _).alloc b5.out.size _).trans b6))
  clear f5 b5
  go_wp2_with fail
  refine (read_fresh f6.out (by decide) (by decide) (by decide) s_read2).mono ?_
  rintro e w' ⟨rfl, rfl⟩
  go_wp2_with fail
  refine (read_fresh f6.out (by decide) (by decide) (by decide) s_read3).mono ?_
  rintro e w' ⟨rfl, rfl⟩
  clear f6
  have t1 : ByteArray.toList sz = [122] := by decide +kernel
  have t2 : ByteArray.toList sy = [121] := by decide +kernel
  have t3 : ByteArray.toList sw = [119] := by decide +kernel
  go_wp2_with (first
    | (go_at_call 16; refine (nil_get _ _ _).mono ?_; rintro e w' ⟨rfl, rfl⟩)
    | (go_at_call 22; refine (nil_open _ _).mono ?_; rintro e w' ⟨rfl, rfl⟩)
    | (go_at_call 15; refine (nil_read _ _ _).mono ?_; rintro e w' ⟨rfl, rfl⟩)
    | (go_at_call 18; refine (nil_pub _ _ _ _).mono ?_; rintro e w' ⟨rfl, rfl⟩)
    | (go_at_call 23; refine (nil_close _ _).mono ?_; rintro e w' ⟨rfl, rfl⟩)
    | (go_at_call 20; refine (nil_sessions _).mono ?_; rintro e w' ⟨rfl, rfl⟩)
    | (go_at_call 21; refine (nil_count _).mono ?_; rintro e w' ⟨rfl, rfl⟩))
  go_ret
  exact ⟨rfl, b6.out⟩
end Go.Proofs.Ytgheokocdfgjpaa
