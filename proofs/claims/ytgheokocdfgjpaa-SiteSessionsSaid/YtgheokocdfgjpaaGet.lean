/- The walks of the functions of package site that only read: get, Read, Get, Sessions. -/
import Derived.Test.YtgheokocdfgjpaaSmall
namespace Go.Proofs.Ytgheokocdfgjpaa
open Go.RowKit Go.MapKept Go.ChangeMaps Go.Maps Go.WideMaps

theorem keyed3 : Keyed Try.prog 3 := int_keyed Try.underlying3
theorem keyed9 : Keyed Try.prog 9 := string_keyed Try.underlying9
theorem zero9 (w : World) : (zeroValue 9).run Try.prog w = .ok (.string emptyB) w := by kernel_rfl
theorem zero52 (w : World) : (zeroValue 52).run Try.prog w = .ok (.pointer none) w := by kernel_rfl

abbrev BA := ByteArray
def intV (n : Int) : Value := .int .i64 n
def ptrV (b : Nat) : Value := .pointer (some ⟨b, 0, none⟩)

theorem intV_inj (x y : Int) (h : intV x = intV y) : x = y := by simpa [intV] using h
theorem strV_inj (x y : BA) (h : Value.string x = Value.string y) : x = y := by simpa using h

def okKey (k : TypeId) (v : Value) : Prop := ∃ l, keyOf Try.prog k v = some l
theorem ok_int {n : Int} (h0 : -9223372036854775808 ≤ n) (h1 : n ≤ 9223372036854775807) : okKey 3 (intV n) := ⟨_, keyOf_int_mk Try.underlying3 (WalkArith.wf_i64 (by omega))⟩
theorem ok_str {s : BA} (h : s.size ≤ maxLen) : okKey 9 (.string s) := ⟨_, keyOf_string_mk Try.underlying9 h⟩

/-- Block t is a map of short strings with the entries l. -/
def SMap (w : World) (t : Nat) (l : List (BA × BA)) : Prop := MapIs w t Value.string Value.string l ∧ ∀ p ∈ l, p.1.size ≤ 1000 ∧ p.2.size ≤ 1000

theorem SMap.ok {w : World} {t : Nat} {l : List (BA × BA)} (h : SMap w t l) : ∀ p ∈ l, okKey 9 (.string p.1) := fun p hp => ok_str (by have := (h.2 p hp).1; unfold maxLen; omega)

theorem SMap.look {w : World} {t : Nat} {l : List (BA × BA)} (h : SMap w t l) {a : BA} (ha : a.size ≤ 1000) (c : Bool) :
    (Instr.lookup 56 (.map (some t)) (.string a) c).run Try.prog w = .ok (if c then .tuple #[.string ((asc l a).getD emptyB), .bool (asc l a).isSome] else .string ((asc l a).getD emptyB)) w := by
  have := run_lookup c Try.underlying56 (zero9 w) (KeyOk.of_keyed keyed9 w) strV_inj h.1 h.ok (x := a) (ok_str (by unfold maxLen; omega))
  rw [this]
  cases asc l a <;> simp

/-- What reading a page gives. -/
def getR (f : BA → Option BA) (a : BA) : BA × Int := match f a with
  | some t => (t, 0)
  | none => (emptyB, 251)

theorem get_any (b t : Nat) (cls : Int) (l : List (BA × BA)) (a : BA) (w : World) (hb : w.heap[b]? = some (.cells #[intV cls, .map (some t)] 58 (0, 0))) (h : SMap w t l) (ha : a.size ≤ 1000) :
    Calls Try.prog 25 #[ptrV b, .string a] w fun e w' => e = .returned (.tuple #[.string (getR (asc l) a).1, .int .i64 (getR (asc l) a).2]) ∧ w = w' := by
  have hrun := h.look ha true
  have c1 : w.cell? ⟨b, 1, none⟩ = some (.map (some t)) := by simp [World.cell?, hb]
  unfold ptrV
  cases hq : asc l a with
  | none =>
    rw [hq] at hrun
    have hg : Hid (getR (asc l) a = (emptyB, 251)) := by show getR (asc l) a = _; simp [getR, hq]
    clear hq hb
    go_enter Try.func25, Try.ntmps25
    go_wp2
    go_ret2
    exact ⟨by rw [hg.out]; rfl, rfl⟩
  | some v =>
    rw [hq] at hrun
    have hg : Hid (getR (asc l) a = (v, 0)) := by show getR (asc l) a = _; simp [getR, hq]
    clear hq hb
    go_enter Try.func25, Try.ntmps25
    go_wp2
    go_ret2
    exact ⟨by rw [hg.out]; rfl, rfl⟩

/-! ### The representation of a Site -/

/-- Block b is a snapshot of class cls whose texts are f. -/
def SnapAt (F : Nat → Prop) (w : World) (b : Nat) (cls : Int) (f : BA → Option BA) : Prop :=
  ∃ t l, F b ∧ F t ∧ w.heap[b]? = some (.cells #[intV cls, .map (some t)] 58 (0, 0)) ∧ SMap w t l ∧ asc l = f

/-- What a Site amounts to: the current pages of the classes, the sessions with the class and the pages of what they read, the number of sessions opened. -/
structure AS where
  cur : Nat → BA → Option BA
  ses : List (Int × Int × (BA → Option BA))
  opened : Int

/-- The blocks of a Site. -/
structure Bk where
  c : Nat → Nat
  m : Nat
  s : List (Int × Nat)

/-- The footprint without the two blocks of the Site itself. -/
def Sub (F : Nat → Prop) (s m : Nat) (i : Nat) : Prop := F i ∧ i ≠ s ∧ i ≠ m

structure RepB (F : Nat → Prop) (w : World) (s : Nat) (A : AS) (B : Bk) : Prop where
  fs : F s
  fm : F B.m
  lt : ∀ i, F i → i < w.heap.size
  top : w.heap[s]? = some (.cells #[ptrV (B.c 0), ptrV (B.c 1), ptrV (B.c 2), ptrV (B.c 3), .map (some B.m), intV A.opened] 55 (0, 0))
  ses : MapIs w B.m intV ptrV B.s
  cur : ∀ i, i < 4 → SnapAt (Sub F s B.m) w (B.c i) (i : Int) (A.cur i)
  keys : B.s.map (·.1) = A.ses.map (·.1)
  at_ : ∀ (j : Nat) p q, B.s[j]? = some p → A.ses[j]? = some q → SnapAt (Sub F s B.m) w p.2 q.2.1 q.2.2
  rng : ∀ p ∈ A.ses, 1 ≤ p.1 ∧ p.1 ≤ A.opened
  op0 : 0 ≤ A.opened
  op1 : A.opened ≤ 1000

def Rep (F : Nat → Prop) (w : World) (s : Nat) (A : AS) : Prop := ∃ B, RepB F w s A B

theorem SnapAt.kept {F G : Nat → Prop} {w w' : World} {b : Nat} {cls : Int} {f : BA → Option BA} (h : SnapAt F w b cls f) (hw : ∀ i, F i → w'.heap[i]? = w.heap[i]?) (hF : ∀ i, F i → G i) : SnapAt G w' b cls f := by
  obtain ⟨t, l, fb, ft, hb, ⟨hm, hs⟩, hf⟩ := h
  exact ⟨t, l, hF _ fb, hF _ ft, (hw b fb).trans hb, ⟨hm.kept (hw t ft), hs⟩, hf⟩

theorem RepB.kept {F : Nat → Prop} {w w' : World} {s : Nat} {A : AS} {B : Bk} (h : RepB F w s A B) (hw : ∀ i, F i → w'.heap[i]? = w.heap[i]?) (hz : w.heap.size ≤ w'.heap.size) : RepB F w' s A B :=
  ⟨h.fs, h.fm, fun i hi => Nat.lt_of_lt_of_le (h.lt i hi) hz, (hw s h.fs).trans h.top, h.ses.kept (hw _ h.fm), fun i hi => (h.cur i hi).kept (fun i x => hw i x.1) (fun _ x => x), h.keys,
    fun j p q hp hq => (h.at_ j p q hp hq).kept (fun i x => hw i x.1) (fun _ x => x), h.rng, h.op0, h.op1⟩

theorem Rep.kept {F : Nat → Prop} {w w' : World} {s : Nat} {A : AS} (h : Rep F w s A) (hw : ∀ i, F i → w'.heap[i]? = w.heap[i]?) (hz : w.heap.size ≤ w'.heap.size) : Rep F w' s A := by
  obtain ⟨B, hB⟩ := h
  exact ⟨B, hB.kept hw hz⟩

theorem Rep.only {F G : Nat → Prop} {w w' : World} {s : Nat} {A : AS} (h : Rep F w s A) (hk : Only G w w') (hG : ∀ i, F i → ¬ G i) : Rep F w' s A :=
  h.kept (fun i hi => hk.block i (by obtain ⟨B, hB⟩ := h; exact hB.lt i hi) (hG i hi)) hk.size

theorem Rep.lt {F : Nat → Prop} {w : World} {s : Nat} {A : AS} (h : Rep F w s A) : ∀ i, F i → i < w.heap.size := by
  obtain ⟨B, hB⟩ := h
  exact hB.lt

theorem Rep.below {F : Nat → Prop} {w w' : World} {s : Nat} {A : AS} (h : Rep F w s A) (hk : Below w.heap.size w w') : Rep F w' s A :=
  h.kept (fun i hi => hk.block i (h.lt i hi)) hk.size

/-- What Get gives, and what Read gives. -/
def getA (A : AS) (c : Int) (a : BA) : BA × Int := if isClass c then getR (A.cur c.toNat) a else (emptyB, 250)
def readA (A : AS) (n : Int) (a : BA) : BA × Int := match asc A.ses n with
  | some q => getR q.2 a
  | none => (emptyB, 250)

theorem asc_idx {K V W : Type} [DecidableEq K] {l : List (K × V)} {l' : List (K × W)} (h : l.map (·.1) = l'.map (·.1)) (x : K) :
    (asc l x = none ∧ asc l' x = none) ∨ ∃ (j : Nat) (v : V) (u : W), l[j]? = some (x, v) ∧ l'[j]? = some (x, u) ∧ asc l x = some v ∧ asc l' x = some u := by
  induction l generalizing l' with
  | nil =>
    cases l' with
    | nil => exact .inl ⟨rfl, rfl⟩
    | cons => simp at h
  | cons p r ih =>
    cases l' with
    | nil => simp at h
    | cons q r' =>
      simp only [List.map_cons, List.cons.injEq] at h
      by_cases hp : p.1 = x
      · refine .inr ⟨0, p.2, q.2, ?_, ?_, ?_, ?_⟩
        · simp [← hp]
        · simp [← hp, h.1]
        · simp [asc, hp]
        · simp [asc, ← h.1, hp]
      · have hq : ¬ q.1 = x := by rw [← h.1]; exact hp
        rcases ih h.2 with ⟨h1, h2⟩ | ⟨j, v, u, h1, h2, h3, h4⟩
        · exact .inl ⟨by simp [asc, hp, h1], by simp [asc, hq, h2]⟩
        · exact .inr ⟨j + 1, v, u, by simpa using h1, by simpa using h2, by simp [asc, hp, h3], by simp [asc, hq, h4]⟩

theorem RepB.key_ok {F : Nat → Prop} {w : World} {s : Nat} {A : AS} {B : Bk} (h : RepB F w s A B) : ∀ p ∈ B.s, okKey 3 (intV p.1) := fun p hp => by
  have : p.1 ∈ A.ses.map (·.1) := by rw [← h.keys]; exact List.mem_map.2 ⟨p, hp, rfl⟩
  obtain ⟨q, hq, e⟩ := List.mem_map.1 this
  have := h.rng q hq
  have := h.op1
  exact ok_int (by omega) (by omega)

theorem RepB.look {F : Nat → Prop} {w : World} {s : Nat} {A : AS} {B : Bk} (h : RepB F w s A B) (n : Int) (h0 : -9223372036854775808 ≤ n) (h1 : n ≤ 9223372036854775807) (c : Bool) :
    (Instr.lookup 51 (.map (some B.m)) (.int .i64 n) c).run Try.prog w = .ok (if c then .tuple #[((asc B.s n).map ptrV).getD (.pointer none), .bool (asc B.s n).isSome] else ((asc B.s n).map ptrV).getD (.pointer none)) w :=
  run_lookup c Try.underlying51 (zero52 w) (KeyOk.of_keyed keyed3 w) intV_inj h.ses h.key_ok (x := n) (ok_int h0 h1)

set_option maxHeartbeats 400000 in
theorem read_any (F : Nat → Prop) (s : Nat) (A : AS) (n : Int) (a : BA) (w : World) (h : Rep F w s A) (h0 : -9223372036854775808 ≤ n) (h1 : n ≤ 9223372036854775807) (ha : a.size ≤ 1000) :
    Calls Try.prog 15 #[ptrV s, .int .i64 n, .string a] w fun e w' => e = .returned (.tuple #[.string (readA A n a).1, .int .i64 (readA A n a).2]) ∧ w = w' := by
  obtain ⟨B, hB⟩ := h
  have hrun := hB.look n h0 h1 true
  have c4 : w.cell? ⟨s, 4, none⟩ = some (.map (some B.m)) := by simp [World.cell?, hB.top]
  unfold ptrV
  rcases asc_idx hB.keys n with ⟨e1, e2⟩ | ⟨j, b, q, hj1, hj2, e1, e2⟩
  · rw [e1] at hrun
    have hg : Hid (readA A n a = (emptyB, 250)) := by show readA A n a = _; simp [readA, e2]
    clear e1 e2
    go_enter Try.func15, Try.ntmps15
    go_wp2
    go_ret2
    exact ⟨by rw [hg.out]; rfl, rfl⟩
  · rw [e1] at hrun
    obtain ⟨t, l, _, _, hb, hs, hf⟩ := hB.at_ j _ _ hj1 hj2
    have hg : Hid (readA A n a = getR (asc l) a) := by show readA A n a = _; simp [readA, e2, hf]
    have K := fun W hW => get_any b t q.1 l a W hW
    clear e1 e2 hj1 hj2 hf
    have Hb := Lib.hid hb; clear hb
    have Hs := Lib.hid hs; clear hs
    have HK := Lib.hid K; clear K
    go_enter Try.func15, Try.ntmps15
    go_wp2_with fail
    refine (HK.out _ Hb.out Hs.out ha).mono ?_
    rintro e w' ⟨rfl, rfl⟩
    go_wp2
    go_ret2
    exact ⟨by rw [hg.out]; rfl, rfl⟩

theorem RepB.curCell {F : Nat → Prop} {w : World} {s : Nat} {A : AS} {B : Bk} (h : RepB F w s A B) (k : Nat) (hk : k < 4) : w.cell? ⟨s, k, none⟩ = some (ptrV (B.c k)) := by
  match k, hk with
  | 0, _ => simp [World.cell?, h.top]
  | 1, _ => simp [World.cell?, h.top]
  | 2, _ => simp [World.cell?, h.top]
  | 3, _ => simp [World.cell?, h.top]

set_option maxHeartbeats 400000 in
theorem get_no (s : Nat) (A : AS) (c : Int) (a : BA) (w : World) (hc : isClass c = false) :
    Calls Try.prog 16 #[ptrV s, .int .i64 c, .string a] w fun e w' => e = .returned (.tuple #[.string (getA A c a).1, .int .i64 (getA A c a).2]) ∧ w = w' := by
  unfold ptrV
  have hg : Hid (getA A c a = (emptyB, 250)) := by show getA A c a = _; simp [getA, hc]
  go_enter Try.func16, Try.ntmps16
  go_wp2_with (go_at_call 26; refine (exists_any c _).mono ?_; rintro e w' ⟨rfl, rfl⟩)
  go_ret2
  exact ⟨by rw [hg.out]; rfl, rfl⟩

set_option maxHeartbeats 400000 in
theorem getA_any (F : Nat → Prop) (s : Nat) (A : AS) (c : Int) (a : BA) (w : World) (h : Rep F w s A) (ha : a.size ≤ 1000) :
    Calls Try.prog 16 #[ptrV s, .int .i64 c, .string a] w fun e w' => e = .returned (.tuple #[.string (getA A c a).1, .int .i64 (getA A c a).2]) ∧ w = w' := by
  cases hc : isClass c with
  | false => exact get_no s A c a w hc
  | true =>
    have hcc := hc
    simp only [isClass, decide_eq_true_eq] at hcc
    obtain ⟨h0, h4⟩ := hcc
    obtain ⟨k, rfl⟩ := Int.eq_ofNat_of_zero_le h0
    obtain ⟨B, hB⟩ := h
    have hk : k < 4 := by omega
    have hcell := hB.curCell k hk
    obtain ⟨t, l, _, _, hb, hs, hf⟩ := hB.cur k hk
    have hg : Hid (getA A k a = getR (asc l) a) := by show getA A k a = _; simp [getA, hc, hf]
    have K := fun W hW => get_any (B.c k) t k l a W hW
    clear hf
    have Hb := Lib.hid hb; clear hb
    have Hs := Lib.hid hs; clear hs
    have HK := Lib.hid K; clear K
    unfold ptrV at hcell ⊢
    go_enter Try.func16, Try.ntmps16
    go_wp2_with (first
      | (go_at_call 26; refine (exists_any k _).mono ?_; rintro e w' ⟨rfl, rfl⟩)
      | (go_at_call 25; refine (HK.out _ Hb.out Hs.out ha).mono ?_; rintro e w' ⟨rfl, rfl⟩))
    go_ret2
    exact ⟨by rw [hg.out]; rfl, rfl⟩

theorem sessions_any (F : Nat → Prop) (s : Nat) (A : AS) (w : World) (h : Rep F w s A) :
    Calls Try.prog 20 #[ptrV s] w fun e w' => e = .returned (.int .i64 (A.ses.length : Int)) ∧ w = w' := by
  obtain ⟨B, hB⟩ := h
  have hrun : ∀ ty, (Builtin.len_ #[51] ty #[.map (some B.m)]).run Try.prog w = .ok (.int .i64 (A.ses.length : Int)) w := fun ty => by
    rw [run_len Try.underlying51 hB.ses]
    have := congrArg List.length hB.keys
    simp only [List.length_map] at this
    rw [this]
  have c4 : w.cell? ⟨s, 4, none⟩ = some (.map (some B.m)) := by simp [World.cell?, hB.top]
  unfold ptrV
  go_enter Try.func20, Try.ntmps20
  go_wp2
  go_ret
  exact ⟨rfl, rfl⟩

end Go.Proofs.Ytgheokocdfgjpaa
