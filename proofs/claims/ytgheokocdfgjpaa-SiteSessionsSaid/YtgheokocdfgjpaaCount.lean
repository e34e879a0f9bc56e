/- The walk of Snapshots of package site. -/
import Derived.Test.YtgheokocdfgjpaaPubW
namespace Go.Proofs.Ytgheokocdfgjpaa
open Go.RowKit Go.MapKept Go.ChangeMaps Go.Maps Go.WideMaps

/-! ### Pointers as keys -/
def okPtr (w : World) (v : Value) : Prop := ∃ b cs T, v = ptrV b ∧ w.heap[b]? = some (.cells cs T (0, 0))

theorem info58 : ∃ i, Try.prog.info? 58 = some i ∧ i.size = 2 := by
  have h : (Try.prog.info? 58).map (·.size) = some 2 := by kernel_rfl
  cases hi : Try.prog.info? 58 with
  | none => rw [hi] at h; cases h
  | some i =>
    rw [hi] at h
    exact ⟨i, rfl, by simpa using h⟩

theorem ptrV_inj (x y : Nat) (h : ptrV x = ptrV y) : x = y := by simpa [ptrV] using h

theorem equal_ptr (w : World) {x y : Value} (hx : okPtr w x) (hy : okPtr w y) : (x = y ∧ (Op.equal 52 x y).run Try.prog w = .ok true w) ∨ (x ≠ y ∧ (Op.equal 52 x y).run Try.prog w = .ok false w) := by
  obtain ⟨a, ca, ta, rfl, ha⟩ := hx
  obtain ⟨b, cb, tb, rfl, hb⟩ := hy
  obtain ⟨i, hi, hsz⟩ := info58
  by_cases e : a = b
  · subst e
    left
    refine ⟨rfl, ?_⟩
    have h : ∀ d : Nat, (Op.equalIn (d + 1) 52 (.pointer (some ⟨a, 0, none⟩)) (.pointer (some ⟨a, 0, none⟩))).run Try.prog w = .ok true w := fun d => by
      simp [Op.equalIn, run_underlying Try.underlying52, sizeOf, typeInfo, hi, run_sameAddr_same]
    exact h 9999
  · right
    have hne : (⟨a, 0, none⟩ : Addr) ≠ ⟨b, 0, none⟩ := fun h => e (by injection h)
    refine ⟨fun h => e (ptrV_inj _ _ h), ?_⟩
    have h : ∀ d : Nat, (Op.equalIn (d + 1) 52 (.pointer (some ⟨a, 0, none⟩)) (.pointer (some ⟨b, 0, none⟩))).run Try.prog w = .ok false w := fun d => by
      simp [Op.equalIn, run_underlying Try.underlying52, sizeOf, typeInfo, hi, hsz, run_sameAddr_other w hne ha hb]
    exact h 9999

theorem asking_ptr (w : World) {x : Value} (hx : okPtr w x) : ∀ (es : List MapEntry) (i : Nat), (∀ e ∈ es, okPtr w e.key) →
    ((Instr.findAsking 52 x es i).run Try.prog w = .ok none w ∧ ∀ e ∈ es, e.key ≠ x) ∨ ∃ j e, (Instr.findAsking 52 x es i).run Try.prog w = .ok (some (i + j, e.val)) w ∧ es[j]? = some e ∧ e.key = x
  | [], i, _ => .inl ⟨by simp [Instr.findAsking], by simp⟩
  | e :: r, i, h => by
    rcases equal_ptr w hx (h e (by simp)) with ⟨h1, h2⟩ | ⟨h1, h2⟩
    · exact .inr ⟨0, e, by simp [Instr.findAsking, h2, Result.andThen], rfl, h1.symm⟩
    · rcases asking_ptr w hx r (i + 1) (fun y hy => h y (by simp [hy])) with ⟨h3, h4⟩ | ⟨j, e', h3, h4, h5⟩
      · exact .inl ⟨by simp [Instr.findAsking, h2, Result.andThen, h3], fun y hy => by
          rcases List.mem_cons.1 hy with rfl | hy
          · exact fun e => h1 e.symm
          · exact h4 y hy⟩
      · exact .inr ⟨j + 1, e', by simp [Instr.findAsking, h2, Result.andThen, h3]; omega, by simpa using h4, h5⟩

theorem key_ptr (w : World) : KeyOk Try.prog w 52 (okPtr w) where
  find := fun {x} es hx he => by
    cases es with
    | nil => exact .inl ⟨by simp [Instr.findKey, run_underlying Try.underlying52, Instr.findNow], by simp⟩
    | cons e r =>
      have hn : Instr.findNow (.pointer 58) x (e :: r) 0 = none := by
        obtain ⟨b, cs, T, rfl, _⟩ := hx
        simp [Instr.findNow, Instr.sameNow]
      rcases asking_ptr w hx (e :: r) 0 he with ⟨h1, h2⟩ | ⟨j, e', h1, h2, h3⟩
      · exact .inl ⟨by simp [Instr.findKey, run_underlying Try.underlying52, hn, h1], h2⟩
      · exact .inr ⟨j, e', by simpa [Instr.findKey, run_underlying Try.underlying52, hn] using h1, h2, h3⟩
  check := fun em {x} ⟨b, cs, T, hx, _⟩ => by
    subst hx
    have h : ∀ d : Nat, (Instr.checkKey em (d + 1) 52 (ptrV b)).run Try.prog w = .ok () w := fun d => by simp [Instr.checkKey, run_underlying Try.underlying52, ptrV]
    exact h 9999
  stays := fun {x} ⟨b, cs, T, hx, _⟩ => by
    subst hx
    have h : ∀ d : Nat, Instr.sameBits (d + 1) (ptrV b) (ptrV b) = true := fun d => by simp [Instr.sameBits, ptrV]
    have h2 : Instr.sameBits 10000 (ptrV b) (ptrV b) = true := h 9999
    simp only [Instr.keyThatStays, h2, if_true]
    rfl

theorem zero3 (w : World) : (zeroValue 3).run Try.prog w = .ok (.int .i64 0) w := by kernel_rfl

/-! ### The map that counts -/

/-- 'found[x]++': the look-up and the store. -/
theorem found_step {w : World} {fb b : Nat} {cs : Array Value} {T : TypeId} {fl : List (Nat × Int)} (h : MapIs w fb ptrV intV fl) (hok : ∀ p ∈ fl, okPtr w (ptrV p.1)) (hb : w.heap[b]? = some (.cells cs T (0, 0))) :
    ∃ n : Int, (Instr.lookup 65 (.map (some fb)) (ptrV b) false).run Try.prog w = .ok (.int .i64 n) w ∧
      ∃ W : Int → World, ∀ v : Int, (Instr.mapUpdate 65 (.map (some fb)) (ptrV b) (.int .i64 v)).run Try.prog w = .ok () (W v) ∧ MapIs (W v) fb ptrV intV (ups fl b v) ∧ Only (· = fb) w (W v) ∧ (W v).heap.size = w.heap.size := by
  have hx : okPtr w (ptrV b) := ⟨b, cs, T, rfl, hb⟩
  have h1 := run_lookup false Try.underlying65 (zero3 w) (key_ptr w) ptrV_inj h hok (x := b) hx
  refine ⟨(asc fl b).getD 0, ?_, ?_⟩
  · rw [h1]
    cases asc fl b <;> rfl
  · have hW : ∀ v : Int, ∃ w' : World, (Instr.mapUpdate 65 (.map (some fb)) (ptrV b) (.int .i64 v)).run Try.prog w = .ok () w' ∧ MapIs w' fb ptrV intV (ups fl b v) ∧ Only (· = fb) w w' ∧ w'.heap.size = w.heap.size := fun v => by
      obtain ⟨o, h2, h3⟩ := run_update Try.underlying65 (key_ptr w) ptrV_inj h hok (x := b) hx v
      exact ⟨_, h2, h3, (Only.refl (· = fb) w).setBlock (fun _ => rfl) o, by simp [ChangeMaps.setBlock]⟩
    exact ⟨fun v => Classical.choose (hW v), fun v => Classical.choose_spec (hW v)⟩

theorem len_le_of_subset {α : Type} [DecidableEq α] : ∀ {l l' : List α}, l.Nodup → (∀ x ∈ l, x ∈ l') → l.length ≤ l'.length
  | [], _, _, _ => Nat.zero_le _
  | a :: r, l', hn, h => by
    have ha := h a (by simp)
    have hl : (l'.erase a).length + 1 = l'.length := by
      have := List.length_erase_of_mem ha
      have := List.length_pos_of_mem ha
      omega
    have := len_le_of_subset (l := r) (l' := l'.erase a) (List.nodup_cons.1 hn).2 (fun x hx => by
      have hxa : x ≠ a := fun e => (List.nodup_cons.1 hn).1 (e ▸ hx)
      exact (List.mem_erase_of_ne hxa).2 (h x (by simp [hx])))
    simp only [List.length_cons]
    omega

theorem keys_ups_mem {K V : Type} [DecidableEq K] {l : List (K × V)} {x : K} {v : V} {b : K} : b ∈ (ups l x v).map (·.1) ↔ b = x ∨ b ∈ l.map (·.1) := by
  rw [keys_ups]
  split
  · rename_i h
    constructor
    · exact .inr
    · rintro (rfl | h2)
      · obtain ⟨v', hv'⟩ := Option.isSome_iff_exists.1 h
        exact List.mem_map.2 ⟨_, asc_mem hv', rfl⟩
      · exact h2
  · simp only [List.mem_append, List.mem_singleton]
    constructor
    · rintro (h | h)
      · exact .inr h
      · exact .inl h
    · rintro (h | h)
      · exact .inr h
      · exact .inl h

/-! ### The walk -/

/-- The blocks counted so far: those of the first k classes, and those of the sessions that are no longer to come. -/
def Counted (B : Bk) (k : Nat) (left : Int → Bool) (fl : List (Nat × Int)) : Prop := ∀ b, b ∈ fl.map (·.1) ↔ (∃ i, i < k ∧ b = B.c i) ∨ ∃ p ∈ B.s, left p.1 = false ∧ p.2 = b

def CountPost (w : World) (A : AS) (e : Ending) (w' : World) : Prop :=
  ∃ n : Nat, e = .returned (.int .i64 (n : Int)) ∧ 4 ≤ n ∧ n ≤ 4 + A.ses.length ∧ (∀ q ∈ A.ses, (∀ i : Nat, i < 4 → ¬ (q.2.1 = (i : Int) ∧ q.2.2 = A.cur i)) → 5 ≤ n) ∧ Below w.heap.size w w'

theorem RepB.cur_inj {F : Nat → Prop} {w : World} {s : Nat} {A : AS} {B : Bk} (h : RepB F w s A B) {i j : Nat} (hi : i < 4) (hj : j < 4) (e : B.c i = B.c j) : i = j := by
  have h1 := h.cur i hi
  have h2 := h.cur j hj
  rw [e] at h1
  have := (h1.uniq h2).1
  omega

theorem RepB.curCells {F : Nat → Prop} {w : World} {s : Nat} {A : AS} {B : Bk} (h : RepB F w s A B) {i : Nat} (hi : i < 4) : ∃ cs, w.heap[B.c i]? = some (.cells cs 58 (0, 0)) := by
  obtain ⟨t, l, _, _, h1, _⟩ := h.cur i hi
  exact ⟨_, h1⟩

theorem RepB.sesCells {F : Nat → Prop} {w : World} {s : Nat} {A : AS} {B : Bk} (h : RepB F w s A B) {p : Int × Nat} (hp : p ∈ B.s) : ∃ cs, w.heap[p.2]? = some (.cells cs 58 (0, 0)) := by
  obtain ⟨j, hj⟩ := List.getElem?_of_mem hp
  have hlen : B.s.length = A.ses.length := by simpa using congrArg List.length h.keys
  have hjl : j < A.ses.length := by rw [← hlen]; exact (List.getElem?_eq_some_iff.1 hj).1
  obtain ⟨t, l, _, _, h1, _⟩ := h.at_ j p _ hj (List.getElem?_eq_getElem hjl)
  exact ⟨_, h1⟩

theorem Counted.start (B : Bk) : Counted B 0 (fun _ => true) [] := fun b => by simp

theorem Counted.class {B : Bk} {k : Nat} {left : Int → Bool} {fl : List (Nat × Int)} (h : Counted B k left fl) (v : Int) : Counted B (k + 1) left (ups fl (B.c k) v) := fun b => by
  rw [keys_ups_mem, h b]
  constructor
  · rintro (rfl | ⟨i, hi, rfl⟩ | h)
    · exact .inl ⟨k, by omega, rfl⟩
    · exact .inl ⟨i, by omega, rfl⟩
    · exact .inr h
  · rintro (⟨i, hi, rfl⟩ | h)
    · by_cases e : i = k
      · subst e; exact .inl rfl
      · exact .inr (.inl ⟨i, by omega, rfl⟩)
    · exact .inr (.inr h)

theorem Counted.session {B : Bk} {k : Nat} {left : Int → Bool} {fl : List (Nat × Int)} (h : Counted B k left fl) (hn : (B.s.map (·.1)).Nodup) {p : Int × Nat} (hp : p ∈ B.s) (v : Int) : Counted B k (fun x => left x && !decide (x = p.1)) (ups fl p.2 v) := fun b => by
  have huniq : ∀ p' ∈ B.s, p'.1 = p.1 → p' = p := fun p' hp' e => by
    obtain ⟨i, hi⟩ := List.getElem?_of_mem hp'
    obtain ⟨j, hj⟩ := List.getElem?_of_mem hp
    have hij := list_nodup_idx (f := (·.1)) hn hi hj e
    subst hij
    rw [hi] at hj
    exact Option.some.inj hj
  rw [keys_ups_mem, h b]
  constructor
  · rintro (rfl | h | ⟨p', hp', h1, h2⟩)
    · exact .inr ⟨p, hp, by simp, rfl⟩
    · exact .inl h
    · exact .inr ⟨p', hp', by simp [h1], h2⟩
  · rintro (h | ⟨p', hp', h1, h2⟩)
    · exact .inr (.inl h)
    · by_cases e : p'.1 = p.1
      · have := huniq p' hp' e
        subst this
        exact .inl h2.symm
      · refine .inr (.inr ⟨p', hp', ?_, h2⟩)
        simpa [e] using h1

theorem Counted.done {F : Nat → Prop} {w wr : World} {s : Nat} {A : AS} {B : Bk} (hB : RepB F w s A B) {left : Int → Bool} {fl : List (Nat × Int)} (h : Counted B 4 left fl) (hl : ∀ p ∈ B.s, left p.1 = false) (hn : (fl.map (·.1)).Nodup) (hbw : Below w.heap.size w wr) {v : Value} (hv : v = .int .i64 (fl.length : Int)) :
    CountPost w A (.returned v) wr := by
  subst hv
  have hlen : B.s.length = A.ses.length := by simpa using congrArg List.length hB.keys
  have hc4 : ([B.c 0, B.c 1, B.c 2, B.c 3] : List Nat).Nodup := by
    have d : ∀ i j : Nat, i < 4 → j < 4 → i ≠ j → B.c i ≠ B.c j := fun i j hi hj hne e => hne (hB.cur_inj hi hj e)
    simp [d 0 1, d 0 2, d 0 3, d 1 2, d 1 3, d 2 3]
  have hmem : ∀ b, b ∈ fl.map (·.1) ↔ b ∈ [B.c 0, B.c 1, B.c 2, B.c 3] ++ B.s.map (·.2) := fun b => by
    rw [h b, List.mem_append]
    constructor
    · rintro (⟨i, hi, rfl⟩ | ⟨p, hp, _, rfl⟩)
      · left
        match i, hi with
        | 0, _ => simp
        | 1, _ => simp
        | 2, _ => simp
        | 3, _ => simp
      · exact .inr (List.mem_map.2 ⟨p, hp, rfl⟩)
    · rintro (hb | hb)
      · left
        simp only [List.mem_cons, List.not_mem_nil, or_false] at hb
        rcases hb with rfl | rfl | rfl | rfl
        · exact ⟨0, by omega, rfl⟩
        · exact ⟨1, by omega, rfl⟩
        · exact ⟨2, by omega, rfl⟩
        · exact ⟨3, by omega, rfl⟩
      · obtain ⟨p, hp, rfl⟩ := List.mem_map.1 hb
        exact .inr ⟨p, hp, hl p hp, rfl⟩
  have hfl : (fl.map (·.1)).length = fl.length := by simp
  refine ⟨fl.length, rfl, ?_, ?_, ?_, hbw⟩
  · have := len_le_of_subset (l := [B.c 0, B.c 1, B.c 2, B.c 3]) (l' := fl.map (·.1)) hc4 (fun x hx => (hmem x).2 (List.mem_append.2 (.inl hx)))
    simpa [hfl] using this
  · have := len_le_of_subset (l := fl.map (·.1)) (l' := [B.c 0, B.c 1, B.c 2, B.c 3] ++ B.s.map (·.2)) hn (fun x hx => (hmem x).1 hx)
    simp only [List.length_map, List.length_append, List.length_cons, List.length_nil] at this
    omega
  · intro q hq hne
    obtain ⟨j, hj⟩ := List.getElem?_of_mem hq
    have hjl : j < B.s.length := by rw [hlen]; exact (List.getElem?_eq_some_iff.1 hj).1
    have hp : B.s[j]? = some B.s[j] := List.getElem?_eq_getElem hjl
    have hs := hB.at_ j _ q hp hj
    have hnot : ∀ i, i < 4 → B.s[j].2 ≠ B.c i := fun i hi e => by
      rw [e] at hs
      exact hne i hi (hs.uniq (hB.cur i hi))
    have h5 : ([B.s[j].2, B.c 0, B.c 1, B.c 2, B.c 3] : List Nat).Nodup := by
      refine List.nodup_cons.2 ⟨?_, hc4⟩
      simp [hnot 0, hnot 1, hnot 2, hnot 3]
    have := len_le_of_subset (l := [B.s[j].2, B.c 0, B.c 1, B.c 2, B.c 3]) (l' := fl.map (·.1)) h5 (fun x hx => (hmem x).2 (by
      rcases List.mem_cons.1 hx with rfl | hx
      · exact List.mem_append.2 (.inr (List.mem_map.2 ⟨_, List.getElem_mem hjl, rfl⟩))
      · exact List.mem_append.2 (.inl hx)))
    simpa [hfl] using this

theorem counted_ok {F : Nat → Prop} {w wr : World} {s k : Nat} {A : AS} {B : Bk} (hB : RepB F w s A B) (hk : k ≤ 4) {left : Int → Bool} {fl : List (Nat × Int)} (h : Counted B k left fl) (hbw : Below w.heap.size w wr) : ∀ p ∈ fl, okPtr wr (ptrV p.1) := fun p hp => by
  have hin : ∀ b cs, w.heap[b]? = some (.cells cs 58 (0, 0)) → okPtr wr (ptrV b) := fun b cs hb => ⟨b, cs, 58, rfl, (hbw.block b (Array.getElem?_eq_some_iff.1 hb).1).trans hb⟩
  rcases (h p.1).1 (List.mem_map.2 ⟨p, hp, rfl⟩) with ⟨i, hi, e⟩ | ⟨p', hp', _, e⟩
  · rw [e]
    obtain ⟨cs, hcs⟩ := hB.curCells (i := i) (by omega)
    exact hin _ _ hcs
  · rw [← e]
    obtain ⟨cs, hcs⟩ := hB.sesCells hp'
    exact hin _ _ hcs

theorem idx40 (c : Nat → Nat) (v : World) : (Instr.index 53 (.agg #[.pointer (some ⟨c 0, 0, none⟩), .pointer (some ⟨c 1, 0, none⟩), .pointer (some ⟨c 2, 0, none⟩), .pointer (some ⟨c 3, 0, none⟩)]) (.int .i64 0)).run Try.prog v = .ok (.pointer (some ⟨c 0, 0, none⟩)) v := by kernel_rfl
theorem idx41 (c : Nat → Nat) (v : World) : (Instr.index 53 (.agg #[.pointer (some ⟨c 0, 0, none⟩), .pointer (some ⟨c 1, 0, none⟩), .pointer (some ⟨c 2, 0, none⟩), .pointer (some ⟨c 3, 0, none⟩)]) (.int .i64 1)).run Try.prog v = .ok (.pointer (some ⟨c 1, 0, none⟩)) v := by kernel_rfl
theorem idx42 (c : Nat → Nat) (v : World) : (Instr.index 53 (.agg #[.pointer (some ⟨c 0, 0, none⟩), .pointer (some ⟨c 1, 0, none⟩), .pointer (some ⟨c 2, 0, none⟩), .pointer (some ⟨c 3, 0, none⟩)]) (.int .i64 2)).run Try.prog v = .ok (.pointer (some ⟨c 2, 0, none⟩)) v := by kernel_rfl
theorem idx43 (c : Nat → Nat) (v : World) : (Instr.index 53 (.agg #[.pointer (some ⟨c 0, 0, none⟩), .pointer (some ⟨c 1, 0, none⟩), .pointer (some ⟨c 2, 0, none⟩), .pointer (some ⟨c 3, 0, none⟩)]) (.int .i64 3)).run Try.prog v = .ok (.pointer (some ⟨c 3, 0, none⟩)) v := by kernel_rfl
theorem idx4 (c : Nat → Nat) (k : Nat) (hk : k < 4) (v : World) : (Instr.index 53 (.agg #[.pointer (some ⟨c 0, 0, none⟩), .pointer (some ⟨c 1, 0, none⟩), .pointer (some ⟨c 2, 0, none⟩), .pointer (some ⟨c 3, 0, none⟩)]) (.int .i64 (k : Int))).run Try.prog v = .ok (.pointer (some ⟨c k, 0, none⟩)) v := by
  match k, hk with
  | 0, _ => exact idx40 c v
  | 1, _ => exact idx41 c v
  | 2, _ => exact idx42 c v
  | 3, _ => exact idx43 c v

set_option maxHeartbeats 1000000 in
theorem count_any (F : Nat → Prop) (s : Nat) (A : AS) (w : World) (h : Rep F w s A) : Calls Try.prog 21 #[ptrV s] w (CountPost w A) := by
  obtain ⟨B, hB⟩ := h
  have hsF := hB.lt _ hB.fs
  have hmF := hB.lt _ hB.fm
  have hmm := @run_makeMap Try.prog
  have k0 : w.cell? ⟨s, 0, none⟩ = some (ptrV (B.c 0)) := hB.curCell 0 (by omega)
  have k1 : w.cell? ⟨s, 1, none⟩ = some (ptrV (B.c 1)) := hB.curCell 1 (by omega)
  have k2 : w.cell? ⟨s, 2, none⟩ = some (ptrV (B.c 2)) := hB.curCell 2 (by omega)
  have k3 : w.cell? ⟨s, 3, none⟩ = some (ptrV (B.c 3)) := hB.curCell 3 (by omega)
  have k4 : w.cell? ⟨s, 4, none⟩ = some (.map (some B.m)) := by simp [World.cell?, hB.top]
  have HB := Lib.hid hB; clear hB
  unfold ptrV at k0 k1 k2 k3 ⊢
  go_enter Try.func21, Try.ntmps21
  go_wp2
  have hidx : ∀ (k : Nat), k < 4 → ∀ v : World, (Instr.index 53 (.agg #[.pointer (some ⟨B.c 0, 0, none⟩), .pointer (some ⟨B.c 1, 0, none⟩), .pointer (some ⟨B.c 2, 0, none⟩), .pointer (some ⟨B.c 3, 0, none⟩)]) (.int .i64 (k : Int))).run Try.prog v = .ok (.pointer (some ⟨B.c k, 0, none⟩)) v := fun k hk v => by
    exact idx4 (fun i => B.c i) k hk v
  have Hidx := Lib.hid hidx; clear hidx
  clear hmm
  go_loopw [15] (fun i wr => ∃ (k : Nat) (fl : List (Nat × Int)), i = .int .i64 k ∧ k ≤ 4 ∧ MapIs wr w.heap.size ptrV intV fl ∧ Counted B k (fun _ => true) fl ∧ Below w.heap.size w wr) (fun i _ => 4 - (intOf i).toNat)
  case atStart => exact ⟨0, [], rfl, Nat.zero_le _, MapIs.made w, Counted.start B, (Below.refl _ _).alloc (Nat.le_refl _) _⟩
  case round =>
    obtain ⟨k, fl, rfl, hk, hm, hcd, hbw⟩ := hrel
    by_cases hlt : k < 4
    · have hix := Hidx.out k hlt wr
      obtain ⟨cs, hcs⟩ := HB.out.curCells hlt
      obtain ⟨n, hlook, W, hW⟩ := found_step hm (counted_ok HB.out hk hcd hbw) ((hbw.block _ (Array.getElem?_eq_some_iff.1 hcs).1).trans hcs)
      have hupd := fun v => (hW v).1
      have hrel : Hid (∀ v, MapIs (W v) w.heap.size ptrV intV (ups fl (B.c k) v) ∧ Counted B (k + 1) (fun _ => true) (ups fl (B.c k) v) ∧ Below w.heap.size w (W v)) := fun v =>
        ⟨(hW v).2.1, hcd.class v, hbw.trans ⟨(hW v).2.2.1.os, (hW v).2.2.1.tape, (hW v).2.2.1.output, (hW v).2.2.1.size, fun i hi => (hW v).2.2.1.block i (Nat.lt_of_lt_of_le hi hbw.size) (by show ¬ i = w.heap.size; omega)⟩⟩
      unfold ptrV at hlook hupd
      clear hW hcs hcd hm hbw
      go_wp2
      go_roundw
      case rel => exact ⟨k + 1, _, by go_num, by omega, hrel.out _⟩
      case measure => simp [intOf]; omega
    · have hk4 : k = 4 := by omega
      have hcd4 : Counted B 4 (fun _ => true) fl := by rw [← hk4]; exact hcd
      have hsz := hbw.size
      have hml : w.heap.size < wr.heap.size := hm.lt
      have c4 : wr.cell? ⟨s, 4, none⟩ = some (.map (some B.m)) := (hbw.cell (p := ⟨s, 4, none⟩) hsF).trans k4
      obtain ⟨o, hrange, hrg⟩ := run_range (P := Try.prog) Try.underlying51 (HB.out.ses.kept (hbw.block _ hmF))
      have Hrg := Lib.hid hrg; clear hrg
      have Hm := Lib.hid (hm.kept (w' := wr.alloc o) (Below.heap_alloc wr o _ hml))
      have Hcd := Lib.hid hcd4
      have Hbw := Lib.hid (hbw.alloc hsz o)
      clear hcd4 hcd hm hbw
      go_wp2
      obtain ⟨r, hr⟩ : ∃ r, r = wr.heap.size := ⟨_, rfl⟩
      have hrl : w.heap.size < r := by rw [hr]; exact hml
      have Hr := Lib.hid hr; clear hr
      rw [← Hr.out] at Hrg ⊢
      clear hrange c4 hsz hml k0 k1 k2 k3 k4 hlt hk4
      obtain ⟨v0, hv0⟩ : ∃ v0, v0 = wr := ⟨_, rfl⟩
      rw [← hv0] at Hrg Hm Hbw ⊢
      clear hv0
      go_loopw [7] (fun _ v => ∃ (left : Int → Bool) (cnt : Nat) (fl : List (Nat × Int)), Ranging v B.m r intV ptrV B.s left cnt ∧ MapIs v w.heap.size ptrV intV fl ∧ Counted B 4 left fl ∧ Below w.heap.size w v) (fun _ v => v.rangeLeft B.m r)
      case atStart => exact ⟨_, _, _, Hrg.out, Hm.out, Hcd.out, Hbw.out⟩
      case round =>
        clear Hrg Hm Hcd Hbw Hr
        obtain ⟨left, cnt, fl, hrg, hm, hcd, hbw⟩ := hrel
        rcases run_next (P := Try.prog) hrg 0 with ⟨h0, hall, hnext⟩ | ⟨p, w1, cnt1, hp, hlp, hnext, hrg1, hlt1, hon, hsz, hent⟩
        · have hlen : ∀ ty, (Builtin.len_ #[65] ty #[.map (some w.heap.size)]).run Try.prog wr = .ok (.int .i64 (fl.length : Int)) wr := fun _ => run_len Try.underlying65 hm
          have hend := Lib.hid (fun (v : Value) (hv : v = .int .i64 (fl.length : Int)) => hcd.done HB.out hall hm.nodup hbw hv)
          clear hall hrg hm hcd hbw
          go_wp2
          go_ret
          exact hend.out _ rfl
        · have hbw1 : Below w.heap.size w w1 := hbw.trans ⟨hon.os, hon.tape, hon.output, hon.size, fun i hi => hon.block i (Nat.lt_of_lt_of_le hi hbw.size) (by omega)⟩
          have hm1 := hm.only hon (by omega)
          obtain ⟨cs, hcs⟩ := HB.out.sesCells hp
          obtain ⟨n, hlook, W, hW⟩ := found_step hm1 (counted_ok HB.out (Nat.le_refl 4) hcd hbw1) ((hbw1.block _ (Array.getElem?_eq_some_iff.1 hcs).1).trans hcs)
          have hupd := fun v => (hW v).1
          have hnd := HB.out.ses.nodup
          have hmr : B.m ≠ w.heap.size := by omega
          have hrel : Hid (∀ v, Ranging (W v) B.m r intV ptrV B.s (fun x => left x && !decide (x = p.1)) cnt1 ∧ MapIs (W v) w.heap.size ptrV intV (ups fl p.2 v) ∧ Counted B 4 (fun x => left x && !decide (x = p.1)) (ups fl p.2 v) ∧ Below w.heap.size w (W v)) := fun v =>
            ⟨hrg1.only (hW v).2.2.1 hmr (by omega), (hW v).2.1, hcd.session hnd hp v, hbw1.trans ⟨(hW v).2.2.1.os, (hW v).2.2.1.tape, (hW v).2.2.1.output, (hW v).2.2.1.size, fun i hi => (hW v).2.2.1.block i (Nat.lt_of_lt_of_le hi hbw1.size) (by show ¬ i = w.heap.size; omega)⟩⟩
          have hmeas : Hid (∀ v, (W v).rangeLeft B.m r < wr.rangeLeft B.m r) := fun v => by rw [(hrel.out v).1.left_eq, hrg.left_eq]; exact hlt1
          unfold ptrV at hlook hupd
          unfold ptrV intV at hnext hent
          clear hW hcs hcd hm hbw hbw1 hm1 hrg hrg1 hon hsz hlt1 hlp hp hnd
          go_wp2
          go_roundw
          case rel => exact ⟨_, _, _, hrel.out _⟩
          case measure => exact hmeas.out _
end Go.Proofs.Ytgheokocdfgjpaa
