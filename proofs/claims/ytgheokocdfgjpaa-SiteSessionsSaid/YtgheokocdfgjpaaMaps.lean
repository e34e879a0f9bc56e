/- Plain laws on the blocks of maps and on what a call may change in memory, for the four statements about package site. -/
import Derived.WalkKit
import Derived.WalkSpells
import Derived.WalkLawsBesides
import Derived.Maps.RangeWalk
import Derived.LaidEqlPtr
import Derived.Deep.Draws
namespace Go.Proofs.Ytgheokocdfgjpaa
open Go.RowKit Go.MapKept Go.ChangeMaps Go.Maps

/-! ### 1. Lists of pairs as maps -/
section
variable {K V : Type} [DecidableEq K]

def asc : List (K × V) → K → Option V
  | [], _ => none
  | p :: r, x => if p.1 = x then some p.2 else asc r x

def ups : List (K × V) → K → V → List (K × V)
  | [], x, v => [(x, v)]
  | p :: r, x, v => if p.1 = x then (x, v) :: r else p :: ups r x v

def del : List (K × V) → K → List (K × V)
  | [], _ => []
  | p :: r, x => if p.1 = x then r else p :: del r x

theorem asc_none {l : List (K × V)} {x : K} : asc l x = none ↔ ∀ p ∈ l, p.1 ≠ x := by
  induction l with
  | nil => simp [asc]
  | cons p r ih =>
    unfold asc
    by_cases h : p.1 = x <;> simp [h, ih]

theorem asc_mem {l : List (K × V)} {x : K} {v : V} (h : asc l x = some v) : (x, v) ∈ l := by
  induction l with
  | nil => simp [asc] at h
  | cons p r ih =>
    unfold asc at h
    by_cases hp : p.1 = x
    · simp [hp] at h
      subst h; subst hp
      simp
    · simp [hp] at h
      exact List.mem_cons_of_mem _ (ih h)

theorem asc_of_mem {l : List (K × V)} (hn : (l.map (·.1)).Nodup) {x : K} {v : V} (h : (x, v) ∈ l) : asc l x = some v := by
  induction l with
  | nil => simp at h
  | cons p r ih =>
    unfold asc
    simp only [List.map_cons, List.nodup_cons] at hn
    rcases List.mem_cons.1 h with rfl | h
    · simp
    · have : p.1 ≠ x := fun e => hn.1 (by rw [e]; exact List.mem_map.2 ⟨(x, v), h, rfl⟩)
      simp [this, ih hn.2 h]

theorem asc_ups (l : List (K × V)) (x : K) (v : V) (y : K) : asc (ups l x v) y = if x = y then some v else asc l y := by
  induction l with
  | nil => simp [ups, asc]
  | cons p r ih =>
    unfold ups
    by_cases hp : p.1 = x
    · simp only [hp, if_true, asc]
      by_cases hy : x = y <;> simp [hy]
    · simp only [hp, if_false, asc, ih]
      by_cases hy : p.1 = y
      · have : ¬ x = y := fun e => hp (hy.trans e.symm)
        simp [hy, this]
      · simp [hy]

theorem ups_keys {l : List (K × V)} {x : K} {v : V} {p : K × V} (h : p ∈ ups l x v) : p = (x, v) ∨ (p ∈ l ∧ p.1 ≠ x ∨ p ∈ l) := by
  induction l with
  | nil => simp [ups] at h; exact .inl h
  | cons q r ih =>
    unfold ups at h
    by_cases hp : q.1 = x
    · simp only [hp, if_true, List.mem_cons] at h
      rcases h with h | h
      · exact .inl h
      · exact .inr (.inr (List.mem_cons_of_mem _ h))
    · simp only [hp, if_false, List.mem_cons] at h
      rcases h with h | h
      · exact .inr (.inr (h ▸ List.mem_cons_self))
      · rcases ih h with h | h
        · exact .inl h
        · rcases h with h | h
          · exact .inr (.inr (List.mem_cons_of_mem _ h.1))
          · exact .inr (.inr (List.mem_cons_of_mem _ h))

theorem ups_new {l : List (K × V)} {x : K} (h : asc l x = none) (v : V) : ups l x v = l ++ [(x, v)] := by
  induction l with
  | nil => rfl
  | cons p r ih =>
    unfold asc at h
    by_cases hp : p.1 = x
    · simp [hp] at h
    · simp only [hp, if_false] at h
      simp [ups, hp, ih h]

theorem length_ups (l : List (K × V)) (x : K) (v : V) : (ups l x v).length = l.length + if (asc l x).isSome then 0 else 1 := by
  induction l with
  | nil => simp [ups, asc]
  | cons p r ih =>
    unfold ups asc
    by_cases hp : p.1 = x
    · simp [hp]
    · simp only [hp, if_false, List.length_cons, ih]; omega

theorem keys_ups (l : List (K × V)) (x : K) (v : V) : (ups l x v).map (·.1) = if (asc l x).isSome then l.map (·.1) else l.map (·.1) ++ [x] := by
  induction l with
  | nil => simp [ups, asc]
  | cons p r ih =>
    unfold ups asc
    by_cases hp : p.1 = x
    · simp [hp]
    · simp only [hp, if_false, List.map_cons, ih]
      split <;> simp

theorem asc_del {l : List (K × V)} (hn : (l.map (·.1)).Nodup) (x y : K) : asc (del l x) y = if x = y then none else asc l y := by
  induction l with
  | nil => simp [del, asc]
  | cons p r ih =>
    simp only [List.map_cons, List.nodup_cons] at hn
    unfold del
    by_cases hp : p.1 = x
    · simp only [hp, if_true]
      by_cases hy : x = y
      · subst hy
        simp only [if_true]
        exact asc_none.2 fun q hq e => hn.1 (by rw [hp, ← e]; exact List.mem_map.2 ⟨q, hq, rfl⟩)
      · simp only [hy, if_false, asc]
        simp [hp, hy]
    · simp only [hp, if_false, asc, ih hn.2]
      by_cases hy : p.1 = y
      · have : ¬ x = y := fun e => hp (hy.trans e.symm)
        simp [hy, this]
      · simp [hy]

theorem del_sub (l : List (K × V)) (x : K) : (del l x).Sublist l := by
  induction l with
  | nil => exact List.Sublist.refl _
  | cons p r ih =>
    unfold del
    by_cases hp : p.1 = x
    · simp [hp]
    · simp [hp, ih]

theorem length_del {l : List (K × V)} {x : K} {v : V} (h : asc l x = some v) : (del l x).length + 1 = l.length := by
  induction l with
  | nil => simp [asc] at h
  | cons p r ih =>
    unfold asc at h
    unfold del
    by_cases hp : p.1 = x
    · simp [hp]
    · simp only [hp, if_false] at h ⊢
      simp [ih h]

theorem del_none {l : List (K × V)} {x : K} (h : asc l x = none) : del l x = l := by
  induction l with
  | nil => rfl
  | cons p r ih =>
    unfold asc at h
    unfold del
    by_cases hp : p.1 = x
    · simp [hp] at h
    · simp only [hp, if_false] at h ⊢
      rw [ih h]
end

/-! ### 2. What a piece of code may have changed -/

/-- Nothing of w has changed but blocks in F and blocks that are new. -/
structure Only (F : Nat → Prop) (w w' : World) : Prop where
  os : w'.os = w.os
  tape : w'.tape = w.tape
  output : w'.output = w.output
  size : w.heap.size ≤ w'.heap.size
  block : ∀ i, i < w.heap.size → ¬ F i → w'.heap[i]? = w.heap[i]?

section
variable {F G : Nat → Prop} {a w w' : World}
theorem Only.refl (F : Nat → Prop) (w : World) : Only F w w := ⟨rfl, rfl, rfl, Nat.le_refl _, fun _ _ _ => rfl⟩
theorem Only.trans (h : Only F a w) (k : Only G w w') (hG : ∀ i, i < a.heap.size → G i → F i) : Only F a w' :=
  ⟨k.os.trans h.os, k.tape.trans h.tape, k.output.trans h.output, Nat.le_trans h.size k.size, fun i hi hF => (k.block i (Nat.lt_of_lt_of_le hi h.size) (fun hg => hF (hG i hi hg))).trans (h.block i hi hF)⟩
theorem Only.mono (h : Only F w w') (hG : ∀ i, i < w.heap.size → F i → G i) : Only G w w' := ⟨h.os, h.tape, h.output, h.size, fun i hi hg => h.block i hi (fun hf => hg (hG i hi hf))⟩
theorem Only.drew (h : Only F a w) : Only F a w.drew := ⟨h.os, h.tape, h.output, h.size, h.block⟩
theorem Only.drewN (h : Only F a w) (n : Nat) : Only F a (w.drewN n) := ⟨h.os, h.tape, h.output, h.size, h.block⟩
theorem Only.alloc (h : Only F a w) (o : Obj) : Only F a (w.alloc o) :=
  ⟨h.os, h.tape, h.output, Nat.le_trans h.size (by simp), fun i hi hf => (Below.heap_alloc w o i (Nat.lt_of_lt_of_le hi h.size)).trans (h.block i hi hf)⟩
theorem Only.setCell (h : Only F a w) {p : Addr} (hp : p.block < a.heap.size → F p.block) (u : Value) : Only F a (w.setCell p u) :=
  ⟨h.os, h.tape, h.output, by simpa using h.size, fun i hi hf => (Below.heap_setCell w p u i (fun e => hf (by subst e; exact hp hi))).trans (h.block i hi hf)⟩
theorem Only.of_below (h : Below w.heap.size w w') (F : Nat → Prop) : Only F w w' := ⟨h.os, h.tape, h.output, h.size, fun i hi _ => h.block i hi⟩
theorem Only.below (h : Only (fun _ => False) w w') : Below w.heap.size w w' := ⟨h.os, h.tape, h.output, h.size, fun i hi => h.block i hi (fun x => x)⟩
theorem Only.of_grown {row : Option Nat} (h : w.grownBy w' row) (hF : ∀ i, row = some i → i < w.heap.size → F i) : Only F w w' :=
  ⟨h.os, h.tape, h.output, h.size, fun i hi hf => h.block i hi (fun e => hf (hF i e.symm hi))⟩
theorem Only.cell (h : Only F w w') {p : Addr} (hp : p.block < w.heap.size) (hF : ¬ F p.block) : w'.cell? p = w.cell? p := World.cell?_of_block (h.block p.block hp hF)
theorem Only.frozen (h : Only F w w') {p : Addr} (hp : p.block < w.heap.size) (hF : ¬ F p.block) : w'.frozen? p = w.frozen? p := World.frozen?_of_block (h.block p.block hp hF)
end

theorem Only.setBlock {F : Nat → Prop} {a w : World} (h : Only F a w) {b : Nat} (hb : b < a.heap.size → F b) (o : Obj) : Only F a (setBlock w b o) := by
  refine ⟨h.os, h.tape, h.output, by simpa [ChangeMaps.setBlock] using h.size, fun i hi hf => ?_⟩
  refine Eq.trans ?_ (h.block i hi hf)
  simp only [ChangeMaps.setBlock]
  rw [Array.getElem?_setIfInBounds]
  rw [if_neg (fun e => hf (by subst e; exact hb hi))]

/-! ### 3. A block that is a map -/

/-- Block b of w is a map with the entries l, in the order in which they were made. -/
def MapAt (w : World) (b : Nat) (l : List (Value × Value)) : Prop :=
  ∃ es clock, w.heap[b]? = some (.map es clock) ∧ Stamped es clock ∧ es.toList.map (fun e => (e.key, e.val)) = l

theorem MapAt.lt {w : World} {b : Nat} {l : List (Value × Value)} (h : MapAt w b l) : b < w.heap.size := by
  obtain ⟨es, clock, hb, _⟩ := h
  exact (Array.getElem?_eq_some_iff.1 hb).1

theorem MapAt.kept {w w' : World} {b : Nat} {l : List (Value × Value)} (h : MapAt w b l) (hb : w'.heap[b]? = w.heap[b]?) : MapAt w' b l := by
  obtain ⟨es, clock, h1, h2⟩ := h
  exact ⟨es, clock, hb.trans h1, h2⟩

theorem MapAt.only {F : Nat → Prop} {w w' : World} {b : Nat} {l : List (Value × Value)} (h : MapAt w b l) (hk : Only F w w') (hF : ¬ F b) : MapAt w' b l := h.kept (hk.block b h.lt hF)

theorem MapAt.made (w : World) : MapAt (w.alloc (.map #[] 0)) w.heap.size [] := by
  refine ⟨#[], 0, ?_, stamped_empty 0, rfl⟩
  show (w.heap.push _)[w.heap.size]? = _
  simp

theorem MapAt.nodup {w : World} {b : Nat} {l : List (Value × Value)} (h : MapAt w b l) : (l.map (·.1)).Nodup := by
  obtain ⟨es, clock, _, hs, rfl⟩ := h
  have := hs.2.2
  simpa [List.map_map, Function.comp_def] using this

/-- What a map's operations need of its keys: the values for which ok holds are found by looking, and are neither refused nor changed. -/
structure KeyOk (P : Program) (w : World) (k : TypeId) (ok : Value → Prop) : Prop where
  find : ∀ {x : Value} (es : List MapEntry), ok x → (∀ e ∈ es, ok e.key) →
    ((Instr.findKey k x es).run P w = .ok none w ∧ ∀ e ∈ es, e.key ≠ x) ∨ ∃ j e, (Instr.findKey k x es).run P w = .ok (some (j, e.val)) w ∧ es[j]? = some e ∧ e.key = x
  check : ∀ (em : Bool) {x : Value}, ok x → (Instr.checkKey em 10000 k x).run P w = .ok () w
  stays : ∀ {x : Value}, ok x → (Instr.keyThatStays x x).run P w = .ok x w

theorem KeyOk.of_keyed {P : Program} {k : TypeId} (h : Keyed P k) (w : World) : KeyOk P w k (fun v => ∃ l, keyOf P k v = some l) :=
  ⟨fun es ⟨_, hx⟩ he => h.find w hx es he, fun em _ ⟨_, hx⟩ => h.check w em hx, fun ⟨_, hx⟩ => h.stays w hx⟩


/-- Block b is a map with the entries l, read by kf and vf. -/
def MapIs {K V : Type} (w : World) (b : Nat) (kf : K → Value) (vf : V → Value) (l : List (K × V)) : Prop := MapAt w b (l.map fun p => (kf p.1, vf p.2))

section
variable {w w' : World} {b : Nat} {K V : Type} {kf : K → Value} {vf : V → Value} {l : List (K × V)}
theorem MapIs.lt (h : MapIs w b kf vf l) : b < w.heap.size := MapAt.lt h
theorem MapIs.kept (h : MapIs w b kf vf l) (hb : w'.heap[b]? = w.heap[b]?) : MapIs w' b kf vf l := MapAt.kept h hb
theorem MapIs.only {F : Nat → Prop} (h : MapIs w b kf vf l) (hk : Only F w w') (hF : ¬ F b) : MapIs w' b kf vf l := MapAt.only h hk hF
theorem MapIs.made (w : World) : MapIs (K := K) (V := V) (w.alloc (.map #[] 0)) w.heap.size kf vf [] := MapAt.made w

theorem MapIs.nodup (h : MapIs w b kf vf l) : (l.map (·.1)).Nodup := by
  have := MapAt.nodup h
  rw [List.map_map] at this
  have h2 : (l.map (·.1)).map kf = l.map ((fun p : Value × Value => p.1) ∘ fun p => (kf p.1, vf p.2)) := by simp [List.map_map, Function.comp_def]
  rw [← h2] at this
  exact (List.pairwise_map.1 this).imp fun {a b} hne e => hne (by rw [e])
end

section
variable {K V : Type} [DecidableEq K] {l : List (K × V)}
theorem asc_at (hn : (l.map (·.1)).Nodup) {j : Nat} {x : K} {v : V} (h : l[j]? = some (x, v)) : asc l x = some v := asc_of_mem hn (List.mem_of_getElem? h)

theorem ups_at (hn : (l.map (·.1)).Nodup) {j : Nat} {x : K} {u v : V} (h : l[j]? = some (x, u)) : ups l x v = l.set j (x, v) := by
  induction l generalizing j with
  | nil => simp at h
  | cons p r ih =>
    simp only [List.map_cons, List.nodup_cons] at hn
    cases j with
    | zero =>
      simp only [List.getElem?_cons_zero, Option.some.injEq] at h
      subst h
      simp [ups]
    | succ j =>
      simp only [List.getElem?_cons_succ] at h
      have : p.1 ≠ x := fun e => hn.1 (by rw [e]; exact List.mem_map.2 ⟨(x, u), List.mem_of_getElem? h, rfl⟩)
      simp [ups, this, ih hn.2 h]

theorem del_at (hn : (l.map (·.1)).Nodup) {j : Nat} {x : K} {u : V} (h : l[j]? = some (x, u)) : del l x = l.eraseIdx j := by
  induction l generalizing j with
  | nil => simp at h
  | cons p r ih =>
    simp only [List.map_cons, List.nodup_cons] at hn
    cases j with
    | zero =>
      simp only [List.getElem?_cons_zero, Option.some.injEq] at h
      subst h
      simp [del]
    | succ j =>
      simp only [List.getElem?_cons_succ] at h
      have : p.1 ≠ x := fun e => hn.1 (by rw [e]; exact List.mem_map.2 ⟨(x, u), List.mem_of_getElem? h, rfl⟩)
      simp [del, this, ih hn.2 h]
end

section
variable {P : Program} {w : World} {t k e b : Nat} {ok : Value → Prop} {K V : Type} [DecidableEq K] {kf : K → Value} {vf : V → Value} {l : List (K × V)}

theorem find_asc (hinj : ∀ x y, kf x = kf y → x = y) (hok : ∀ p ∈ l, ok (kf p.1)) {es : List MapEntry} (hes : es.map (fun e => (e.key, e.val)) = l.map fun p => (kf p.1, vf p.2)) (hn : (l.map (·.1)).Nodup) {x : K} (hx : ok (kf x)) (Kk : KeyOk P w k ok) :
    ((Instr.findKey k (kf x) es).run P w = .ok none w ∧ asc l x = none ∧ ∀ e ∈ es, e.key ≠ kf x) ∨
     ∃ j e v, (Instr.findKey k (kf x) es).run P w = .ok (some (j, e.val)) w ∧ es[j]? = some e ∧ l[j]? = some (x, v) ∧ e.key = kf x ∧ e.val = vf v ∧ asc l x = some v := by
  have hat : ∀ j : Nat, (es[j]?).map (fun e => (e.key, e.val)) = (l[j]?).map fun p => (kf p.1, vf p.2) := fun j => by
    have := congrArg (fun q : List (Value × Value) => q[j]?) hes
    simpa using this
  have hke : ∀ e ∈ es, ok e.key := fun e he => by
    obtain ⟨j, hj⟩ := List.getElem?_of_mem he
    have := hat j
    rw [hj] at this
    cases hl : l[j]? with
    | none => rw [hl] at this; simp at this
    | some p =>
      rw [hl] at this
      simp only [Option.map_some, Option.some.injEq, Prod.mk.injEq] at this
      rw [this.1]
      exact hok p (List.mem_of_getElem? hl)
  rcases Kk.find es hx hke with ⟨h1, h2⟩ | ⟨j, e, h1, h2, h3⟩
  · refine .inl ⟨h1, asc_none.2 fun p hp e => ?_, h2⟩
    obtain ⟨j, hj⟩ := List.getElem?_of_mem hp
    have := hat j
    rw [hj] at this
    cases hl : es[j]? with
    | none => rw [hl] at this; simp at this
    | some q =>
      rw [hl] at this
      simp only [Option.map_some, Option.some.injEq, Prod.mk.injEq] at this
      exact h2 q (List.mem_of_getElem? hl) (by rw [this.1, e])
  · have := hat j
    rw [h2] at this
    cases hl : l[j]? with
    | none => rw [hl] at this; simp at this
    | some p =>
      obtain ⟨a, v⟩ := p
      rw [hl] at this
      simp only [Option.map_some, Option.some.injEq, Prod.mk.injEq] at this
      have hxa : a = x := hinj _ _ (by rw [← this.1, h3])
      subst hxa
      exact .inr ⟨j, e, v, h1, h2, hl, h3, this.2, asc_at hn hl⟩

/-- 'm[k]' and 'v, ok := m[k]'. -/
theorem run_lookup (c : Bool) (ht : P.underlying t = some (.map k e)) {z : Value} (hz : (zeroValue e).run P w = .ok z w) (Kk : KeyOk P w k ok) (hinj : ∀ x y, kf x = kf y → x = y) (h : MapIs w b kf vf l) (hok : ∀ p ∈ l, ok (kf p.1)) {x : K} (hx : ok (kf x)) :
    (Instr.lookup t (.map (some b)) (kf x) c).run P w = .ok (if c then .tuple #[((asc l x).map vf).getD z, .bool (asc l x).isSome] else ((asc l x).map vf).getD z) w := by
  have hn := h.nodup
  obtain ⟨es, clock, hb, hs, hes⟩ := h
  rcases find_asc hinj hok hes hn hx Kk with ⟨h1, h2, h3⟩ | ⟨j, e0, v, h1, h2, h3, h4, h5, h6⟩
  · simp [Instr.lookup, run_underlying ht, MapKept.run_getObj_map hb, Kk.check _ hx, h1, h2, hz, Result.andThen]
  · simp [Instr.lookup, run_underlying ht, MapKept.run_getObj_map hb, Kk.check _ hx, h1, h6, h5, Result.andThen]

/-- 'm[k] = v'. -/
theorem run_update (ht : P.underlying t = some (.map k e)) (Kk : KeyOk P w k ok) (hinj : ∀ x y, kf x = kf y → x = y) (h : MapIs w b kf vf l) (hok : ∀ p ∈ l, ok (kf p.1)) {x : K} (hx : ok (kf x)) (v : V) :
    ∃ o, (Instr.mapUpdate t (.map (some b)) (kf x) (vf v)).run P w = .ok () (setBlock w b o) ∧ MapIs (setBlock w b o) b kf vf (ups l x v) := by
  have hn := h.nodup
  obtain ⟨es, clock, hb, hs, hes⟩ := h
  rcases find_asc hinj hok hes hn hx Kk with ⟨h1, h2, h3⟩ | ⟨j, e0, u, h1, h2, h3, h4, h5, h6⟩
  · refine ⟨.map (es.push ⟨kf x, vf v, clock⟩) (clock + 1), ?_, es.push ⟨kf x, vf v, clock⟩, clock + 1, heap_setBlock_same hb _, stamped_push hs h3, ?_⟩
    · simp [Instr.mapUpdate, run_underlying ht, MapKept.run_getObj_map hb, Kk.check _ hx, h1, MapKept.run_setObj_map _ hb, Result.andThen, setBlock]
    · rw [ups_new h2]
      simp [hes]
  · have hj : es[j]? = some e0 := by simpa using h2
    refine ⟨.map (es.modify j fun e' => { e' with key := kf x, val := vf v }) clock, ?_, es.modify j fun e' => { e' with key := kf x, val := vf v }, clock, heap_setBlock_same hb _, stamped_modify hs _ _ (fun _ _ => rfl) (fun e' _ he' => by rw [hj] at he'; cases he'; exact h4.symm), ?_⟩
    · simp [Instr.mapUpdate, run_underlying ht, MapKept.run_getObj_map hb, Kk.check _ hx, h1, hj, h4, Kk.stays hx, MapKept.run_setObj_map _ hb, Result.andThen, setBlock]
    · rw [ups_at hn h3, Array.toList_modify, modify_eq_set _ _ _ _ h2, List.map_set, hes, List.map_set]

/-- 'delete(m, k)'. -/
theorem run_delete {ty : TypeId} (ht : P.underlying t = some (.map k e)) (Kk : KeyOk P w k ok) (hinj : ∀ x y, kf x = kf y → x = y) (h : MapIs w b kf vf l) (hok : ∀ p ∈ l, ok (kf p.1)) {x : K} (hx : ok (kf x)) :
    ∃ o, (Builtin.delete_ #[t, k] ty #[.map (some b), kf x]).run P w = .ok (.tuple #[]) (setBlock w b o) ∧ MapIs (setBlock w b o) b kf vf (del l x) := by
  have hn := h.nodup
  obtain ⟨es, clock, hb, hs, hes⟩ := h
  rcases find_asc hinj hok hes hn hx Kk with ⟨h1, h2, h3⟩ | ⟨j, e0, u, h1, h2, h3, h4, h5, h6⟩
  · refine ⟨.map es clock, ?_, es, clock, heap_setBlock_same hb _, hs, ?_⟩
    · simp [Builtin.delete_, run_underlying ht, MapKept.run_getObj_map hb, Kk.check _ hx, h1, MapKept.run_setObj_map _ hb, Result.andThen, setBlock]
    · rw [del_none h2, hes]
  · have hjl : j < es.size := by
      have := (List.getElem?_eq_some_iff.1 h2).1
      simpa using this
    have hsub : (es.eraseIdxIfInBounds j).toList = es.toList.eraseIdx j := by
      unfold Array.eraseIdxIfInBounds
      rw [dif_pos hjl]
      simp
    refine ⟨.map (es.eraseIdxIfInBounds j) clock, ?_, es.eraseIdxIfInBounds j, clock, heap_setBlock_same hb _, stamped_erase hs j, ?_⟩
    · simp [Builtin.delete_, run_underlying ht, MapKept.run_getObj_map hb, Kk.check _ hx, h1, MapKept.run_setObj_map _ hb, Result.andThen, setBlock]
    · rw [hsub, del_at hn h3, map_eraseIdx, map_eraseIdx, hes]

omit [DecidableEq K] in
/-- 'len(m)'. -/
theorem run_len {ty : TypeId} (ht : P.underlying t = some (.map k e)) (h : MapIs w b kf vf l) : (Builtin.len_ #[t] ty #[.map (some b)]).run P w = .ok (.int .i64 (l.length : Int)) w := by
  obtain ⟨es, clock, hb, hs, hes⟩ := h
  have : es.size = l.length := by simpa using congrArg List.length hes
  simp [Builtin.len_, run_underlying ht, MapKept.run_getObj_map hb, this, goInt]
end

/-! ### 4. Ranging over a map that the round does not change -/

/-- Block r is an iterator over the map in block b, whose entries are l; the entries at the keys for which 'left' holds are still to come: cnt of them. -/
def Ranging {K V : Type} (w : World) (b r : Nat) (kf : K → Value) (vf : V → Value) (l : List (K × V)) (left : K → Bool) (cnt : Nat) : Prop :=
  ∃ es clock since seen c0, w.heap[b]? = some (.map es clock) ∧ Stamped es clock ∧ es.toList.map (fun e => (e.key, e.val)) = l.map (fun p => (kf p.1, vf p.2)) ∧
    w.heap[r]? = some (.mapIter (some b) since seen c0) ∧ (∀ x ∈ es.toList, x.born < since) ∧ (leftOf es seen).size = cnt ∧ since ≤ c0 ∧ since ≤ clock ∧
    ∀ (j : Nat) e p, es.toList[j]? = some e → l[j]? = some p → left p.1 = !seen.contains e.born

section
variable {P : Program} {w w' : World} {t k e b r cnt : Nat} {K V : Type} {kf : K → Value} {vf : V → Value} {l : List (K × V)} {left : K → Bool}

theorem Ranging.map (h : Ranging w b r kf vf l left cnt) : MapIs w b kf vf l := by
  obtain ⟨es, clock, since, seen, c0, hb, hs, hes, _⟩ := h
  exact ⟨es, clock, hb, hs, hes⟩

theorem Ranging.lt (h : Ranging w b r kf vf l left cnt) : r < w.heap.size := by
  obtain ⟨es, clock, since, seen, c0, _, _, _, hr, _⟩ := h
  exact (Array.getElem?_eq_some_iff.1 hr).1

theorem Ranging.ne (h : Ranging w b r kf vf l left cnt) : r ≠ b := by
  obtain ⟨es, clock, since, seen, c0, hb, _, _, hr, _⟩ := h
  intro e
  rw [e, hb] at hr
  cases hr

theorem Ranging.kept (h : Ranging w b r kf vf l left cnt) (hb' : w'.heap[b]? = w.heap[b]?) (hr' : w'.heap[r]? = w.heap[r]?) : Ranging w' b r kf vf l left cnt := by
  obtain ⟨es, clock, since, seen, c0, hb, hs, hes, hr, rest⟩ := h
  exact ⟨es, clock, since, seen, c0, hb'.trans hb, hs, hes, hr'.trans hr, rest⟩

theorem Ranging.only {F : Nat → Prop} (h : Ranging w b r kf vf l left cnt) (hk : Only F w w') (hb : ¬ F b) (hr : ¬ F r) : Ranging w' b r kf vf l left cnt :=
  h.kept (hk.block b h.map.lt hb) (hk.block r h.lt hr)

theorem Ranging.left_eq (h : Ranging w b r kf vf l left cnt) : w.rangeLeft b r = cnt := by
  obtain ⟨es, clock, since, seen, c0, hb, _, _, hr, _, hc, _⟩ := h
  simp only [World.rangeLeft, hb, hr]
  exact hc

/-- 'range m'. -/
theorem run_range (ht : P.underlying t = some (.map k e)) (h : MapIs w b kf vf l) :
    ∃ o, (Instr.range t (.map (some b))).run P w = .ok (.pointer (some ⟨w.heap.size, 0, none⟩)) (w.alloc o) ∧ Ranging (w.alloc o) b w.heap.size kf vf l (fun _ => true) l.length := by
  have hlt := h.lt
  obtain ⟨es, clock, hb, hs, hes⟩ := h
  refine ⟨_, run_range_map w t k e b es clock ht hb, es, clock, clock, #[], clock, ((MapKept.heap_alloc w _).2 b hlt).trans hb, hs, hes, (MapKept.heap_alloc w _).1, hs.1, ?_, Nat.le_refl _, Nat.le_refl _, ?_⟩
  · have : es.size = l.length := by simpa using congrArg List.length hes
    simp only [leftOf, Array.contains_empty, Bool.not_false]
    rw [Array.filter_eq_self.2 (fun _ _ => rfl), this]
  · intro j e p _ _
    simp

theorem list_nodup_idx {α β : Type} {f : α → β} {l : List α} (hn : (l.map f).Nodup) {i j : Nat} {x y : α} (hx : l[i]? = some x) (hy : l[j]? = some y) (h : f x = f y) : i = j := by
  have h1 : (l.map f)[i]? = some (f x) := by simp [hx]
  have h2 : (l.map f)[j]? = some (f x) := by simp [hy, h]
  exact (List.getElem?_inj (by simpa using (List.getElem?_eq_some_iff.1 hx).1) hn).1 (h1.trans h2.symm)

/-- The step. -/
theorem run_next [DecidableEq K] (h : Ranging w b r kf vf l left cnt) (ty : TypeId) :
    (cnt = 0 ∧ (∀ p ∈ l, left p.1 = false) ∧ (Instr.next (.pointer (some ⟨r, 0, none⟩)) false ty).run P w = .ok (.tuple #[.bool false]) w) ∨
    ∃ p w' cnt', p ∈ l ∧ left p.1 = true ∧ (Instr.next (.pointer (some ⟨r, 0, none⟩)) false ty).run P w = .ok (.tuple #[.bool true, kf p.1, vf p.2]) w' ∧ Ranging w' b r kf vf l (fun x => left x && !decide (x = p.1)) cnt' ∧ cnt' < cnt ∧
      Only (· = r) w w' ∧ w'.heap.size = w.heap.size ∧ (Instr.entry (.pointer (some ⟨r, 0, none⟩))).run P w' = .ok (.tuple #[kf p.1, vf p.2]) w' := by
  have hne := h.ne
  have hnl := h.map.nodup
  obtain ⟨es, clock, since, seen, c0, hb, hs, hes, hr, hold, rfl, hsc, hsk, hl⟩ := h
  have hlen : es.toList.length = l.length := by simpa using congrArg List.length hes
  have hat : ∀ j : Nat, (es.toList[j]?).map (fun e => (e.key, e.val)) = (l[j]?).map fun p => (kf p.1, vf p.2) := fun j => by
    have := congrArg (fun q : List (Value × Value) => q[j]?) hes
    simpa using this
  rcases run_next_at (P := P) w ty r b since c0 seen es clock hr hb hold hsc with ⟨h0, hrun⟩ | ⟨e, he, w1, hal, hrun⟩
  · refine .inl ⟨h0, fun p hp => ?_, hrun⟩
    obtain ⟨j, hj⟩ := List.getElem?_of_mem hp
    have hjl : j < es.toList.length := by rw [hlen]; exact (List.getElem?_eq_some_iff.1 hj).1
    rw [hl j _ p (List.getElem?_eq_getElem hjl) hj, all_seen es seen h0 _ (List.getElem_mem hjl)]
    rfl
  · obtain ⟨hem, hse⟩ := mem_left he
    obtain ⟨j, hj⟩ := List.getElem?_of_mem hem
    have hjl : j < l.length := by rw [← hlen]; exact (List.getElem?_eq_some_iff.1 hj).1
    have hp : l[j]? = some l[j] := List.getElem?_eq_getElem hjl
    have hkv := hat j
    rw [hj, hp] at hkv
    simp only [Option.map_some, Option.some.injEq, Prod.mk.injEq] at hkv
    have hr1 : w1.heap[r]? = some (.mapIter (some b) since seen c0) := by rcases hal with rfl | rfl <;> exact hr
    have hb1 : w1.heap[b]? = some (.map es clock) := by rcases hal with rfl | rfl <;> exact hb
    have hset := heap_set (o' := .mapIter (some b) since (seen.push e.born) clock) hr1
    have hb' : (setBlock w1 r (.mapIter (some b) since (seen.push e.born) clock)).heap[b]? = some (.map es clock) := (hset.2 b (fun e1 => hne e1.symm)).trans hb1
    rw [hkv.1, hkv.2] at hrun
    refine .inr ⟨l[j], _, _, List.getElem_mem hjl, ?_, hrun, ⟨es, clock, since, seen.push e.born, clock, hb', hs, hes, hset.1, hold, rfl, hsk, hsk, ?_⟩, left_shrinks es seen e he, ?_, ?_, ?_⟩
    · rw [hl j e _ hj hp, hse]; rfl
    · intro i x p hi hpi
      show (left p.1 && !decide (p.1 = l[j].1)) = _
      rw [hl i x p hi hpi, contains_push]
      by_cases hij : i = j
      · subst hij
        rw [hp] at hpi
        rw [hj] at hi
        cases hpi; cases hi
        simp
      · have h1 : ¬ p.1 = l[j].1 := fun e1 => hij (list_nodup_idx hnl hpi hp e1)
        have h2 : ¬ x.born = e.born := fun e1 => hij (list_nodup_idx hs.2.1 hi hj e1)
        simp [h1, h2]
    · rcases hal with rfl | rfl <;> exact ⟨rfl, rfl, rfl, by simp [setBlock], fun i _ hi => hset.2 i hi⟩
    · rcases hal with rfl | rfl <;> simp [setBlock]
    · have := run_entry_at (P := P) _ r b since seen es clock e hset.1 hb' hem hs.2.1
      rw [hkv.1, hkv.2] at this
      exact this
end

end Go.Proofs.Ytgheokocdfgjpaa
