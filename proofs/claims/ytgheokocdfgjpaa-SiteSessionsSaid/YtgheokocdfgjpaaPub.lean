/- What Publish of package site does, in plain terms. -/
import Derived.Test.YtgheokocdfgjpaaPurge
namespace Go.Proofs.Ytgheokocdfgjpaa
open Go.RowKit Go.MapKept Go.ChangeMaps Go.Maps Go.WideMaps

/-- The map that pages amount to. -/
def mkm (L : List (BA × BA)) : List (BA × BA) := L.foldl (fun m p => ups m p.1 p.2) []

theorem mkm_take (L : List (BA × BA)) (k : Nat) (p : BA × BA) (h : L[k]? = some p) : mkm (L.take (k + 1)) = ups (mkm (L.take k)) p.1 p.2 := by
  unfold mkm
  rw [List.take_add_one, h]
  simp [List.foldl_append]

/-- v is a slice of the pages L. -/
def PagesAt (w : World) (v : Value) (L : List (BA × BA)) : Prop :=
  (∀ p ∈ L, p.1.size ≤ 1000 ∧ p.2.size ≤ 1000) ∧ L.length ≤ 1000 ∧
  ((v = .slice none 0 0 ∧ L = []) ∨ ∃ g cap, v = .slice (some ⟨g, 0, none⟩) L.length cap ∧ g < w.heap.size ∧ ∀ (i : Nat) p, L[i]? = some p →
    w.cell? ⟨g, i * 3, none⟩ = some (.string p.1) ∧ w.cell? ⟨g, i * 3 + 1, none⟩ = some (.string p.2) ∧ ∃ A n c, w.cell? ⟨g, i * 3 + 2, none⟩ = some (.slice A n c))

def pubOk (c : Int) (L : List (BA × BA)) : Bool := isClass c && decide ((mkm L).length = L.length)
def pubR (c : Int) (L : List (BA × BA)) : Int := if pubOk c L then 0 else 250
/-- What a session reads after the call. -/
def pubQ (c : Int) (L : List (BA × BA)) (pg : Bool) (q : Int × (BA → Option BA)) : Int × (BA → Option BA) := (q.1, if pg && decide (q.1 = c) then purgeF q.2 (asc (mkm L)) else q.2)
def pubA (A : AS) (c : Int) (L : List (BA × BA)) (pg : Bool) : AS :=
  if pubOk c L then { A with cur := fun i => if (i : Int) = c then asc (mkm L) else A.cur i, ses := A.ses.map fun q => (q.1, pubQ c L pg q.2) } else A

theorem pub_no_A {A : AS} {c : Int} {L : List (BA × BA)} {pg : Bool} (h : pubOk c L = false) : pubA A c L pg = A := by unfold pubA; rw [if_neg (by simp [h])]
theorem pub_no_R {c : Int} {L : List (BA × BA)} (h : pubOk c L = false) : pubR c L = 250 := by unfold pubR; rw [if_neg (by simp [h])]
theorem pub_ok_R {c : Int} {L : List (BA × BA)} (h : pubOk c L = true) : pubR c L = 0 := by unfold pubR; rw [if_pos h]

theorem map_inj {α β : Type} {f : α → β} (hf : ∀ x y, f x = f y → x = y) : ∀ {l l' : List α}, l.map f = l'.map f → l = l'
  | [], [], _ => rfl
  | [], _ :: _, h => by simp at h
  | _ :: _, [], h => by simp at h
  | a :: r, b :: r', h => by
    simp only [List.map_cons, List.cons.injEq] at h
    rw [hf _ _ h.1, map_inj hf h.2]

theorem MapIs.uniq {w : World} {t : Nat} {l l' : List (BA × BA)} (h : MapIs w t Value.string Value.string l) (h' : MapIs w t Value.string Value.string l') : l = l' := by
  obtain ⟨es, c, h1, _, h3⟩ := h
  obtain ⟨es', c', h1', _, h3'⟩ := h'
  rw [h1] at h1'
  cases h1'
  rw [h3] at h3'
  exact map_inj (fun x y e => by
    obtain ⟨x1, x2⟩ := x
    obtain ⟨y1, y2⟩ := y
    simpa using e) h3'

theorem SnapAt.uniq {F G : Nat → Prop} {w : World} {b : Nat} {c c' : Int} {f f' : BA → Option BA} (h : SnapAt F w b c f) (h' : SnapAt G w b c' f') : c = c' ∧ f = f' := by
  obtain ⟨t, l, _, _, h1, h2, rfl⟩ := h
  obtain ⟨t', l', _, _, h1', h2', rfl⟩ := h'
  rw [h1] at h1'
  simp [intV] at h1'
  obtain ⟨rfl, rfl⟩ := h1'
  exact ⟨rfl, by rw [h2.1.uniq h2'.1]⟩

theorem SnapAt.only {F G : Nat → Prop} {w w' : World} {b x : Nat} {c : Int} {f : BA → Option BA} (h : SnapAt F w b c f) (hk : Only (· = x) w w') (hx : ∃ cs T, w.heap[x]? = some (.cells cs T (0, 0))) (hb : b ≠ x) (hG : ∀ i, F i → G i) : SnapAt G w' b c f := by
  obtain ⟨t, l, fb, ft, h1, h2, h3⟩ := h
  refine ⟨t, l, hG _ fb, hG _ ft, (hk.block b (Array.getElem?_eq_some_iff.1 h1).1 hb).trans h1, h2.only hk ?_, h3⟩
  rintro rfl
  obtain ⟨cs, T, hx⟩ := hx
  obtain ⟨es, cl, h4, _⟩ := h2.1
  rw [hx] at h4
  cases h4

structure PubInv (F : Nat → Prop) (w : World) (s k : Nat) (A : AS) (B : Bk) (T nb : Nat) (L : List (BA × BA)) (pg : Bool) (left : Int → Bool) (v : World) : Prop where
  only : Only F w v
  top : v.heap[s]? = some (.cells #[ptrV (if 0 = k then nb else B.c 0), ptrV (if 1 = k then nb else B.c 1), ptrV (if 2 = k then nb else B.c 2), ptrV (if 3 = k then nb else B.c 3), .map (some B.m), intV A.opened] 55 (0, 0))
  snap : v.heap[nb]? = some (.cells #[intV k, .map (some T)] 58 (0, 0))
  txt : SMap v T (mkm L)
  nb0 : w.heap.size ≤ nb
  T0 : w.heap.size ≤ T
  cur : ∀ i, i < 4 → i ≠ k → SnapAt (Sub (fun i => F i ∨ w.heap.size ≤ i) s B.m) v (B.c i) (i : Int) (A.cur i)
  at_ : ∀ (j : Nat) p q, B.s[j]? = some p → A.ses[j]? = some q →
    SnapAt (Sub (fun i => F i ∨ w.heap.size ≤ i) s B.m) v p.2 (pubQ k L pg q.2).1 (pubQ k L pg q.2).2 ∨ (SnapAt (Sub (fun i => F i ∨ w.heap.size ≤ i) s B.m) v p.2 q.2.1 q.2.2 ∧ left p.1 = true)

section
variable {F : Nat → Prop} {w : World} {s k : Nat} {A : AS} {B : Bk} {T nb : Nat} {L : List (BA × BA)} {pg : Bool} {left : Int → Bool} {v v' : World}

theorem SnapAt.bound {G : Nat → Prop} {b : Nat} {c : Int} {f : BA → Option BA} (h : SnapAt (Sub G s B.m) v b c f) : SnapAt (Sub (fun i => G i ∧ i < v.heap.size) s B.m) v b c f := by
  obtain ⟨t, l, fb, ft, h1, h2, h3⟩ := h
  exact ⟨t, l, ⟨⟨fb.1, (Array.getElem?_eq_some_iff.1 h1).1⟩, fb.2⟩, ⟨⟨ft.1, h2.1.lt⟩, ft.2⟩, h1, h2, h3⟩

/-- At the end of the loop over the sessions. -/
theorem PubInv.done (hB : RepB F w s A B) (hk : k < 4) (hok : pubOk k L = true) (h : PubInv F w s k A B T nb L pg left v) (hl : ∀ p ∈ B.s, left p.1 = false) (hm : MapIs v B.m intV ptrV B.s) : After F w s (pubA A k L pg) v := by
  have hs := hB.lt _ hB.fs
  have hmm := hB.lt _ hB.fm
  have hsz := h.only.size
  refine ⟨fun i => (F i ∨ w.heap.size ≤ i) ∧ i < v.heap.size, ⟨⟨fun i => if i = k then nb else B.c i, B.m, B.s⟩, ?_⟩, h.only, fun i hi hx => hx.1.elim id (fun h => by omega)⟩
  have hA : pubA A k L pg = { A with cur := fun i => if (i : Int) = k then asc (mkm L) else A.cur i, ses := A.ses.map fun q => (q.1, pubQ k L pg q.2) } := by unfold pubA; rw [if_pos hok]
  rw [hA]
  refine ⟨⟨.inl hB.fs, by omega⟩, ⟨.inl hB.fm, Nat.lt_of_lt_of_le hmm hsz⟩, fun i hi => hi.2, h.top, hm, fun i hi => ?_, by simp [hB.keys, List.map_map, Function.comp_def], ?_, ?_, hB.op0, hB.op1⟩
  · dsimp only
    by_cases e : i = k
    · subst e
      have h1 := (Array.getElem?_eq_some_iff.1 h.snap).1
      have h2 := h.txt.1.lt
      have h3 := h.nb0
      have h4 := h.T0
      simp only [if_true]
      exact ⟨T, mkm L, ⟨⟨.inr h3, h1⟩, by omega, by omega⟩, ⟨⟨.inr h4, h2⟩, by omega, by omega⟩, h.snap, h.txt, rfl⟩
    · have e' : ¬ (i : Int) = (k : Int) := by omega
      simp only [e, e', if_false]
      exact (h.cur i hi e).bound
  · intro j p q hp hq
    replace hq : (A.ses.map fun q => (q.1, pubQ k L pg q.2))[j]? = some q := hq
    rw [List.getElem?_map] at hq
    cases hq0 : A.ses[j]? with
    | none => rw [hq0] at hq; simp at hq
    | some q0 =>
      rw [hq0] at hq
      simp only [Option.map_some, Option.some.injEq] at hq
      subst hq
      rcases h.at_ j p q0 hp hq0 with h1 | ⟨_, h2⟩
      · exact h1.bound
      · rw [hl p (List.mem_of_getElem? hp)] at h2
        cases h2
  · intro p hp
    obtain ⟨q, hq, rfl⟩ := List.mem_map.1 hp
    exact hB.rng q hq

/-- What the loop does to blocks that are none of the Site's. -/
theorem PubInv.kept (h : PubInv F w s k A B T nb L pg left v) {r : Nat} (hr : w.heap.size ≤ r) (hk : Only (· = r) v v') (h1 : r ≠ nb) (h2 : ∃ m s sn c, v.heap[r]? = some (.mapIter m s sn c)) (hs : s < w.heap.size) : PubInv F w s k A B T nb L pg left v' := by
  have hT : T ≠ r := by
    rintro rfl
    obtain ⟨_, _, _, _, h2⟩ := h2
    obtain ⟨es, cl, h4, _⟩ := h.txt.1
    rw [h2] at h4
    cases h4
  have hsn : ∀ {b c f}, SnapAt (Sub (fun i => F i ∨ w.heap.size ≤ i) s B.m) v b c f → SnapAt (Sub (fun i => F i ∨ w.heap.size ≤ i) s B.m) v' b c f := fun {b c f} hx => by
    obtain ⟨t, l, fb, ft, h3, h4, h5⟩ := hx
    refine ⟨t, l, fb, ft, (hk.block b (Array.getElem?_eq_some_iff.1 h3).1 ?_).trans h3, h4.only hk ?_, h5⟩
    · rintro rfl
      obtain ⟨_, _, _, _, h2⟩ := h2
      rw [h2] at h3
      cases h3
    · rintro rfl
      obtain ⟨_, _, _, _, h2⟩ := h2
      obtain ⟨es, cl, h6, _⟩ := h4.1
      rw [h2] at h6
      cases h6
  have hsl : s < v.heap.size := Nat.lt_of_lt_of_le hs h.only.size
  exact ⟨h.only.trans hk (fun i hi e => by have : i = r := e; omega), (hk.block s hsl (by omega)).trans h.top, (hk.block nb (Array.getElem?_eq_some_iff.1 h.snap).1 (fun e => h1 e.symm)).trans h.snap, h.txt.only hk hT, h.nb0, h.T0,
    fun i hi hik => hsn (h.cur i hi hik), fun j p q hp hq => (h.at_ j p q hp hq).imp hsn (fun ⟨a, b⟩ => ⟨hsn a, b⟩)⟩

/-- A session that need not be purged. -/
theorem PubInv.skip (h : PubInv F w s k A B T nb L pg left v) (hn : (B.s.map (·.1)).Nodup) {p : Int × Nat} (hp : p ∈ B.s) (hno : ∀ (j : Nat) q, B.s[j]? = some p → A.ses[j]? = some q → (pg && decide (q.2.1 = (k : Int))) = false) :
    PubInv F w s k A B T nb L pg (fun x => left x && !decide (x = p.1)) v := by
  refine ⟨h.only, h.top, h.snap, h.txt, h.nb0, h.T0, h.cur, fun j p' q hp' hq => ?_⟩
  by_cases e : p'.1 = p.1
  · obtain ⟨i, hi⟩ := List.getElem?_of_mem hp
    have hij := list_nodup_idx hn hp' hi e
    subst hij
    have hpp : p' = p := by rw [hp'] at hi; simpa using hi
    subst hpp
    have := hno j q hp' hq
    rcases h.at_ j p' q hp' hq with h1 | ⟨h1, _⟩
    · exact .inl h1
    · left
      have hq' : pubQ k L pg q.2 = q.2 := by unfold pubQ; rw [this]; simp
      rw [hq']
      exact h1
  · rcases h.at_ j p' q hp' hq with h1 | ⟨h1, h2⟩
    · exact .inl h1
    · exact .inr ⟨h1, by simp [h2, e]⟩

/-- The snapshot that an entry leads to, whether it was purged already or not. -/
theorem PubInv.snapOf (h : PubInv F w s k A B T nb L pg left v) {j : Nat} {p : Int × Nat} {q : Int × Int × (BA → Option BA)} (hp : B.s[j]? = some p) (hq : A.ses[j]? = some q) :
    ∃ f, SnapAt (Sub (fun i => F i ∨ w.heap.size ≤ i) s B.m) v p.2 q.2.1 f ∧ (f = (pubQ k L pg q.2).2 ∨ f = q.2.2) := by
  rcases h.at_ j p q hp hq with h1 | ⟨h1, _⟩
  · exact ⟨_, h1, .inl rfl⟩
  · exact ⟨_, h1, .inr rfl⟩

/-- A session that is purged. -/
theorem PubInv.purged (hB : RepB F w s A B) (h : PubInv F w s k A B T nb L true left v) {j : Nat} {p : Int × Nat} {q : Int × Int × (BA → Option BA)} (hp : B.s[j]? = some p) (hq : A.ses[j]? = some q) (hcl : q.2.1 = (k : Int))
    {f : BA → Option BA} (hf : SnapAt (Sub (fun i => F i ∨ w.heap.size ≤ i) s B.m) v p.2 q.2.1 f) {e : Ending} (hP : PurgePost v p.2 (k : Int) (purgeF f (asc (mkm L))) e v') :
    PubInv F w s k A B T nb L true (fun x => left x && !decide (x = p.1)) v' := by
  obtain ⟨_, t', l', ht', hb', hs', hg', hon, htl⟩ := hP
  have hsz := h.only.size
  have hpF : F p.2 := by
    obtain ⟨t, l, fb, _⟩ := hB.at_ j p q hp hq
    exact fb.1
  have hps : p.2 ≠ s ∧ p.2 ≠ B.m := by
    obtain ⟨t, l, fb, _⟩ := hB.at_ j p q hp hq
    exact fb.2
  have hpl := hB.lt _ hpF
  have hslt := hB.lt _ hB.fs
  have hmlt := hB.lt _ hB.fm
  have hx : ∃ cs T, v.heap[p.2]? = some (.cells cs T (0, 0)) := by
    obtain ⟨t, l, _, _, h1, _⟩ := hf
    exact ⟨_, _, h1⟩
  have hnew : SnapAt (Sub (fun i => F i ∨ w.heap.size ≤ i) s B.m) v' p.2 (k : Int) (purgeF f (asc (mkm L))) :=
    ⟨t', l', ⟨.inl hpF, hps⟩, ⟨.inr (by omega), by omega, by omega⟩, hb', hs', hg'⟩
  have hT : T ≠ p.2 := by have := h.T0; omega
  have hnb : nb ≠ p.2 := by have := h.nb0; omega
  refine ⟨h.only.trans hon (fun i hi e => by have : i = p.2 := e; rw [this]; exact hpF), (hon.block s (by omega) (fun e => hps.1 e.symm)).trans h.top, (hon.block nb (Array.getElem?_eq_some_iff.1 h.snap).1 hnb).trans h.snap, h.txt.only hon hT, h.nb0, h.T0, ?_, ?_⟩
  · intro i hi hik
    refine (h.cur i hi hik).only hon hx ?_ (fun _ x => x)
    intro e1
    have := (h.cur i hi hik)
    rw [e1] at this
    have := (this.uniq hf).1
    omega
  · intro i p' q' hp' hq'
    by_cases e1 : p'.2 = p.2
    · -- the same snapshot
      left
      rcases h.at_ i p' q' hp' hq' with h1 | ⟨h1, _⟩
      · rw [e1] at h1
        obtain ⟨u1, u2⟩ := h1.uniq hf
        have hk' : q'.2.1 = (k : Int) := by have : (pubQ k L true q'.2).1 = q'.2.1 := rfl; omega
        have hq2 : (pubQ k L true q'.2).2 = purgeF q'.2.2 (asc (mkm L)) := by simp [pubQ, hk']
        rw [e1, show (pubQ k L true q'.2).1 = (k : Int) from hk']
        rw [hq2] at u2 ⊢
        rw [← u2, purgeF_twice] at hnew
        exact hnew
      · rw [e1] at h1
        obtain ⟨u1, u2⟩ := h1.uniq hf
        have hk' : q'.2.1 = (k : Int) := by omega
        have hq2 : (pubQ k L true q'.2).2 = purgeF q'.2.2 (asc (mkm L)) := by simp [pubQ, hk']
        rw [e1, show (pubQ k L true q'.2).1 = (k : Int) from hk', hq2, u2]
        exact hnew
    · rcases h.at_ i p' q' hp' hq' with h1 | ⟨h1, h2⟩
      · exact .inl (h1.only hon hx e1 (fun _ x => x))
      · refine .inr ⟨h1.only hon hx e1 (fun _ x => x), ?_⟩
        have : ¬ p'.1 = p.1 := fun e2 => by
          have hij := list_nodup_idx hB.ses.nodup hp' hp e2
          subst hij
          rw [hp'] at hp
          exact e1 (by rw [Option.some.inj hp])
        simp [h2, this]
end
end Go.Proofs.Ytgheokocdfgjpaa
