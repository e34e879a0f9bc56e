/- Plain laws on what a Site amounts to: no program here. -/
import Derived.Test.YtgheokocdfgjpaaSane
namespace Go.Proofs.Ytgheokocdfgjpaa
open Go.RowKit Go.MapKept Go.ChangeMaps Go.Maps Go.WideMaps

/-! ### The pages that a number selects are different -/
theorem mkm_of_nodup (L : List (BA × BA)) (h : (L.map (·.1)).Nodup) : mkm L = L := by
  have key : ∀ (r m : List (BA × BA)), ((m ++ r).map (·.1)).Nodup → r.foldl (fun m p => ups m p.1 p.2) m = m ++ r := by
    intro r
    induction r with
    | nil => intro m _; simp
    | cons p r ih =>
      intro m hn
      have hp : asc m p.1 = none := asc_none.2 fun q hq e => by
        rw [List.map_append, List.nodup_append] at hn
        exact hn.2.2 _ (List.mem_map.2 ⟨q, hq, rfl⟩) _ (by simp) e
      simp only [List.foldl_cons]
      rw [ups_new hp, ih (m ++ [(p.1, p.2)]) (by simpa using hn)]
      simp
  have := key L [] (by simpa using h)
  simpa [mkm] using this

theorem ad_ne {i j : Nat} (hi : i < 5) (hj : j < 5) (h : ad i = ad j) : i = j := by
  have : ∀ i : Fin 5, ∀ j : Fin 5, ad i.val = ad j.val → i = j := by decide +kernel
  have := this ⟨i, hi⟩ ⟨j, hj⟩ h
  simpa using congrArg Fin.val this

theorem pagesTo_keys (n v : Int) (k : Nat) : ∀ p ∈ pagesTo n v k, ∃ i, i < k ∧ p = (ad i, mark v ++ ad i) := by
  induction k with
  | zero => simp [pagesTo]
  | succ k ih =>
    intro p hp
    unfold pagesTo at hp
    rcases List.mem_append.1 hp with hp | hp
    · obtain ⟨i, hi, rfl⟩ := ih p hp
      exact ⟨i, by omega, rfl⟩
    · split at hp
      · simp only [List.mem_singleton] at hp
        exact ⟨k, by omega, hp⟩
      · simp at hp

theorem pagesTo_nodup (n v : Int) (k : Nat) (hk : k ≤ 5) : ((pagesTo n v k).map (·.1)).Nodup := by
  induction k with
  | zero => simp [pagesTo]
  | succ k ih =>
    unfold pagesTo
    split
    · rw [List.map_append, List.nodup_append]
      refine ⟨ih (by omega), by simp, fun a ha b hb e => ?_⟩
      simp only [List.map_cons, List.map_nil, List.mem_singleton] at hb
      obtain ⟨p, hp, rfl⟩ := List.mem_map.1 ha
      obtain ⟨i, hi, rfl⟩ := pagesTo_keys n v k p hp
      subst hb
      have := ad_ne (show i < 5 by omega) (show k < 5 by omega) e
      omega
    · simpa using ih (by omega)

theorem mkm_pages (n v : Int) : mkm (pagesL n v) = pagesL n v := mkm_of_nodup _ (pagesTo_nodup n v 5 (Nat.le_refl _))

theorem pubOk_pages (c n v : Int) : pubOk c (pagesL n v) = isClass c := by simp [pubOk, mkm_pages]

/-! ### SiteWhole: each snapshot's texts bear one mark -/
def One (f : BA → Option BA) : Prop := ∃ m : BA, m.size = 2 ∧ ∀ k, k < 5 → ∀ t, f (ad k) = some t → t = m ++ ad k

structure Whole (A : AS) : Prop where
  cur : ∀ c, c < 4 → One (A.cur c)
  ses : ∀ q ∈ A.ses, One q.2.2

theorem whole0 : Whole A0 := ⟨fun c _ => ⟨mark 0, mark_size 0, fun k _ t h => by simp [A0] at h⟩, fun q hq => by simp [A0] at hq⟩

theorem one_pages (n v : Int) : One (asc (mkm (pagesL n v))) := by
  refine ⟨mark v, mark_size v, fun k hk t h => ?_⟩
  rw [mkm_pages] at h
  obtain ⟨i, hi, e⟩ := pagesTo_keys n v 5 _ (asc_mem h)
  simp only [Prod.mk.injEq] at e
  have := ad_ne hk hi e.1
  subst this
  exact e.2

theorem whole_pub {A : AS} (h : Whole A) (c n v : Int) : Whole (pubA A c (pagesL n v) false) := by
  unfold pubA
  split
  · refine ⟨fun i hi => ?_, fun q hq => ?_⟩
    · dsimp only
      split
      · exact one_pages n v
      · exact h.cur i hi
    · obtain ⟨p, hp, rfl⟩ := List.mem_map.1 hq
      simpa [pubQ] using h.ses p hp
  · exact h

theorem whole_open {A : AS} (h : Whole A) (c : Int) : Whole (openA A c) := by
  unfold openA
  split
  · rename_i ho
    have hc : isClass c = true := by
      simp only [openOk, Bool.and_eq_true] at ho
      exact ho.1
    simp only [isClass, decide_eq_true_eq] at hc
    refine ⟨h.cur, fun q hq => ?_⟩
    rcases List.mem_append.1 hq with hq | hq
    · exact h.ses q hq
    · simp only [List.mem_singleton] at hq
      subst hq
      exact h.cur c.toNat (by omega)
  · exact h

theorem whole_close {A : AS} (h : Whole A) (n : Int) : Whole (closeA A n) := ⟨h.cur, fun q hq => h.ses q ((del_sub _ _).subset hq)⟩

theorem perfA_0 {A : AS} {o : OpI} {v opened : Int} (h : o.k = 0) : perfA A o v opened = pubA A (classI o.cls) (pagesL o.n v) false := by simp [perfA, h]
theorem perfA_1 {A : AS} {o : OpI} {v opened : Int} (h : o.k = 1) : perfA A o v opened = pubA A (classI o.cls) (pagesL o.n v) true := by simp [perfA, h]
theorem perfA_2 {A : AS} {o : OpI} {v opened : Int} (h : o.k = 2) : perfA A o v opened = openA A (classI o.cls) := by simp [perfA, h]
theorem perfA_3 {A : AS} {o : OpI} {v opened : Int} (h : o.k = 3) : perfA A o v opened = closeA A (pickI o.n (opened + 2)) := by simp [perfA, h]
theorem perfR_0 {A : AS} {o : OpI} {v opened : Int} (h : o.k = 0) : perfR A o v opened = (0, pubR (classI o.cls) (pagesL o.n v)) := by simp [perfR, h]
theorem perfR_1 {A : AS} {o : OpI} {v opened : Int} (h : o.k = 1) : perfR A o v opened = (0, pubR (classI o.cls) (pagesL o.n v)) := by simp [perfR, h]
theorem perfR_2 {A : AS} {o : OpI} {v opened : Int} (h : o.k = 2) : perfR A o v opened = openR A (classI o.cls) := by simp [perfR, h]
theorem perfR_3 {A : AS} {o : OpI} {v opened : Int} (h : o.k = 3) : perfR A o v opened = (0, closeR A (pickI o.n (opened + 2))) := by simp [perfR, h]

theorem k_cases (o : OpI) : o.k = 0 ∨ o.k = 1 ∨ o.k = 2 ∨ o.k = 3 := by
  have := pickI_bd o.kind 4 (by omega)
  unfold OpI.k
  omega

theorem openR_yes {A : AS} {c : Int} (h : openOk A c = true) : openR A c = (A.opened + 1, 0) := by unfold openR; rw [if_pos h]
theorem openA_yes {A : AS} {c : Int} (h : openOk A c = true) : openA A c = { A with ses := A.ses ++ [(A.opened + 1, c, A.cur c.toNat)], opened := A.opened + 1 } := by unfold openA; rw [if_pos h]
theorem pubA_yes {A : AS} {c : Int} {L : List (BA × BA)} {pg : Bool} (h : pubOk c L = true) : pubA A c L pg = { A with cur := fun i => if (i : Int) = c then asc (mkm L) else A.cur i, ses := A.ses.map fun q => (q.1, pubQ c L pg q.2) } := by unfold pubA; rw [if_pos h]

theorem whole_perf {A : AS} (h : Whole A) (o : OpI) (v opened : Int) (hk : o.k ≠ 1) : Whole (perfA A o v opened) := by
  rcases k_cases o with e | e | e | e
  · rw [perfA_0 e]; exact whole_pub h _ _ _
  · exact absurd e hk
  · rw [perfA_2 e]; exact whole_open h _
  · rw [perfA_3 e]; exact whole_close h _

/-- What a session reads: nothing, or the mark and the address. -/
theorem whole_read {A : AS} (h : Whole A) (c : Int) : ∃ m : BA, m.size = 2 ∧ ∀ k, k < 5 → ((readA A c (ad k)).2 ≠ 0 ∨ readA A c (ad k) = (m ++ ad k, 0)) := by
  unfold readA
  cases hq : asc A.ses c with
  | none => exact ⟨mark 0, mark_size 0, fun k _ => .inl (by show (250 : Int) ≠ 0; decide)⟩
  | some q =>
    obtain ⟨m, h1, h2⟩ := h.ses _ (asc_mem hq)
    refine ⟨m, h1, fun k hk => ?_⟩
    dsimp only
    unfold getR
    cases hf : q.2 (ad k) with
    | none => exact .inl (by decide)
    | some t => exact .inr (by rw [h2 k hk t hf])

/-! ### The numbers of sessions -/
theorem pubA_opened (A : AS) (c : Int) (L : List (BA × BA)) (pg : Bool) : (pubA A c L pg).opened = A.opened := by unfold pubA; split <;> rfl

theorem perf_opened (A : AS) (o : OpI) (v opened : Int) (h : 0 ≤ A.opened) : (perfA A o v opened).opened = max A.opened (perfR A o v opened).1 := by
  rcases k_cases o with e | e | e | e
  · rw [perfA_0 e, perfR_0 e, pubA_opened]; dsimp only; omega
  · rw [perfA_1 e, perfR_1 e, pubA_opened]; dsimp only; omega
  · rw [perfA_2 e, perfR_2 e]
    cases ho : openOk A (classI o.cls) with
    | true => rw [openA_yes ho, openR_yes ho]; dsimp only; omega
    | false => rw [openA_no ho, openR_no ho]; dsimp only; omega
  · rw [perfA_3 e, perfR_3 e]
    show A.opened = max A.opened 0
    omega

theorem perf_number (A : AS) (o : OpI) (v opened : Int) : (perfR A o v opened).1 = 0 ∨ (o.k = 2 ∧ openOk A (classI o.cls) = true ∧ perfR A o v opened = (A.opened + 1, 0)) := by
  rcases k_cases o with e | e | e | e
  · rw [perfR_0 e]; exact .inl rfl
  · rw [perfR_1 e]; exact .inl rfl
  · rw [perfR_2 e]
    cases ho : openOk A (classI o.cls) with
    | true => exact .inr ⟨e, rfl, openR_yes ho⟩
    | false => rw [openR_no ho]; exact .inl rfl
  · rw [perfR_3 e]; exact .inl rfl

/-- A call that is refused changes nothing, and returns 0 and 250. -/
theorem perf_refused (A : AS) (o : OpI) (v opened : Int) (h : (perfR A o v opened).2 ≠ 0) : perfA A o v opened = A ∧ perfR A o v opened = (0, 250) := by
  have hpub : pubR (classI o.cls) (pagesL o.n v) ≠ 0 → pubOk (classI o.cls) (pagesL o.n v) = false := fun h => by
    cases hp : pubOk (classI o.cls) (pagesL o.n v) with
    | false => rfl
    | true => exact absurd (pub_ok_R hp) h
  rcases k_cases o with e | e | e | e
  · rw [perfR_0 e] at h ⊢
    have hno := hpub h
    rw [perfA_0 e, pub_no_A hno, pub_no_R hno]
    exact ⟨rfl, rfl⟩
  · rw [perfR_1 e] at h ⊢
    have hno := hpub h
    rw [perfA_1 e, pub_no_A hno, pub_no_R hno]
    exact ⟨rfl, rfl⟩
  · rw [perfR_2 e] at h ⊢
    rw [perfA_2 e]
    cases ho : openOk A (classI o.cls) with
    | true => rw [openR_yes ho] at h; exact absurd rfl h
    | false => exact ⟨openA_no ho, openR_no ho⟩
  · rw [perfR_3 e] at h ⊢
    rw [perfA_3 e]
    have hn : asc A.ses (pickI o.n (opened + 2)) = none := by
      cases hp : asc A.ses (pickI o.n (opened + 2)) with
      | none => rfl
      | some q => exact absurd (show closeR A (pickI o.n (opened + 2)) = 0 by simp [closeR, hp]) h
    exact ⟨by unfold closeA; rw [del_none hn], by simp [closeR, hn]⟩

theorem pubA_len (A : AS) (c : Int) (L : List (BA × BA)) (pg : Bool) : (pubA A c L pg).ses.length = A.ses.length := by unfold pubA; split <;> simp

/-- How many sessions there are behind a call that is not refused. -/
theorem perf_sessions (A : AS) (o : OpI) (v opened : Int) (h : (perfR A o v opened).2 = 0) :
    ((perfA A o v opened).ses.length : Int) = A.ses.length + (if o.k = 2 then 1 else if o.k = 3 then -1 else 0) := by
  rcases k_cases o with e | e | e | e
  · rw [perfA_0 e, pubA_len]; simp [e]
  · rw [perfA_1 e, pubA_len]; simp [e]
  · rw [perfR_2 e] at h
    rw [perfA_2 e]
    cases ho : openOk A (classI o.cls) with
    | true => rw [openA_yes ho]; simp [e]
    | false => rw [openR_no ho] at h; exact absurd h (by decide)
  · rw [perfR_3 e] at h
    rw [perfA_3 e]
    cases hp : asc A.ses (pickI o.n (opened + 2)) with
    | none => simp [closeR, hp] at h
    | some q =>
      have := length_del hp
      have e2 : (closeA A (pickI o.n (opened + 2))).ses.length = (del A.ses (pickI o.n (opened + 2))).length := rfl
      rw [e2, e]
      simp
      omega

theorem perf_err (A : AS) (o : OpI) (v opened : Int) : (perfR A o v opened).2 = 0 ∨ (perfR A o v opened).2 = 250 := by
  by_cases h : (perfR A o v opened).2 = 0
  · exact .inl h
  · exact .inr (by rw [(perf_refused A o v opened h).2])

/-- There are at most 16 sessions. -/
theorem perf_16 (A : AS) (o : OpI) (v opened : Int) (h : A.ses.length ≤ 16) : (perfA A o v opened).ses.length ≤ 16 := by
  rcases k_cases o with e | e | e | e
  · rw [perfA_0 e, pubA_len]; exact h
  · rw [perfA_1 e, pubA_len]; exact h
  · rw [perfA_2 e]
    cases ho : openOk A (classI o.cls) with
    | true =>
      rw [openA_yes ho]
      simp only [openOk, Bool.and_eq_true, decide_eq_true_eq] at ho
      simp; omega
    | false => rw [openA_no ho]; exact h
  · rw [perfA_3 e]
    have := (del_sub A.ses (pickI o.n (opened + 2))).length_le
    show (del A.ses (pickI o.n (opened + 2))).length ≤ 16
    omega

/-! ### SiteClasses -/
theorem pub_cur (A : AS) (c : Int) (L : List (BA × BA)) (pg : Bool) (i : Nat) (h : (i : Int) ≠ c) : (pubA A c L pg).cur i = A.cur i := by
  unfold pubA
  split
  · exact if_neg h
  · rfl

/-- What the readers of other classes get. -/
theorem pub_others (A : AS) (c : Int) (L : List (BA × BA)) (pg : Bool) (t : Nat) (h : ((t / 5 : Nat) : Int) - 1 ≠ c) : getS (pubA A c L pg) t = getS A t := by
  have : ∀ a, getA (pubA A c L pg) (((t / 5 : Nat) : Int) - 1) a = getA A (((t / 5 : Nat) : Int) - 1) a := fun a => by
    unfold getA
    cases hc : isClass (((t / 5 : Nat) : Int) - 1) with
    | false => rfl
    | true =>
      simp only [isClass, decide_eq_true_eq] at hc
      rw [pub_cur _ _ _ _ _ (by omega)]
  unfold getS
  rw [this]
end Go.Proofs.Ytgheokocdfgjpaa
