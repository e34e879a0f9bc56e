/- What SiteSessions keeps: the classes of the sessions, and what a session reads. -/
import Derived.Test.YtgheokocdfgjpaaTexts
namespace Go.Proofs.Ytgheokocdfgjpaa
open Go.RowKit Go.MapKept Go.ChangeMaps Go.Maps Go.WideMaps

/-- cs holds the classes of the sessions 1, 2, 3 and so on. -/
structure OfOk (A : AS) (cs : List Int) : Prop where
  len : (cs.length : Int) = A.opened
  at_ : ∀ q ∈ A.ses, 1 ≤ q.1 ∧ q.1 ≤ A.opened ∧ cs[(q.1 - 1).toNat]? = some q.2.1

theorem ofOk0 : OfOk A0 [] := ⟨rfl, fun q hq => by simp [A0] at hq⟩

theorem ofOk_pub {A : AS} {cs : List Int} (h : OfOk A cs) (c : Int) (L : List (BA × BA)) (pg : Bool) : OfOk (pubA A c L pg) cs := by
  unfold pubA
  split
  · refine ⟨h.len, fun q hq => ?_⟩
    obtain ⟨p, hp, rfl⟩ := List.mem_map.1 hq
    exact h.at_ p hp
  · exact h

theorem ofOk_close {A : AS} {cs : List Int} (h : OfOk A cs) (n : Int) : OfOk (closeA A n) cs := ⟨h.len, fun q hq => h.at_ q ((del_sub _ _).subset hq)⟩

theorem ofOk_open {A : AS} {cs : List Int} (h : OfOk A cs) (c : Int) (ho : openOk A c = true) : OfOk (openA A c) (cs ++ [c]) := by
  rw [openA_yes ho]
  refine ⟨by simp [h.len], fun q hq => ?_⟩
  have hl := h.len
  rcases List.mem_append.1 hq with hq | hq
  · obtain ⟨h1, h2, h3⟩ := h.at_ q hq
    refine ⟨h1, by show q.1 ≤ A.opened + 1; omega, ?_⟩
    rw [List.getElem?_append_left (by omega)]
    exact h3
  · simp only [List.mem_singleton] at hq
    subst hq
    refine ⟨by show 1 ≤ A.opened + 1; omega, by show A.opened + 1 ≤ A.opened + 1; omega, ?_⟩
    show (cs ++ [c])[(A.opened + 1 - 1).toNat]? = some c
    rw [show (A.opened + 1 - 1).toNat = cs.length by omega]
    simp

/-- Behind a call that opens no session. -/
theorem ofOk_same {A : AS} {cs : List Int} (h : OfOk A cs) (o : OpI) (v opened : Int) (hn : ¬ (o.k = 2 ∧ (perfR A o v opened).2 = 0)) : OfOk (perfA A o v opened) cs := by
  rcases k_cases o with e | e | e | e
  · rw [perfA_0 e]; exact ofOk_pub h _ _ _
  · rw [perfA_1 e]; exact ofOk_pub h _ _ _
  · have h2 : (perfR A o v opened).2 ≠ 0 := fun h2 => hn ⟨e, h2⟩
    rw [(perf_refused A o v opened h2).1]
    exact h
  · rw [perfA_3 e]; exact ofOk_close h _

theorem asc_map_snd {V W : Type} (l : List (Int × V)) (f : V → W) (x : Int) : asc (l.map fun p => (p.1, f p.2)) x = (asc l x).map f := by
  induction l with
  | nil => rfl
  | cons p r ih =>
    simp only [List.map_cons, asc]
    split
    · rfl
    · exact ih

theorem asc_del_ne {V : Type} (l : List (Int × V)) (x y : Int) (h : y ≠ x) : asc (del l x) y = asc l y := by
  induction l with
  | nil => rfl
  | cons p r ih =>
    simp only [del]
    split
    · rename_i hp
      simp only [asc]
      rw [if_neg (by rw [hp]; exact fun e => h e.symm)]
    · simp only [asc]
      rw [ih]

theorem asc_append_new {V : Type} (l : List (Int × V)) (x : Int) (v : V) (h : ∀ q ∈ l, q.1 ≠ x) : asc (l ++ [(x, v)]) x = some v := by
  induction l with
  | nil => simp [asc]
  | cons p r ih =>
    simp only [List.cons_append, asc]
    rw [if_neg (h p (by simp))]
    exact ih fun q hq => h q (by simp [hq])

theorem pub_read (A : AS) (c : Int) (L : List (BA × BA)) (pg : Bool) (n : Int) (a : BA) (h : ∀ q, asc A.ses n = some q → ¬ (pg = true ∧ q.1 = c)) : readA (pubA A c L pg) n a = readA A n a := by
  unfold pubA
  split
  · unfold readA
    show (match asc (A.ses.map fun q => (q.1, pubQ c L pg q.2)) n with
      | some q => getR q.2 a
      | none => (emptyB, 250)) = _
    rw [asc_map_snd]
    cases hq : asc A.ses n with
    | none => rfl
    | some q =>
      simp only [Option.map_some]
      have hne := h q hq
      unfold pubQ
      have : (pg && decide (q.1 = c)) = false := by
        cases pg with
        | false => rfl
        | true => simp only [Bool.true_and, decide_eq_false_iff_not]; exact fun e => hne ⟨rfl, e⟩
      rw [this]
      rfl
  · rfl

/-- What a session reads changes only by its being closed and by a purge of its class. -/
theorem read_same {A : AS} {cs : List Int} (h : OfOk A cs) (o : OpI) (v : Int) (n : Int) (hn : ¬ (o.k = 2 ∧ (perfR A o v A.opened).2 = 0)) :
    (∀ a, readA (perfA A o v A.opened) n a = readA A n a) ∨ (o.k = 3 ∧ n = pickI o.n (A.opened + 2)) ∨
    (o.k = 1 ∧ 1 ≤ n ∧ n ≤ A.opened ∧ cs[(n - 1).toNat]? = some (classI o.cls)) := by
  rcases k_cases o with e | e | e | e
  · refine .inl fun a => ?_
    rw [perfA_0 e]
    exact pub_read _ _ _ _ _ _ fun q _ hq => absurd hq.1 (by decide)
  · by_cases hp : ∃ q, asc A.ses n = some q ∧ q.1 = classI o.cls
    · obtain ⟨q, hq, hc⟩ := hp
      obtain ⟨h1, h2, h3⟩ := h.at_ _ (asc_mem hq)
      exact .inr (.inr ⟨e, h1, h2, by rw [← hc]; exact h3⟩)
    · refine .inl fun a => ?_
      rw [perfA_1 e]
      exact pub_read _ _ _ _ _ _ fun q hq hh => hp ⟨q, hq, hh.2⟩
  · have h2 : (perfR A o v A.opened).2 ≠ 0 := fun h2 => hn ⟨e, h2⟩
    refine .inl fun a => ?_
    rw [(perf_refused A o v A.opened h2).1]
  · by_cases hm : n = pickI o.n (A.opened + 2)
    · exact .inr (.inl ⟨e, hm⟩)
    · refine .inl fun a => ?_
      rw [perfA_3 e]
      unfold readA closeA
      show (match asc (del A.ses _) n with
        | some q => getR q.2 a
        | none => (emptyB, 250)) = _
      rw [asc_del_ne _ _ _ hm]
      rfl

/-- A new session reads what the readers of its class get. -/
theorem open_reads {A : AS} {cs : List Int} (h : OfOk A cs) (c : Int) (ho : openOk A c = true) (a : BA) : readA (openA A c) (A.opened + 1) a = getA (openA A c) c a := by
  rw [openA_yes ho]
  have hc : isClass c = true := by
    simp only [openOk, Bool.and_eq_true] at ho
    exact ho.1
  unfold readA getA
  show (match asc (A.ses ++ [(A.opened + 1, c, A.cur c.toNat)]) (A.opened + 1) with
    | some q => getR q.2 a
    | none => (emptyB, 250)) = _
  rw [asc_append_new _ _ _ fun q hq => by have := (h.at_ q hq).2.1; omega, hc]
  rfl

theorem sess_ways (A : AS) (o : OpI) (v opened : Int) :
    (o.k = 2 ∧ perfR A o v opened = (A.opened + 1, 0) ∧ perfA A o v opened = openA A (classI o.cls) ∧ openOk A (classI o.cls) = true) ∨
    (¬ (o.k = 2 ∧ (perfR A o v opened).2 = 0) ∧ (perfA A o v opened).opened = A.opened ∧ (o.k = 2 → perfR A o v opened = (0, 250))) := by
  rcases k_cases o with e | e | e | e
  · exact .inr ⟨by omega, by rw [perfA_0 e]; exact pubA_opened _ _ _ _, by omega⟩
  · exact .inr ⟨by omega, by rw [perfA_1 e]; exact pubA_opened _ _ _ _, by omega⟩
  · cases ho : openOk A (classI o.cls) with
    | true => exact .inl ⟨e, by rw [perfR_2 e, openR_yes ho], perfA_2 e, rfl⟩
    | false =>
      refine .inr ⟨?_, ?_, fun _ => by rw [perfR_2 e, openR_no ho]⟩
      · rw [perfR_2 e, openR_no ho]; intro h; exact absurd h.2 (by decide)
      · rw [perfA_2 e, openA_no ho]
  · exact .inr ⟨by omega, by rw [perfA_3 e]; rfl, by omega⟩

/-- The classes lie in a row of blocks outside of F. -/
def OfAt (w : World) (F : Nat → Prop) (v : World) (x : Value) (cs : List Int) : Prop :=
  v.ownsRow w.heap.size 3 1 x cs.length (cs.map fun c => Value.int .i64 c) ∧ ∀ g, x.ownBlock = some g → ¬ F g

theorem OfAt.keep {w v v' : World} {F F' : Nat → Prop} {x : Value} {cs : List Int} (h : OfAt w F v x cs) (hk : ∀ j, j < v.heap.size → ¬ F j → ¬ F' j ∧ v'.heap[j]? = v.heap[j]?) : OfAt w F' v' x cs := by
  obtain ⟨⟨h1, h2⟩, h3⟩ := h
  rcases h2 with h2 | ⟨g, cap, cur, rfl, a2, a3, r⟩
  · refine ⟨⟨h1, .inl h2⟩, fun g hg => ?_⟩
    rw [h2.1] at hg
    simp [Value.ownBlock] at hg
  · have hF := h3 g rfl
    obtain ⟨k1, k2⟩ := hk g (Array.getElem?_eq_some_iff.1 a3).1 hF
    refine ⟨⟨h1, .inr ⟨g, cap, cur, rfl, a2, by rw [k2]; exact a3, r⟩⟩, fun g' hg' => ?_⟩
    simp only [Value.ownBlock, Option.some.injEq] at hg'
    rw [← hg']
    exact k1

theorem OfAt.below {w v v' : World} {F : Nat → Prop} {x : Value} {cs : List Int} (h : OfAt w F v x cs) (hb : Below v.heap.size v v') : OfAt w F v' x cs :=
  h.keep fun j hj hF => ⟨hF, hb.block j hj⟩

theorem OfAt.form {w v : World} {F : Nat → Prop} {x : Value} {cs : List Int} (h : OfAt w F v x cs) : ∃ a cap, x = .slice a cs.length cap ∧
    ∀ (j : Nat) c, cs[j]? = some c → ∃ g, a = some ⟨g, 0, none⟩ ∧ v.cell? ⟨g, j, none⟩ = some (.int .i64 c) := by
  obtain ⟨⟨h1, h2⟩, h3⟩ := h
  rcases h2 with ⟨rfl, hc⟩ | ⟨g, cap, cur, rfl, a2, a3, a4, a5, a6, a7⟩
  · have : cs = [] := List.length_eq_zero_iff.1 hc
    subst this
    exact ⟨none, 0, rfl, fun j c hj => by simp at hj⟩
  · refine ⟨_, cap, rfl, fun j c hj => ⟨g, rfl, ?_⟩⟩
    have hu : (cs.map fun c => Value.int .i64 c)[j]? = some (.int .i64 c) := by simp [hj]
    rw [← a7] at hu
    have : cur[j]? = some (.int .i64 c) := by
      rw [List.getElem?_take] at hu
      split at hu
      · simpa using hu
      · cases hu
    simp [World.cell?, a3, this]

theorem OfAt.cell {w v : World} {F : Nat → Prop} {a : Option Addr} {n cap : Nat} {cs : List Int} (h : OfAt w F v (.slice a n cap) cs) {j : Nat} {c : Int} (hc : cs[j]? = some c) :
    ∃ g, a = some ⟨g, 0, none⟩ ∧ v.cell? ⟨g, j, none⟩ = some (.int .i64 c) := by
  obtain ⟨a', cap', e, hh⟩ := h.form
  injection e with e1 e2 e3
  subst e1
  exact hh j c hc

theorem ofAt0 (w v : World) (F : Nat → Prop) : OfAt w F v (.slice none 0 0) [] := ⟨World.ownsRow_nil _ _ _ _, fun g hg => by simp [Value.ownBlock] at hg⟩

theorem of_append {w v5 v6 : World} {F : Nat → Prop} {s ab : Nat} {A : AS} {cs : List Int} {x x' : Value} {c : Int} {ob : Obj} (hh : Held w s A F v5) (hof : OfAt w F v5 x cs) (hra : v5.heap[ab]? = some adRow)
    (hown : v6.ownsRow w.heap.size 3 1 x' (cs.length + 1) ((cs.map fun c => Value.int .i64 c) ++ [.int .i64 c])) (hgr : (v5.alloc ob).grownBy v6 x.ownBlock)
    (hat : x'.ownBlock = x.ownBlock ∨ x'.ownBlock = some (v5.alloc ob).heap.size) : Held w s A F v6 ∧ OfAt w F v6 x' (cs ++ [c]) ∧ v6.heap[ab]? = some adRow := by
  have hsz := hgr.size
  simp only [World.size_alloc] at hsz
  have hkeep : ∀ i, i < v5.heap.size → x.ownBlock ≠ some i → v6.heap[i]? = v5.heap[i]? := fun i hi hne =>
    (hgr.block i (by simp; omega) (fun e => hne (by rw [e]))).trans (Below.heap_alloc v5 ob i hi)
  have hown0 := hof.1.lt
  refine ⟨⟨hh.rep.kept (fun i hi => hkeep i (hh.rep.lt i hi) (fun e => hof.2 i e hi)) (by omega), hh.new, ?_⟩, ⟨by simpa using hown, fun g hg hf => ?_⟩, ?_⟩
  · have hb := hh.below
    exact ⟨hgr.os.trans hb.os, hgr.tape.trans hb.tape, hgr.output.trans hb.output, by have := hb.size; omega, fun j hj =>
      (hkeep j (by have := hb.size; omega) (fun e => by have := (hown0 j e).1; omega)).trans (hb.block j hj)⟩
  · rcases hat with e | e
    · exact hof.2 g (by rw [← e]; exact hg) hf
    · rw [e] at hg
      simp at hg
      have := hh.rep.lt g hf
      omega
  · rw [hkeep ab (Array.getElem?_eq_some_iff.1 hra).1 (fun e => ?_)]
    · exact hra
    · rcases hof.1.2 with ⟨rfl, _⟩ | ⟨g, cap, cur, rfl, _, hg, _⟩
      · simp [Value.ownBlock] at e
      · simp only [Value.ownBlock, Option.some.injEq] at e
        rw [e, hra] at hg
        simp [adRow] at hg

theorem quiet_eq {P : Program} {f : FuncId} {args : Array Value} {w : World} {n : Nat} {v : Value} (h : Calls P f args (w.drewN n) fun e w' => e = .returned v ∧ w.drewN n = w') :
    Calls P f args (w.drewN n) fun e w'' => e = .returned v ∧ ∃ m, w'' = w.drewN m := h.mono fun _ _ ⟨he, hm⟩ => ⟨he, n, hm.symm⟩

theorem readS_eq {A A' : AS} {t j : Nat} (hj : j = t / 5) (h : ∀ a, readA A' (j : Int) a = readA A (j : Int) a) : readS A' t = readS A t := by
  subst hj
  unfold readS
  rw [h]

/-- The seven ways of a round of the law's last loop. -/
theorem round_ways {A A' : AS} {cs : List Int} {o : OpI} {t j : Nat} (hj : j = t / 5) (hl : (cs.length : Int) = A.opened)
    (h : (∀ a, readA A' (j : Int) a = readA A (j : Int) a) ∨ (o.k = 3 ∧ (j : Int) = pickI o.n (A.opened + 2)) ∨ (o.k = 1 ∧ 1 ≤ (j : Int) ∧ (j : Int) ≤ A.opened ∧ cs[((j : Int) - 1).toNat]? = some (classI o.cls))) :
    (readS A' t = readS A t ∧ o.k = 3) ∨ (readS A' t = readS A t ∧ o.k = 1 ∧ j = 0) ∨ (readS A' t = readS A t ∧ o.k = 1 ∧ ∃ i, j = i + 1 ∧ cs.length < j) ∨
    (readS A' t = readS A t ∧ o.k = 1 ∧ ∃ i c, j = i + 1 ∧ j ≤ cs.length ∧ cs[i]? = some c) ∨ (readS A' t = readS A t ∧ o.k ≠ 3 ∧ o.k ≠ 1) ∨
    (readS A' t ≠ readS A t ∧ o.k = 3 ∧ (j : Int) = pickI o.n (A.opened + 2)) ∨
    (readS A' t ≠ readS A t ∧ o.k = 1 ∧ ∃ i c, j = i + 1 ∧ j ≤ cs.length ∧ cs[i]? = some c ∧ c = classI o.cls) := by
  by_cases hxy : readS A' t = readS A t
  · by_cases h3 : o.k = 3
    · exact .inl ⟨hxy, h3⟩
    · by_cases h1 : o.k = 1
      · cases j with
        | zero => exact .inr (.inl ⟨hxy, h1, rfl⟩)
        | succ i =>
          by_cases hlt : cs.length < i + 1
          · exact .inr (.inr (.inl ⟨hxy, h1, i, rfl, hlt⟩))
          · exact .inr (.inr (.inr (.inl ⟨hxy, h1, i, _, rfl, by omega, List.getElem?_eq_getElem (by omega)⟩)))
      · exact .inr (.inr (.inr (.inr (.inl ⟨hxy, h3, h1⟩))))
  · rcases h with h | ⟨h3, hq⟩ | ⟨h1, hq1, hq2, hq3⟩
    · exact absurd (readS_eq hj h) hxy
    · exact .inr (.inr (.inr (.inr (.inr (.inl ⟨hxy, h3, hq⟩)))))
    · refine .inr (.inr (.inr (.inr (.inr (.inr ⟨hxy, h1, j - 1, _, by omega, by omega, ?_, rfl⟩)))))
      rw [← hq3]
      congr 1
      omega

theorem num_eq {t j : Nat} (h0 : 30 ≤ t) (hj : j = (t - 30) / 5) : ((t : Int) - 30) / 5 = (j : Int) := by
  obtain ⟨u, rfl⟩ : ∃ u, t = u + 30 := ⟨t - 30, by omega⟩
  rw [hj, show u + 30 - 30 = u by omega, show ((u + 30 : Nat) : Int) - 30 = (u : Int) by omega]
  rfl

theorem toList_ne {x y : BA} (h : y ≠ x) : (x.toList == y.toList) = false := by
  rw [beq_eq_false_iff_ne]
  intro e
  rw [ByteArray.toList_eq, ByteArray.toList_eq] at e
  exact h (ByteArray.ext (Array.toList_inj.1 e)).symm

theorem info3 : (Try.prog.info? 3).map (fun i => (i.zero, i.size, i.bytes)) = some (some (.int .i64 0), 1, 8) := by kernel_rfl
end Go.Proofs.Ytgheokocdfgjpaa
