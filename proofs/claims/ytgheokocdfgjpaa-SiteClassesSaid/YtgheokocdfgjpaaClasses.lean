/- SiteClasses: publishing for a class changes nothing for the readers of other classes: for every list of calls, every class and set of pages the law returns true. -/
import Derived.Test.YtgheokocdfgjpaaTexts
import Derived.Deep.QuietTactic
import Derived.BigQuiet
namespace Go.Proofs.Ytgheokocdfgjpaa
open Go.RowKit Go.MapKept Go.ChangeMaps Go.Maps Go.WideMaps

set_option maxRecDepth 100000 in
set_option maxHeartbeats 4000000 in
theorem classes_any (av : Option Addr) (b off n cap : Nat) (L : List OpI) (c m : Int) (pg : Bool) (w : World) (hn : L.length = n) (h0 : av = none → n = 0 ∧ cap = 0) (hnc : n ≤ cap) (hops : OpsAt w av b off L)
    (hc0 : -9223372036854775808 ≤ c) (hc1 : c ≤ 9223372036854775807) (hm0 : -9223372036854775808 ≤ m) (hm1 : m ≤ 9223372036854775807) :
    Calls Try.prog 5 #[.slice av n cap, .int .i64 c, .int .i64 m, .bool pg] w (TruePost w) := by
  have Hops := Lib.hid hops; clear hops
  go_enter Try.func5, Try.ntmps5
  go_wp2_with fail
  refine (sane_any w).mono ?_
  rintro e w1 ⟨rfl, hb1⟩
  go_wp2_with fail
  refine (new_any w1).mono ?_
  rintro e w2 ⟨s, F0, rfl, hr, hb2, hF⟩
  have hheld : Held w s A0 F0 w2 := ⟨hr, fun j hj => Nat.le_trans hb1.size (hF j hj), hb1.trans (hb2.mono hb1.size)⟩
  have Hheld := Lib.hid hheld
  clear hheld hr hb2 hF hb1
  unfold ptrV
  go_wp2_with (go_at_call 9; refine (few_gen av n cap _ h0 hnc).mono ?_; rintro e w' ⟨rfl, rfl⟩)
  obtain ⟨n', hn'⟩ : ∃ n', n' = min n 40 := ⟨_, rfl⟩
  rw [← hn']
  have hn40 : n' ≤ 40 := by omega
  have hnL : n' ≤ L.length := by omega
  clear hn'
  go_loopw [12, 13] (fun op i wr => ∃ (k : Nat) (F : Nat → Prop) (A : AS), i = .int .i64 k ∧ k ≤ n' ∧ op = .int .i64 A.opened ∧ Held w s A F wr ∧ 0 ≤ A.opened ∧ A.opened ≤ k) (fun _ i _ => n' - (intOf i).toNat)
  case atStart => exact ⟨0, F0, A0, rfl, Nat.zero_le _, rfl, Hheld.out, by decide, by decide⟩
  case round =>
    clear Hheld
    obtain ⟨k, F, A, rfl, hk, rfl, hh, hop0, hopk⟩ := hrel
    have Hh := Lib.hid hh
    by_cases hlt : k < n'
    · obtain ⟨o, ho⟩ : ∃ o, L[k]? = some o := ⟨_, List.getElem?_eq_getElem (by omega)⟩
      obtain ⟨hok, rfl, hbl, q0, q1, q2⟩ := Hops.out k o ho
      have q0' : wr.cell? ⟨b, off + k * 3, none⟩ = some (.int .i64 o.kind) := (hh.below.cell (p := ⟨b, off + k * 3, none⟩) hbl).trans q0
      have q1' : wr.cell? ⟨b, off + k * 3 + 1, none⟩ = some (.int .i64 o.cls) := (hh.below.cell (p := ⟨b, off + k * 3 + 1, none⟩) hbl).trans q1
      have q2' : wr.cell? ⟨b, off + k * 3 + 2, none⟩ = some (.int .i64 o.n) := (hh.below.cell (p := ⟨b, off + k * 3 + 2, none⟩) hbl).trans q2
      have hperf := Lib.hid (perform_any F s A o k A.opened _ hh.rep hok (by omega) (by omega) (by omega) hop0 (by omega))
      have hN := Lib.hid (perf_number A o k A.opened)
      have hA' := Lib.hid (perf_opened A o k A.opened hop0)
      unfold ptrV at hperf
      clear hh ho hok hbl q0 q1 q2
      obtain ⟨N, hNe⟩ : ∃ N : Int, N = (perfR A o k A.opened).1 := ⟨_, rfl⟩
      obtain ⟨E, hEe⟩ : ∃ E : Int, E = (perfR A o k A.opened).2 := ⟨_, rfl⟩
      obtain ⟨A', hAe⟩ : ∃ A', A' = perfA A o k A.opened := ⟨_, rfl⟩
      unfold PerfPost at hperf
      rw [← hNe, ← hEe, ← hAe] at hperf
      rw [← hNe] at hN hA'
      rw [← hAe] at hA'
      have hN2 : Hid (N = 0 ∨ N = A.opened + 1) := by
        rcases hN.out with h | h
        · exact .inl h
        · exact .inr (by rw [hNe, h.2.2])
      obtain ⟨X, hX⟩ : ∃ X : Int, X = A'.opened := ⟨_, rfl⟩
      have HX := Lib.hid hX
      have hX0 : 0 ≤ X := by have := hA'.out; omega
      have hX1 : X ≤ k + 1 := by
        have := hA'.out
        rcases hN2.out with h | h <;> omega
      clear hNe hEe hAe hN hX
      rcases hN2.out with hNv | hNv
      all_goals
        have hXv := hA'.out
        rw [← HX.out, hNv] at hXv
        have hXw := Lib.hid hXv
        clear hXv
        go_wp2_with (go_at_call 12; refine hperf.out.mono ?_; rintro e w3 ⟨rfl, ha⟩)
        obtain ⟨F', hh3, _⟩ := Hh.out.after ha
        have Hh3 := Lib.hid hh3
        clear ha hh3
        first
          | rw [show A.opened + 1 = X from by have := hXw.out; omega]
          | rw [show A.opened = X from by have := hXw.out; omega]
        clear hXw hperf hN2 hA' Hh q0' q1' q2' hNv hop0 hopk
        go_roundw
        case rel => exact ⟨k + 1, F', A', by go_num, by omega, by rw [HX.out], Hh3.out, by rw [← HX.out]; exact hX0, by rw [← HX.out]; omega⟩
        case measure => simp [intOf]; omega
    · clear hh
      go_wp2_with fail
      refine (view_texts F s A 0 0 rfl wr Hh.out.rep (by omega)).mono ?_
      rintro e w3 ⟨g1, cap1, rfl, hg1, ht1, hb3⟩
      have Hh3 := Lib.hid (Hh.out.more hb3)
      have hF1 : Hid (¬ F g1) := fun hf => by have := Hh.out.rep.lt _ hf; omega
      have Ht1 := Lib.hid ht1
      clear hb3 Hh ht1 hg1 hop0 hopk hk hlt
      go_wp2_with (go_at_call 13; refine (pick_any c 4 _ hc0 hc1 (by omega)).mono ?_; rintro e w' ⟨rfl, rfl⟩)
      refine (pages_any m 700 w3 hm0 hm1 (by omega) (by omega)).mono ?_
      rintro e w4 ⟨pv, rfl, hpv, hb4⟩
      have Hh4 := Lib.hid (Hh3.out.more hb4)
      have Ht4 := Lib.hid (Ht1.out.below hb4)
      have Hpv := Lib.hid hpv
      have hkb := Lib.hid (pickI_bd c 4 (by omega))
      clear hb4 Hh3 Ht1 hpv
      obtain ⟨kk, hkk⟩ : ∃ kk, kk = pickI c 4 := ⟨_, rfl⟩
      rw [← hkk] at hkb ⊢
      have hok : Hid (pubOk kk (pagesL m 700) = true) := by
        show pubOk kk (pagesL m 700) = true
        rw [pubOk_pages]
        have := hkb.out
        simp [isClass]; omega
      clear hkk
      go_wp2_with fail
      refine (pub_pages F s pv A kk (pagesL m 700) pg w4 Hh4.out.rep Hpv.out).mono ?_
      rintro e w5 ⟨rfl, ha⟩
      rw [pub_ok_R hok.out]
      obtain ⟨A', hAe⟩ : ∃ A', A' = pubA A kk (pagesL m 700) pg := ⟨_, rfl⟩
      have hoth : Hid (∀ t : Nat, ((t / 5 : Nat) : Int) - 1 ≠ kk → getS A' t = getS A t) := by
        intro t ht
        rw [hAe]
        exact pub_others A kk (pagesL m 700) pg t ht
      rw [← hAe] at ha
      obtain ⟨F', hh5, hsep⟩ := Hh4.out.after ha
      obtain ⟨_, hk5⟩ := hsep g1 Ht4.out.1 hF1.out
      have Ht5 := Lib.hid (Ht4.out.keep hk5)
      have Hh5 := Lib.hid hh5
      clear ha hh5 hk5 hsep Hpv hok Ht4 Hh4 hAe
      go_wp2_with fail
      refine (view_texts F' s A' 0 0 rfl w5 Hh5.out.rep (by omega)).mono ?_
      rintro e w6 ⟨g2, cap2, rfl, hg2, ht2, hb6⟩
      have Hh6 := Lib.hid (Hh5.out.more hb6)
      have Ht6 := Lib.hid (Ht5.out.below hb6)
      have Ht2 := Lib.hid ht2
      clear hb6 ht2 hg2 Hh5 Ht5 hF1
      go_wp2_with (go_at_call 10; refine (addresses_any _).mono ?_; rintro e w' ⟨rfl, rfl⟩)
      have Hh7 := Lib.hid (Hh6.out.more ((Below.refl _ _).alloc (Nat.le_refl _) adRow))
      have Ht7 := Lib.hid (Ht6.out.below ((Below.refl _ _).alloc (Nat.le_refl _) adRow))
      have Ht8 := Lib.hid (Ht2.out.below ((Below.refl _ _).alloc (Nat.le_refl _) adRow))
      clear Hh6 Ht6 Ht2 hkb
      go_loopw [20] (fun i v => ∃ t : Nat, i = .int .i64 t ∧ t ≤ 30 ∧ Held w s A' F' v ∧ TextsAt v g1 (viewL A 0) ∧ TextsAt v g2 (viewL A' 0)) (fun i _ => 30 - (intOf i).toNat)
      case atStart => exact ⟨0, rfl, by omega, Hh7.out, Ht7.out, Ht8.out⟩
      case round =>
        clear Hh7 Ht7 Ht8
        obtain ⟨t, rfl, ht, hh, t1, t2⟩ := hrel
        have Hh := Lib.hid hh
        by_cases htl : t < 30
        · have c1 := t1.2 t _ (viewL_get A 0 t htl)
          have c2 := t2.2 t _ (viewL_get A' 0 t htl)
          have T1 := Lib.hid t1
          have T2 := Lib.hid t2
          have ht0 : (0 : Int) ≤ (t : Int) := by omega
          have ht30 : (t : Int) < 30 := by omega
          have ht40 : (t : Int) < 40 := by omega
          clear t1 t2 hh ht
          go_wp2_with fail
          have hq2 : IntKind.i64.wrap ((t : Int) / 5) = (t : Int) / 5 := IntWalk.i64_in _ (by omega)
          have hq3 : IntKind.i64.wrap ((t : Int) / 5 - 1) = (t : Int) / 5 - 1 := IntWalk.i64_in _ (by omega)
          by_cases hcase : (t : Int) / 5 - 1 = kk
          · have hd : ((t : Int) / 5 - 1 != kk) = false := by simpa using hcase
            clear hcase
            go_quiet (fail)
            clear hq2 hq3 hd
            go_wp2
            go_roundw
            case rel => exact ⟨t + 1, by go_num, by omega, Hh.out.drewN _, T1.out, T2.out⟩
            case measure => simp [intOf]; omega
          · have hd : ((t : Int) / 5 - 1 != kk) = true := by simpa using hcase
            have heq : getS A' t = getS A t := hoth.out t (by rw [show ((t / 5 : Nat) : Int) = (t : Int) / 5 by omega]; exact hcase)
            clear hcase
            rw [heq] at c2
            go_quiet (fail)
            clear hq2 hq3 hd
            go_wp2
            go_roundw
            case rel => exact ⟨t + 1, by go_num, by omega, Hh.out.drewN _, T1.out, T2.out⟩
            case measure => simp [intOf]; omega
        · clear t1 t2 hh
          go_wp2
          go_ret
          exact ⟨rfl, Hh.out.below⟩
end Go.Proofs.Ytgheokocdfgjpaa
