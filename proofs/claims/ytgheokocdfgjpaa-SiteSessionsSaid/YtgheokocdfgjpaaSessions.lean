/- SiteSessions: what a session reads is changed by no call but a purge of its class and its being closed, and a new session reads what the readers of its class get: for every list of calls the law returns true. -/
import Derived.Test.YtgheokocdfgjpaaSess
import Derived.Maps.AppendAt
import Derived.Deep.QuietTactic
import Derived.BigQuiet
namespace Go.Proofs.Ytgheokocdfgjpaa
open Go.RowKit Go.MapKept Go.ChangeMaps Go.Maps Go.WideMaps

set_option maxRecDepth 100000 in
set_option maxHeartbeats 4000000 in
theorem sessions_law (av : Option Addr) (b off n cap : Nat) (L : List OpI) (w : World) (hn : L.length = n) (h0 : av = none → n = 0 ∧ cap = 0) (hnc : n ≤ cap) (hops : OpsAt w av b off L) :
    Calls Try.prog 3 #[.slice av n cap] w (TruePost w) := by
  obtain ⟨i0, hi, hz0, hz1, hz2⟩ := info_parts info3
  have Hops := Lib.hid hops; clear hops
  go_enter Try.func3, Try.ntmps3
  go_wp2_with fail
  refine (sane_any w).mono ?_
  rintro e w1 ⟨rfl, hb1⟩
  go_wp2_with fail
  refine (new_any w1).mono ?_
  rintro e w2 ⟨s, F0, rfl, hr, hb2, hF⟩
  have hheld : Held w s A0 F0 w2 := ⟨hr, fun j hj => Nat.le_trans hb1.size (hF j hj), hb1.trans (hb2.mono hb1.size)⟩
  have Hheld := Lib.hid hheld
  clear hheld hr hb2 hF hb1
  unfold ptrV
  go_wp2_with (first
    | (go_at_call 9; refine (few_gen av n cap _ h0 hnc).mono ?_; rintro e w' ⟨rfl, rfl⟩)
    | (go_at_call 10; refine (addresses_any _).mono ?_; rintro e w' ⟨rfl, rfl⟩))
  obtain ⟨n', hn'⟩ : ∃ n', n' = min n 40 := ⟨_, rfl⟩
  rw [← hn']
  have hn40 : n' ≤ 40 := by omega
  have hnL : n' ≤ L.length := by omega
  obtain ⟨ab, hab⟩ : ∃ ab, ab = w2.heap.size := ⟨_, rfl⟩
  have hstart : Hid (Held w s A0 F0 (w2.alloc adRow) ∧ ¬ F0 ab ∧ (w2.alloc adRow).heap[ab]? = some adRow) := by
    refine ⟨Hheld.out.more ((Below.refl _ _).alloc (Nat.le_refl _) _), fun hf => ?_, ?_⟩
    · have := Hheld.out.rep.lt _ hf
      omega
    · rw [heap_alloc_eq, if_pos hab]
  rw [← hab]
  clear hn' hab Hheld
  go_loopw [6, 7, 9] (fun op vo i wr => ∃ (k : Nat) (F : Nat → Prop) (A : AS) (cs : List Int), i = .int .i64 k ∧ k ≤ n' ∧ op = .int .i64 A.opened ∧ OfAt w F wr vo cs ∧ Held w s A F wr ∧ ¬ F ab ∧ wr.heap[ab]? = some adRow ∧ OfOk A cs ∧ 0 ≤ A.opened ∧ A.opened ≤ k) (fun _ _ i _ => n' - (intOf i).toNat)
  case atStart => exact ⟨0, F0, A0, [], rfl, Nat.zero_le _, rfl, ofAt0 _ _ _, hstart.out.1, hstart.out.2.1, hstart.out.2.2, ofOk0, by decide, by decide⟩
  case round =>
    clear hstart
    obtain ⟨k, F, A, cs, rfl, hk, rfl, hof, hh, hfa, hra, hok0, hop0, hopk⟩ := hrel
    have Hh := Lib.hid hh
    have Hof := Lib.hid hof
    have Hfa := Lib.hid hfa
    have Hra := Lib.hid hra
    have Hok0 := Lib.hid hok0
    by_cases hlt : k < n'
    · obtain ⟨o, ho⟩ : ∃ o, L[k]? = some o := ⟨_, List.getElem?_eq_getElem (by omega)⟩
      obtain ⟨hok, rfl, hbl, q0, q1, q2⟩ := Hops.out k o ho
      have hpick := Lib.hid (fun W => pick_any o.kind 4 W hok.1.1 hok.1.2 (by omega))
      have Hok := Lib.hid hok
      obtain ⟨m, hm⟩ : ∃ m : Nat, m = A.opened.toNat := ⟨_, rfl⟩
      have hview := fun (F : Nat → Prop) (A' : AS) W (h : Rep F W s A') => view_texts F s A' m A.opened (by omega) W h (by omega)
      obtain ⟨len, hlen⟩ : ∃ len, len = 30 + (m + 2) * 5 := ⟨_, rfl⟩
      have Hlen := Lib.hid hlen
      have hlen1 : len ≤ 10000 := by omega
      have Hlen2 : Hid ((len : Int) = 40 + A.opened * 5) := by show (len : Int) = 40 + A.opened * 5; omega
      unfold ViewTexts at hview
      rw [← hlen] at hview
      unfold ptrV at hview
      have Hview := Lib.hid hview
      clear hview hm hlen ho hok hh hof hfa hra hok0
      go_wp2_with fail
      refine (Hview.out F A _ Hh.out.rep).mono ?_
      rintro e w3 ⟨g1, cap1, rfl, hg1, ht1, hb3⟩
      have Hh3 := Lib.hid (Hh.out.more hb3)
      have Hof3 := Lib.hid (Hof.out.below hb3)
      have Hra3 := Lib.hid (adRow_keep hb3 Hra.out)
      have HF1 : Hid (¬ F g1) := fun hf => by have := Hh.out.rep.lt _ hf; omega
      have Ht1 := Lib.hid ht1
      have q0' : w3.cell? ⟨b, off + k * 3, none⟩ = some (.int .i64 o.kind) := (Hh3.out.below.cell (p := ⟨b, off + k * 3, none⟩) hbl).trans q0
      have q1' : w3.cell? ⟨b, off + k * 3 + 1, none⟩ = some (.int .i64 o.cls) := (Hh3.out.below.cell (p := ⟨b, off + k * 3 + 1, none⟩) hbl).trans q1
      have q2' : w3.cell? ⟨b, off + k * 3 + 2, none⟩ = some (.int .i64 o.n) := (Hh3.out.below.cell (p := ⟨b, off + k * 3 + 2, none⟩) hbl).trans q2
      have hperf := Lib.hid (perform_any F s A o k A.opened _ Hh3.out.rep Hok.out (by omega) (by omega) (by omega) hop0 (by omega))
      have hways := Lib.hid (sess_ways A o k A.opened)
      unfold ptrV at hperf
      unfold PerfPost at hperf
      clear hb3 ht1 hg1 Hh Hof Hra
      go_wp2_with fail
      refine hperf.out.mono ?_
      rintro e w4 ⟨rfl, ha⟩
      obtain ⟨R, hR⟩ : ∃ R, R = perfR A o k A.opened := ⟨_, rfl⟩
      obtain ⟨A', hAe⟩ : ∃ A', A' = perfA A o k A.opened := ⟨_, rfl⟩
      have hread := Lib.hid (fun n hn => read_same Hok0.out o k n hn)
      have hok' := Lib.hid (fun hn => ofOk_same Hok0.out o k A.opened hn)
      rw [← hAe] at ha hread hok' hways
      rw [← hR] at hread hok' hways ⊢
      clear hR hAe
      obtain ⟨F', hh4, hsep⟩ := Hh3.out.after ha
      obtain ⟨_, hk4⟩ := hsep g1 Ht1.out.1 HF1.out
      obtain ⟨hfa4, hka4⟩ := hsep ab (Array.getElem?_eq_some_iff.1 Hra3.out).1 Hfa.out
      have Ht4 := Lib.hid (Ht1.out.keep hk4)
      have Hof4 := Lib.hid (Hof3.out.keep hsep)
      have Hra4 := Lib.hid (hka4.trans Hra3.out)
      have Hfa4 := Lib.hid hfa4
      have Hh4 := Lib.hid hh4
      clear ha hh4 hk4 hsep Ht1 HF1 Hh3 hperf q0' q1' q2' hfa4 hka4 Hof3 Hra3 Hfa
      go_wp2_with fail
      refine (Hview.out F' A' _ Hh4.out.rep).mono ?_
      rintro e w5 ⟨g2, cap2, rfl, hg2, ht2, hb5⟩
      have Hh5 := Lib.hid (Hh4.out.more hb5)
      have Ht5 := Lib.hid (Ht4.out.below hb5)
      have Hof5 := Lib.hid (Hof4.out.below hb5)
      have Hra5 := Lib.hid (adRow_keep hb5 Hra4.out)
      have Ht2 := Lib.hid ht2
      clear hb5 ht2 hg2 Hh4 Ht4 Hof4 Hra4 Hview
      have q0' : w5.cell? ⟨b, off + k * 3, none⟩ = some (.int .i64 o.kind) := (Hh5.out.below.cell (p := ⟨b, off + k * 3, none⟩) hbl).trans q0
      have q1' : w5.cell? ⟨b, off + k * 3 + 1, none⟩ = some (.int .i64 o.cls) := (Hh5.out.below.cell (p := ⟨b, off + k * 3 + 1, none⟩) hbl).trans q1
      rcases hways.out with ⟨hk2, rfl, hAo, hoo⟩ | ⟨hno, hop', hk2R⟩
      · have hb2 : (pickI o.kind 4 == 2) = true := by rw [show pickI o.kind 4 = 2 from hk2]; rfl
        clear Ht5 Ht2 hread hok' hways
        have HAo := Lib.hid hAo
        have Hoo := Lib.hid hoo
        clear hAo hoo
        go_wp2_with (go_at_call 13; refine (hpick.out _).mono ?_; rintro e w' ⟨rfl, rfl⟩)
        have hN : (cs.length : Int) ≤ 40 := by rw [Hok0.out.len]; omega
        have hbx : Hid (w.heap.size ≤ (w5.alloc (.cells #[.int .i64 (classI o.cls)] 3)).heap.size) := by
          show w.heap.size ≤ _
          have := Hh5.out.below.size
          simp; omega
        have N1 : Hid (cs.length + 1 ≤ maxLen) := by show cs.length + 1 ≤ maxLen; unfold maxLen; omega
        have N2 : Hid ((cs.length + 1) * 8 ≤ 140737488355328) := by show (cs.length + 1) * 8 ≤ 140737488355328; omega
        have Hc1 := Lib.hid (cell_one_new w5 (.int .i64 (classI o.cls)) 3)
        have Hc2 : Hid (∀ u ∈ [Value.int .i64 (classI o.cls)], u.oneCell' = true) := by show ∀ u ∈ [Value.int .i64 (classI o.cls)], u.oneCell' = true; simp [Value.oneCell']
        refine (class_any o.cls _ Hok.out.2.1.1 Hok.out.2.1.2).mono ?_
        rintro e w' ⟨rfl, rfl⟩
        go_wp2_with (at_builtin; refine wpList_append_own_at _ rfl _ _ 27 rfl w.heap.size 3 i0 (.int .i64 0) 1 8 Try.underlying27 hi hz0 hz1 hz2 rfl (by decide) _ _ _ rfl (Hof5.out.1.alloc _) ⟨w5.heap.size, 0, none⟩ 1 1 [.int .i64 (classI o.cls)] rfl rfl Hc1.out Hc2.out N1.out N2.out hbx.out ?_; intro v' w6 hown6 hgrow6 _ hat6)
        obtain ⟨hh6, hof6, hra6⟩ := of_append Hh5.out Hof5.out Hra5.out hown6 hgrow6 hat6
        have Hh6 := Lib.hid hh6
        have Hof6 := Lib.hid hof6
        have Hra6 := Lib.hid hra6
        have Hok6 : Hid (OfOk A' (cs ++ [classI o.cls])) := by
          show OfOk A' (cs ++ [classI o.cls])
          rw [HAo.out]
          exact ofOk_open Hok0.out _ Hoo.out
        have hop6 : A'.opened = A.opened + 1 := by rw [HAo.out, openA_yes Hoo.out]
        have Hop6 := Lib.hid hop6
        have hrd : Hid (∀ a, readA A' (A.opened + 1) a = getA A' (classI o.cls) a) := by
          intro a
          rw [HAo.out]
          exact open_reads Hok0.out _ Hoo.out a
        clear hh6 hof6 hra6 hown6 hgrow6 hat6 hop6 Hh5 Hof5 Hra5 Hoo HAo Hok0 N1 N2 Hc1 Hc2 hbx hN q0' q1' hb2 hpick
        go_loopw [15] (fun j v => ∃ t : Nat, j = .int .i64 t ∧ t ≤ 5 ∧ Held w s A' F' v ∧ OfAt w F' v v' (cs ++ [classI o.cls]) ∧ v.heap[ab]? = some adRow) (fun j _ => 5 - (intOf j).toNat)
        case atStart => exact ⟨0, rfl, by omega, Hh6.out, Hof6.out, Hra6.out⟩
        case round =>
          clear Hh6 Hof6 Hra6
          obtain ⟨t, rfl, ht, hh, hof, hra⟩ := hrel
          have Hh := Lib.hid hh
          have Hof := Lib.hid hof
          have Hra := Lib.hid hra
          by_cases htl : t < 5
          · have ht0 : (0 : Int) ≤ (t : Int) := by omega
            have ht5 : (t : Int) < 5 := by omega
            have c0 := adRow_at hra t htl
            have c1 : wr.cell? ⟨b, off + k * 3 + 1, none⟩ = some (.int .i64 o.cls) := (hh.below.cell (p := ⟨b, off + k * 3 + 1, none⟩) hbl).trans q1
            have hread := Lib.hid (fun W (h : Rep F' W s A') => read_any F' s A' (A.opened + 1) (ad t) W h (by omega) (by omega) (by have := ad_size t; omega))
            have hget := Lib.hid (fun W (h : Rep F' W s A') => getA_any F' s A' (classI o.cls) (ad t) W h (by have := ad_size t; omega))
            have hrd1 := hrd.out (ad t)
            obtain ⟨r, hr⟩ : ∃ r, r = getA A' (classI o.cls) (ad t) := ⟨_, rfl⟩
            rw [hrd1, ← hr] at hread
            rw [← hr] at hget
            unfold ptrV at hread hget
            clear hrd1 hr hh hof hra
            go_wp2_with (go_at_call 15; refine (hread.out _ Hh.out.rep).mono ?_; rintro e w' ⟨rfl, rfl⟩)
            go_quiet ((first
              | (go_at_call 14; exact quiet_eq (class_any o.cls _ Hok.out.2.1.1 Hok.out.2.1.2))
              | (go_at_call 16; exact quiet_eq (hget.out _ (Hh.out.drewN _).rep))))
            go_wp2
            go_roundw
            case rel => exact ⟨t + 1, by go_num, by omega, Hh.out.drewN _, Hof.out, Hra.out⟩
            case measure => simp [intOf]; omega
          · clear hh hof hra
            go_wp2
            go_roundw
            case rel => exact ⟨k + 1, F', A', cs ++ [classI o.cls], by go_num, by omega, by rw [Hop6.out], Hof.out, Hh.out, Hfa4.out, Hra.out, Hok6.out, by rw [Hop6.out]; omega, by rw [Hop6.out]; omega⟩
            case measure => simp [intOf]; omega
      · have hall : Hid (∀ q : Int, (∀ a, readA A' q a = readA A q a) ∨ (o.k = 3 ∧ q = pickI o.n (A.opened + 2)) ∨ (o.k = 1 ∧ 1 ≤ q ∧ q ≤ A.opened ∧ cs[(q - 1).toNat]? = some (classI o.cls))) := fun q => hread.out q hno
        have Hok' := Lib.hid (hok'.out hno)
        have Hop' := Lib.hid hop'
        have Hlc := Lib.hid Hok0.out.len
        obtain ⟨a7, cap7, hu7, _⟩ := Hof5.out.form
        subst hu7
        have hbR : o.k = 2 ∧ (pickI o.kind 4 == 2) = true ∧ R = (0, 250) ∨ o.k ≠ 2 ∧ (pickI o.kind 4 == 2) = false := by
          by_cases hk2 : o.k = 2
          · exact .inl ⟨hk2, by rw [show pickI o.kind 4 = 2 from hk2]; rfl, hk2R hk2⟩
          · exact .inr ⟨hk2, by simpa [OpI.k] using hk2⟩
        clear hread hok' hways hno hop' hk2R Hok0
        rcases hbR with ⟨hk2, hb2, rfl⟩ | ⟨hk2, hb2⟩
        all_goals
          go_wp2_with (go_at_call 13; refine (hpick.out _).mono ?_; rintro e w' ⟨rfl, rfl⟩)
          clear hb2 q0' q1' hpick
          go_loopw [21] (fun i v => ∃ t : Nat, i = .int .i64 t ∧ 30 ≤ t ∧ t ≤ len ∧ Held w s A' F' v ∧ TextsAt v g1 (viewL A m) ∧ TextsAt v g2 (viewL A' m) ∧ OfAt w F' v (.slice a7 cs.length cap7) cs ∧ v.heap[ab]? = some adRow) (fun i _ => len - (intOf i).toNat)
          case atStart => exact ⟨30, rfl, by omega, by have := Hlen2.out; omega, Hh5.out, Ht5.out, Ht2.out, Hof5.out, Hra5.out⟩
          case round =>
            clear Hh5 Ht5 Ht2 Hof5 Hra5
            obtain ⟨t, rfl, ht0, ht, hh, t1, t2, hof, hra⟩ := hrel
            by_cases htl : t < len
            · have c1 := t1.2 t _ (viewL_read A m t ht0 (by rw [← Hlen.out]; exact htl))
              have c2 := t2.2 t _ (viewL_read A' m t ht0 (by rw [← Hlen.out]; exact htl))
              have d1 : wr.cell? ⟨b, off + k * 3 + 1, none⟩ = some (.int .i64 o.cls) := (hh.below.cell (p := ⟨b, off + k * 3 + 1, none⟩) hbl).trans q1
              have d2 : wr.cell? ⟨b, off + k * 3 + 2, none⟩ = some (.int .i64 o.n) := (hh.below.cell (p := ⟨b, off + k * 3 + 2, none⟩) hbl).trans q2
              have Hh := Lib.hid hh
              have Hof := Lib.hid hof
              have Hra := Lib.hid hra
              have T1 := Lib.hid t1
              have T2 := Lib.hid t2
              have ht30 : (30 : Int) ≤ (t : Int) := by omega
              have htl' : (t : Int) < (len : Int) := by omega
              obtain ⟨j, hj⟩ : ∃ j : Nat, j = (t - 30) / 5 := ⟨_, rfl⟩
              have hways := round_ways hj Hlc.out (hall.out j)
              have hjq : ((t : Int) - 30) / 5 = (j : Int) := num_eq ht0 hj
              have hjt : (j : Int) ≤ 10000 := by omega
              have Hjq := Lib.hid hjq
              have hsess := Lib.hid (fun W => session_any o.n A.opened W Hok.out.2.2.1 Hok.out.2.2.2 hop0 (by omega))
              obtain ⟨x, hx⟩ : ∃ x, x = readS A (t - 30) := ⟨_, rfl⟩
              obtain ⟨y, hy⟩ : ∃ y, y = readS A' (t - 30) := ⟨_, rfl⟩
              rw [← hx] at c1
              rw [← hy] at c2
              rw [← hx, ← hy] at hways
              clear hh hof hra t1 t2 hx hy hj hjq
              rcases hways with ⟨rfl, hk3⟩ | ⟨rfl, hk1, rfl⟩ | ⟨rfl, hk1, i, rfl, hlcs⟩ | ⟨rfl, hk1, i, cc, rfl, hlcs, hcc⟩ | ⟨rfl, hk3, hk1⟩ | ⟨hne, hk3, hq⟩ | ⟨hne, hk1, i, cc, rfl, hlcs, hcc, hce⟩
              · first
                | (exfalso; omega)
                | (have hb3 : (pickI o.kind 4 == 3) = true := by rw [show pickI o.kind 4 = 3 from hk3]; rfl
                   have hb1 : (pickI o.kind 4 == 1) = false := by rw [show pickI o.kind 4 = 3 from hk3]; rfl
                   go_wp2_with (go_at_call 17; refine (hsess.out _).mono ?_; rintro e w' ⟨rfl, rfl⟩)
                   rw [Hjq.out]
                   go_quiet (fail)
                   go_wp2_with fail
                   go_quiet (fail)
                   go_wp2
                   go_roundw
                   case rel => exact ⟨t + 1, by go_num, by omega, by omega, Hh.out.drewN _, T1.out, T2.out, Hof.out, Hra.out⟩
                   case measure => simp [intOf]; omega)
              · first
                | (exfalso; omega)
                | (have hb3 : (pickI o.kind 4 == 3) = false := by rw [show pickI o.kind 4 = 1 from hk1]; rfl
                   have hb1 : (pickI o.kind 4 == 1) = true := by rw [show pickI o.kind 4 = 1 from hk1]; rfl
                   have Hj2 : Hid (((t : Int) - 30) / 5 = 0) := by show ((t : Int) - 30) / 5 = 0; have := Hjq.out; omega
                   go_wp2_with fail
                   rw [Hj2.out]
                   go_quiet (fail)
                   go_wp2_with fail
                   go_quiet (fail)
                   go_wp2
                   go_roundw
                   case rel => exact ⟨t + 1, by go_num, by omega, by omega, Hh.out.drewN _, T1.out, T2.out, Hof.out, Hra.out⟩
                   case measure => simp [intOf]; omega)
              · first
                | (exfalso; omega)
                | (have hb3 : (pickI o.kind 4 == 3) = false := by rw [show pickI o.kind 4 = 1 from hk1]; rfl
                   have hb1 : (pickI o.kind 4 == 1) = true := by rw [show pickI o.kind 4 = 1 from hk1]; rfl
                   have Hj2 : Hid (((t : Int) - 30) / 5 = (i : Int) + 1) := by show ((t : Int) - 30) / 5 = (i : Int) + 1; have := Hjq.out; omega
                   have hd1 : decide ((1 : Int) ≤ (i : Int) + 1) = true := by simpa using (by omega : (1 : Int) ≤ (i : Int) + 1)
                   have hd2 : decide ((i : Int) + 1 ≤ (cs.length : Int)) = false := by simpa using (by omega : ¬ (i : Int) + 1 ≤ (cs.length : Int))
                   go_wp2_with fail
                   rw [Hj2.out]
                   go_quiet (fail)
                   go_wp2_with fail
                   go_quiet (fail)
                   go_wp2
                   go_roundw
                   case rel => exact ⟨t + 1, by go_num, by omega, by omega, Hh.out.drewN _, T1.out, T2.out, Hof.out, Hra.out⟩
                   case measure => simp [intOf]; omega)
              · first
                | (exfalso; omega)
                | (have hb3 : (pickI o.kind 4 == 3) = false := by rw [show pickI o.kind 4 = 1 from hk1]; rfl
                   have hb1 : (pickI o.kind 4 == 1) = true := by rw [show pickI o.kind 4 = 1 from hk1]; rfl
                   have Hj2 : Hid (((t : Int) - 30) / 5 = (i : Int) + 1) := by show ((t : Int) - 30) / 5 = (i : Int) + 1; have := Hjq.out; omega
                   obtain ⟨g7, rfl, hcell⟩ := Hof.out.cell hcc
                   have hd1 : decide ((1 : Int) ≤ (i : Int) + 1) = true := by simpa using (by omega : (1 : Int) ≤ (i : Int) + 1)
                   have hd2 : decide ((i : Int) + 1 ≤ (cs.length : Int)) = true := by simpa using (by omega : (i : Int) + 1 ≤ (cs.length : Int))
                   have hi0 : (0 : Int) ≤ (i : Int) := by omega
                   have hi1 : (i : Int) < (cs.length : Int) := by omega
                   have hiw : IntKind.i64.wrap (i : Int) = (i : Int) := IntWalk.i64_in _ ⟨by omega, by omega⟩
                   go_wp2_with fail
                   rw [Hj2.out]
                   go_quiet ((go_at_call 14; exact quiet_eq (class_any o.cls _ Hok.out.2.1.1 Hok.out.2.1.2)))
                   go_wp2_with fail
                   go_quiet (fail)
                   go_wp2
                   go_roundw
                   case rel => exact ⟨t + 1, by go_num, by omega, by omega, Hh.out.drewN _, T1.out, T2.out, Hof.out, Hra.out⟩
                   case measure => simp [intOf]; omega)
              · have hb3 : (pickI o.kind 4 == 3) = false := by simpa [OpI.k] using hk3
                have hb1 : (pickI o.kind 4 == 1) = false := by simpa [OpI.k] using hk1
                go_wp2_with fail
                rw [Hjq.out]
                go_quiet (fail)
                go_wp2_with fail
                go_quiet (fail)
                go_wp2
                go_roundw
                case rel => exact ⟨t + 1, by go_num, by omega, by omega, Hh.out.drewN _, T1.out, T2.out, Hof.out, Hra.out⟩
                case measure => simp [intOf]; omega
              · first
                | (exfalso; omega)
                | (have hb3 : (pickI o.kind 4 == 3) = true := by rw [show pickI o.kind 4 = 3 from hk3]; rfl
                   have hb1 : (pickI o.kind 4 == 1) = false := by rw [show pickI o.kind 4 = 3 from hk3]; rfl
                   have hst := toList_ne hne
                   have hqb : ((j : Int) == pickI o.n (A.opened + 2)) = true := by simpa using hq
                   go_wp2_with (go_at_call 17; refine (hsess.out _).mono ?_; rintro e w' ⟨rfl, rfl⟩)
                   rw [Hjq.out]
                   go_quiet (fail)
                   go_wp2_with fail
                   go_quiet (fail)
                   go_wp2
                   go_roundw
                   case rel => exact ⟨t + 1, by go_num, by omega, by omega, Hh.out.drewN _, T1.out, T2.out, Hof.out, Hra.out⟩
                   case measure => simp [intOf]; omega)
              · first
                | (exfalso; omega)
                | (subst hce
                   have hst := toList_ne hne
                   have hb3 : (pickI o.kind 4 == 3) = false := by rw [show pickI o.kind 4 = 1 from hk1]; rfl
                   have hb1 : (pickI o.kind 4 == 1) = true := by rw [show pickI o.kind 4 = 1 from hk1]; rfl
                   have Hj2 : Hid (((t : Int) - 30) / 5 = (i : Int) + 1) := by show ((t : Int) - 30) / 5 = (i : Int) + 1; have := Hjq.out; omega
                   obtain ⟨g7, rfl, hcell⟩ := Hof.out.cell hcc
                   have hd1 : decide ((1 : Int) ≤ (i : Int) + 1) = true := by simpa using (by omega : (1 : Int) ≤ (i : Int) + 1)
                   have hd2 : decide ((i : Int) + 1 ≤ (cs.length : Int)) = true := by simpa using (by omega : (i : Int) + 1 ≤ (cs.length : Int))
                   have hi0 : (0 : Int) ≤ (i : Int) := by omega
                   have hi1 : (i : Int) < (cs.length : Int) := by omega
                   have hiw : IntKind.i64.wrap (i : Int) = (i : Int) := IntWalk.i64_in _ ⟨by omega, by omega⟩
                   go_wp2_with fail
                   rw [Hj2.out]
                   go_quiet ((go_at_call 14; exact quiet_eq (class_any o.cls _ Hok.out.2.1.1 Hok.out.2.1.2)))
                   go_wp2_with fail
                   go_quiet (fail)
                   go_wp2
                   go_roundw
                   case rel => exact ⟨t + 1, by go_num, by omega, by omega, Hh.out.drewN _, T1.out, T2.out, Hof.out, Hra.out⟩
                   case measure => simp [intOf]; omega)
            · have Hh := Lib.hid hh
              have Hof := Lib.hid hof
              have Hra := Lib.hid hra
              clear hh hof hra t1 t2
              go_wp2
              go_roundw
              case rel => exact ⟨k + 1, F', A', cs, by go_num, by omega, by rw [Hop'.out], Hof.out, Hh.out, Hfa4.out, Hra.out, Hok'.out, by rw [Hop'.out]; omega, by rw [Hop'.out]; omega⟩
              case measure => simp [intOf]; omega
    · clear hh hof hfa hra hok0
      go_wp2
      go_ret
      exact ⟨rfl, Hh.out.below⟩
end Go.Proofs.Ytgheokocdfgjpaa
