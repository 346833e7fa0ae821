/- Chapter 30: Open and Keep at all arguments, of the program and of the reference: the same values. The reference of the digest: Same. The reference of chapter 30: Check and joined. -/
import Derived.Test.YtjfondfjdhjooaaGreatDoorCbK
namespace Go.Proofs.YtjfondfjdhjooaaGreatDoor
set_option linter.unusedVariables false
set_option linter.unusedSimpArgs false

section
open Go.RowKit

/-- What Open returns (its path's place left open). -/
noncomputable def opV (l : List Int) (salt : ByteArray) (i : Int) : Og := if sdOk l salt = true ∧ wiB i 0 ((l.length : Int) - 1) = true then ⟨i, l[i.toNat]?.getD 0, kslt salt i.toNat, none, 0, pt (ksL l salt) i.toNat⟩ else ⟨0, 0, ⟨#[]⟩, none, 0, []⟩
noncomputable def opE (l : List Int) (salt : ByteArray) (i : Int) : Int := if sdOk l salt = true ∧ wiB i 0 ((l.length : Int) - 1) = true then 0 else 1
/-- What Keep returns. -/
noncomputable def kpV (l : List Int) (need total : Int) (random : List Int) (i k : Int) : Kp := if dvB l ⟨#[]⟩ need total random = true ∧ wiB i 0 ((l.length : Int) - 1) = true ∧ wiB k 0 (total - 1) = true then ⟨i, (k + 1, evp (kpoly l need.toNat random i.toNat) (k + 1)), none, 0, pt (khP l need.toNat total.toNat random l.length) (i.toNat * total.toNat + k.toNat)⟩ else ⟨0, (0, 0), none, 0, []⟩
noncomputable def kpE (l : List Int) (need total : Int) (random : List Int) (i k : Int) : Int := if dvB l ⟨#[]⟩ need total random = true ∧ wiB i 0 ((l.length : Int) - 1) = true ∧ wiB k 0 (total - 1) = true then 0 else 1

theorem PathIn.nil (w : World) : PathIn w none [] := ⟨⟨rfl, fun h => absurd h (by simp)⟩, fun a ha => (by cases ha)⟩
theorem kopen_all (A : Option Addr) (c : Nat) (l : List Int) (salt : ByteArray) (i : Int) (w : World) (hA : Ints w A l) (hl : l.length ≤ 9223372036854775807) (hs : salt.size ≤ 9223372036854775807) (hT : Tabs w) :
    Calls Tryz.prog 19 #[.slice A l.length c, .string salt, .int .i64 i] w fun e w' => ∃ A' c', e = .returned (.tuple #[.agg #[.int .i64 (opV l salt i).ix, .int .i64 (opV l salt i).v, .string (opV l salt i).salt, .slice A' (opV l salt i).p.length c'], .int .i64 (opE l salt i)]) ∧ Strs w' A' (opV l salt i).p ∧ Below w.heap.size w w' := by
  unfold opV opE
  by_cases h : sdOk l salt = true ∧ wiB i 0 ((l.length : Int) - 1) = true
  · rw [if_pos h, if_pos h]
    have hw := of_decide_eq_true h.2
    obtain ⟨I, rfl⟩ : ∃ I : Nat, i = (I : Int) := ⟨i.toNat, by omega⟩
    rw [Int.toNat_natCast]
    obtain ⟨v, hv⟩ := get_some l I (by omega)
    rw [hv, Option.getD_some]
    refine (kopen_ok A c l salt I v w hA hs h.1 hv hT).mono ?_
    rintro e w' ⟨A', c', rfl, -, hp, hb⟩
    exact ⟨A', c', rfl, hp.1, hb⟩
  · rw [if_neg h, if_neg h]
    refine (kopen_bad A c l salt i w hA hl hs (by
      cases h1 : sdOk l salt with
      | false => exact .inl rfl
      | true =>
        cases h2 : wiB i 0 ((l.length : Int) - 1) with
        | false => exact .inr rfl
        | true => exact absurd ⟨h1, h2⟩ h)).mono ?_
    rintro e w' ⟨rfl, hb⟩
    exact ⟨none, 0, rfl, (PathIn.nil w').1, hb⟩
theorem ropen_all (A : Option Addr) (c : Nat) (l : List Int) (salt : ByteArray) (i : Int) (w : World) (hA : Ints w A l) (hl : l.length ≤ 9223372036854775807) (hs : salt.size ≤ 9223372036854775807) (hs2 : salt.size ≤ 400 → salt.size ≤ 200) :
    Calls Tryz.prog 20 #[.slice A l.length c, .string salt, .int .i64 i] w fun e w' => ∃ A' c', e = .returned (.tuple #[.agg #[.int .i64 (opV l salt i).ix, .int .i64 (opV l salt i).v, .string (opV l salt i).salt, .slice A' (opV l salt i).p.length c'], .int .i64 (opE l salt i)]) ∧ Strs w' A' (opV l salt i).p ∧ Below w.heap.size w w' := by
  unfold opV opE
  by_cases h : sdOk l salt = true ∧ wiB i 0 ((l.length : Int) - 1) = true
  · rw [if_pos h, if_pos h]
    have hw := of_decide_eq_true h.2
    obtain ⟨I, rfl⟩ : ∃ I : Nat, i = (I : Int) := ⟨i.toNat, by omega⟩
    rw [Int.toNat_natCast]
    obtain ⟨v, hv⟩ := get_some l I (by omega)
    rw [hv, Option.getD_some]
    refine (ropen_ok A c l salt I v w hA (hs2 (by have := h.1; unfold sdOk at this; simp only [Bool.and_eq_true, decide_eq_true_eq] at this; exact this.2.2.2)) h.1 hv).mono ?_
    rintro e w' ⟨A', c', rfl, -, hp, hb⟩
    exact ⟨A', c', rfl, hp.1, hb⟩
  · rw [if_neg h, if_neg h]
    refine (ropen_bad A c l salt i w hA hl hs (by
      cases h1 : sdOk l salt with
      | false => exact .inl rfl
      | true =>
        cases h2 : wiB i 0 ((l.length : Int) - 1) with
        | false => exact .inr rfl
        | true => exact absurd ⟨h1, h2⟩ h)).mono ?_
    rintro e w' ⟨rfl, hb⟩
    exact ⟨none, 0, rfl, (PathIn.nil w').1, hb⟩
theorem not3 {a b c : Bool} (h : ¬ (a = true ∧ b = true ∧ c = true)) : a = false ∨ b = false ∨ c = false := by
  cases a <;> cases b <;> cases c <;> simp_all
theorem kkeep_all (A : Option Addr) (c : Nat) (l : List Int) (need total : Int) (B : Option Addr) (d : Nat) (random : List Int) (i k : Int) (w : World) (hA : Ints w A l) (hB : Ints w B random) (hl : l.length ≤ 9223372036854775807) (hd : random.length ≤ d) (hd2 : d ≤ 9223372036854775807) (hT : Tabs w) :
    Calls Tryz.prog 21 #[.slice A l.length c, .int .i64 need, .int .i64 total, .slice B random.length d, .int .i64 i, .int .i64 k] w fun e w' => ∃ A' c', e = .returned (.tuple #[.agg #[.int .i64 (kpV l need total random i k).ix, .int .i64 (kpV l need total random i k).s.1, .int .i64 (kpV l need total random i k).s.2, .slice A' (kpV l need total random i k).p.length c'], .int .i64 (kpE l need total random i k)]) ∧ Strs w' A' (kpV l need total random i k).p ∧ Below w.heap.size w w' := by
  unfold kpV kpE
  by_cases h : dvB l ⟨#[]⟩ need total random = true ∧ wiB i 0 ((l.length : Int) - 1) = true ∧ wiB k 0 (total - 1) = true
  · rw [if_pos h, if_pos h]
    obtain ⟨n, m, rfl, rfl, hok⟩ := DivOk.of h.1
    have hw := of_decide_eq_true h.2.1
    have hw2 := of_decide_eq_true h.2.2
    obtain ⟨I, rfl⟩ : ∃ I : Nat, i = (I : Int) := ⟨i.toNat, by omega⟩
    obtain ⟨K, rfl⟩ : ∃ K : Nat, k = (K : Int) := ⟨k.toNat, by omega⟩
    simp only [Int.toNat_natCast]
    refine (kkeep_ok A c l n m B d random I K w hA hB hd hd2 h.1 (by omega) (by omega) hT).mono ?_
    rintro e w' ⟨A', c', rfl, -, hp, hb⟩
    exact ⟨A', c', rfl, hp.1, hb⟩
  · rw [if_neg h, if_neg h]
    refine (kkeep_bad A c l need total B d random i k w hA hB hl (by omega) (not3 h)).mono ?_
    rintro e w' ⟨rfl, hb⟩
    exact ⟨none, 0, rfl, (PathIn.nil w').1, hb⟩
theorem rkeep_all (A : Option Addr) (c : Nat) (l : List Int) (need total : Int) (B : Option Addr) (d : Nat) (random : List Int) (i k : Int) (w : World) (hA : Ints w A l) (hB : Ints w B random) (hl : l.length ≤ 9223372036854775807) (hd : random.length ≤ d) (hd2 : d ≤ 9223372036854775807) :
    Calls Tryz.prog 22 #[.slice A l.length c, .int .i64 need, .int .i64 total, .slice B random.length d, .int .i64 i, .int .i64 k] w fun e w' => ∃ A' c', e = .returned (.tuple #[.agg #[.int .i64 (kpV l need total random i k).ix, .int .i64 (kpV l need total random i k).s.1, .int .i64 (kpV l need total random i k).s.2, .slice A' (kpV l need total random i k).p.length c'], .int .i64 (kpE l need total random i k)]) ∧ Strs w' A' (kpV l need total random i k).p ∧ Below w.heap.size w w' := by
  unfold kpV kpE
  by_cases h : dvB l ⟨#[]⟩ need total random = true ∧ wiB i 0 ((l.length : Int) - 1) = true ∧ wiB k 0 (total - 1) = true
  · rw [if_pos h, if_pos h]
    obtain ⟨n, m, rfl, rfl, hok⟩ := DivOk.of h.1
    have hw := of_decide_eq_true h.2.1
    have hw2 := of_decide_eq_true h.2.2
    obtain ⟨I, rfl⟩ : ∃ I : Nat, i = (I : Int) := ⟨i.toNat, by omega⟩
    obtain ⟨K, rfl⟩ : ∃ K : Nat, k = (K : Int) := ⟨k.toNat, by omega⟩
    simp only [Int.toNat_natCast]
    refine (rkeep_ok A c l n m B d random I K w hA hB hd hd2 h.1 (by omega) (by omega)).mono ?_
    rintro e w' ⟨A', c', rfl, -, hp, hb⟩
    exact ⟨A', c', rfl, hp.1, hb⟩
  · rw [if_neg h, if_neg h]
    refine (rkeep_bad A c l need total B d random i k w hA hB hl (by omega) (not3 h)).mono ?_
    rintro e w' ⟨rfl, hb⟩
    exact ⟨none, 0, rfl, (PathIn.nil w').1, hb⟩
end

section
open Go.RowKit

set_option maxRecDepth 100000 in
set_option maxHeartbeats 2000000 in
theorem rsame (A B : Option Addr) (c d : Nat) (l m : List ByteArray) (w : World) (h : Strs w A l) (h' : Strs w B m) (hl : l.length ≤ 9223372036854775807) (hm : m.length ≤ 9223372036854775807) :
    Calls Tryz.prog 23 #[.slice A l.length c, .slice B m.length d] w fun e w' => e = .returned (.bool (decide (l = m))) ∧ Below w.heap.size w w' := by
  have H := Lib.hid h
  have H' := Lib.hid h'
  clear h h'
  by_cases hlm : l.length = m.length
  · obtain ⟨n, hn⟩ : ∃ n, m.length = n := ⟨_, rfl⟩
    have HLM : Hid (l.length = n) := Lib.hid (by rw [hlm, hn])
    have HN := Lib.hid hn
    rw [hlm, hn]
    rw [hn] at hm
    clear hn hlm hl
    go_enter Tryz.func23, Tryz.ntmps23
    go_wp2_with fail
    go_loopw [5] (fun u wr => ∃ k : Nat, k ≤ n ∧ u = .int .i64 k ∧ l.take k = m.take k ∧ Below w.heap.size w wr) (fun u _ => n - (intOf u).toNat)
    case atStart => exact ⟨0, Nat.zero_le _, rfl, rfl, Below.refl _ _⟩
    case round =>
    obtain ⟨k, hk, rfl, htk, hbw⟩ := hrel
    have HTK := Lib.hid htk
    have HBW := Lib.hid hbw
    clear htk hbw
    by_cases hlt : k < n
    · obtain ⟨s, hs⟩ := get_some l k (by rw [HLM.out]; exact hlt)
      obtain ⟨s', hs'⟩ := get_some m k (by rw [HN.out]; exact hlt)
      obtain ⟨b, off, rfl, c0⟩ := (H.out.below HBW.out).at_ hs
      obtain ⟨b', off', rfl, c0'⟩ := (H'.out.below HBW.out).at_ hs'
      have HA := Lib.hid hs
      have HA' := Lib.hid hs'
      clear hs hs'
      by_cases hss : s = s'
      · subst hss
        have t1 := beq_true s
        go_wp2_with fail
        go_region
        go_wp2_with fail
        go_roundw
        case rel => exact ⟨k + 1, by omega, by go_num, by rw [take_snoc _ _ _ HA.out, take_snoc _ _ _ HA'.out, HTK.out], by first | exact HBW.out | exact HBW.out.drew⟩
        case measure => simp [intOf]; omega
      · have HD : Hid (decide (l = m) = false) := Lib.hid (decide_eq_false (by rintro rfl; exact hss (by have := HA.out.symm.trans HA'.out; exact Option.some.inj this)))
        obtain ⟨t1, t2⟩ := bne_of s s' hss
        clear hss
        go_wp2_with fail
        go_region
        go_wp2
        go_ret
        exact ⟨ret_bool HD.out.symm, by first | exact HBW.out | exact HBW.out.drew⟩
    · obtain rfl : k = n := by omega
      have HD : Hid (decide (l = m) = true) := Lib.hid (decide_eq_true (by
        have := HTK.out
        rwa [List.take_of_length_le (by rw [HLM.out]; exact Nat.le_refl _), List.take_of_length_le (by rw [HN.out]; exact Nat.le_refl _)] at this))
      go_wp2
      go_ret
      exact ⟨ret_bool HD.out.symm, HBW.out⟩
  · have HD : Hid (decide (l = m) = false) := Lib.hid (decide_eq_false (by rintro rfl; exact hlm rfl))
    have hlm2 : (l.length : Int) ≠ (m.length : Int) := by omega
    go_enter Tryz.func23, Tryz.ntmps23
    go_wp2
    go_ret
    exact ⟨ret_bool HD.out.symm, Below.refl _ _⟩
end

section
open Go.RowKit

/-- What is known of an opening that Short lets pass. -/
structure OgS (w : World) (o : Og) : Prop where
  f : OgFit w o
  cap : o.p.length ≤ o.c
  p12 : o.p.length ≤ 12
  salt : o.salt.size ≤ 100
  sm : sm o.p
theorem OgS.below {w w' : World} {o : Og} (h : OgS w o) (hb : Below w.heap.size w w') : OgS w' o := ⟨h.f.below hb, h.cap, h.p12, h.salt, h.sm⟩
theorem OgS.of {o : Og} {w : World} (h : shO o = true) (hi : OgIn w o) : OgS w o := by
  unfold shO at h
  rw [Bool.and_eq_true] at h
  obtain ⟨h1, h2⟩ := of_decide_eq_true h.1
  have h3 := h.2
  unfold fewB at h3
  rw [Bool.and_eq_true] at h3
  have h4 : ∀ s, s ∈ o.p → s.size ≤ 100 := fun s hs => of_decide_eq_true (List.all_eq_true.1 h3.1 s hs)
  exact ⟨⟨hi.p, by omega, fun s hs => by have := h4 s hs; omega, by omega, hi.ix, hi.v⟩, hi.cap, h1, h2, fun s hs => by have := h4 s hs; omega⟩
set_option maxRecDepth 100000 in
set_option maxHeartbeats 8000000 in
theorem rcheck30_any (cm : ByteArray × ByteArray) (n : Int) (o : Og) (w : World) (hO : OgS w o) (hn : i64ok n) :
    Calls Tryz.prog 28 #[.agg #[.string cm.1, .string cm.2], .int .i64 n, .agg #[.int .i64 o.ix, .int .i64 o.v, .string o.salt, .slice o.A o.p.length o.c]] w fun e w' => e = .returned (.bool (ckB cm.1 n o.ix o.v o.salt o.p)) ∧ Below w.heap.size w w' := by
  obtain ⟨w0, hw0⟩ : ∃ w0, (w.alloc (.cells #[.string cm.1, .string cm.2] 29)).alloc (.cells #[.int .i64 o.ix, .int .i64 o.v, .string o.salt, .slice o.A o.p.length o.c] 32) = w0 := ⟨_, rfl⟩
  have HB0 : Hid (Below w.heap.size w w0) := Lib.hid (by rw [← hw0]; exact below_alloc (below_alloc (Below.refl _ _) _) _)
  have HK : Hid (∀ W, Below w0.heap.size w0 W → W.cell? ⟨w.heap.size, 0, none⟩ = some (.string cm.1) ∧ W.cell? ⟨w.heap.size + 1, 0, none⟩ = some (.int .i64 o.ix) ∧ W.cell? ⟨w.heap.size + 1, 1, none⟩ = some (.int .i64 o.v) ∧ W.cell? ⟨w.heap.size + 1, 2, none⟩ = some (.string o.salt) ∧ W.cell? ⟨w.heap.size + 1, 3, none⟩ = some (.slice o.A o.p.length o.c) ∧ w.heap.size + 1 < W.heap.size) := Lib.hid (fun W hW => by
    have h1 : Blk w0 (w.heap.size + 1) 32 #[.int .i64 o.ix, .int .i64 o.v, .string o.salt, .slice o.A o.p.length o.c] := by rw [← hw0]; exact Blk.new _ _ _ _ (by simp)
    have h2 : Blk w0 w.heap.size 29 #[.string cm.1, .string cm.2] := by rw [← hw0]; exact (Blk.new w _ _ _ rfl).alloc _
    have h0 := kept_cell hW (h1.of_cell (i := 0) rfl)
    exact ⟨kept_cell hW (h2.of_cell (i := 0) rfl), h0, kept_cell hW (h1.of_cell (i := 1) rfl), kept_cell hW (h1.of_cell (i := 2) rfl), kept_cell hW (h1.of_cell (i := 3) rfl), lt_of_cell h0⟩)
  obtain ⟨nlo, nhi⟩ := hn
  obtain ⟨r, hr⟩ : ∃ r, ckB cm.1 n o.ix o.v o.salt o.p = r := ⟨_, rfl⟩
  have HN1 : Hid (wiB n 1 600 = false → r = false) := Lib.hid (fun h => by
    have h := of_decide_eq_false h
    rw [← hr]; unfold ckB; rw [decide_eq_false (by omega)]; rfl)
  have HN2 : Hid (wiB o.ix 0 (n - 1) = false → r = false) := Lib.hid (fun h => by
    have h := of_decide_eq_false h
    rw [← hr]; unfold ckB; rw [decide_eq_false (by omega)]; rfl)
  have HN3 : Hid (wiB o.v 0 719 = false → r = false) := Lib.hid (fun h => by
    have h := of_decide_eq_false h
    rw [← hr]; unfold ckB; rw [decide_eq_false (by omega)]; rfl)
  have HN4 : Hid (isD o.salt = false → r = false) := Lib.hid (fun h => by rw [← hr]; unfold ckB; rw [h]; simp)
  have HY : Hid (wiB n 1 600 = true → wiB o.ix 0 (n - 1) = true → wiB o.v 0 719 = true → isD o.salt = true → r = chkB cm.1 n o.ix (ksLf o.ix.toNat o.v.toNat o.salt) o.p) := Lib.hid (fun h1 h2 h3 h4 => by
    have h1 := of_decide_eq_true h1
    have h2 := of_decide_eq_true h2
    have h3 := of_decide_eq_true h3
    rw [← hr]; unfold ckB; rw [decide_eq_true (by omega), h4]; rfl)
  have HIS : Hid (∀ W : World, _) := Lib.hid (fun W => ris o.salt hO.f.salt W)
  have HLF : Hid (∀ (i v : Nat) W, i ≤ 1000000 → v ≤ 1000000 → _) := Lib.hid (fun i v W hi hv => rsleaf_any i v o.salt W hi hv (by have := hO.salt; omega))
  have HTC : Hid (∀ (m i : Int) (lf : ByteArray) W, lf.size ≤ 200 → Below w.heap.size w W → _) := Lib.hid (fun m i lf W hlf hW => rcheck_any cm.1 m i lf o.A o.c o.p W (hO.f.p.below hW) hO.f.pl hO.cap hlf hO.sm)
  rw [hr]
  obtain ⟨b1, hb1⟩ : ∃ b, wiB n 1 600 = b := ⟨_, rfl⟩
  obtain ⟨b2, hb2⟩ : ∃ b, wiB o.ix 0 (n - 1) = b := ⟨_, rfl⟩
  obtain ⟨b3, hb3⟩ : ∃ b, wiB o.v 0 719 = b := ⟨_, rfl⟩
  obtain ⟨b4, hb4⟩ : ∃ b, isD o.salt = b := ⟨_, rfl⟩
  rw [hb1] at HN1 HY
  rw [hb2] at HN2 HY
  rw [hb3] at HN3 HY
  rw [hb4] at HN4 HY HIS
  have H1 := Lib.hid hb1
  have H2 := Lib.hid hb2
  have H3 := Lib.hid hb3
  have HW0 := Lib.hid hw0
  clear hO hr hb1 hb2 hb3 hb4 hw0
  go_enter Tryz.func28, Tryz.ntmps28
  go_wp2_with fail
  have hw0 := HW0.out
  rw [hw0]
  clear hw0
  obtain ⟨z0, z1, z2, z3, z4, zl⟩ := HK.out w0 (Below.refl _ _)
  refine (rwithin_any _ _ _ _).mono ?_
  rintro e _ ⟨rfl, rfl⟩
  rw [H1.out]
  cases b1
  case false =>
    have hrf := HN1.out (by trivial)
    subst hrf
    go_wp2
    go_ret
    exact ⟨rfl, HB0.out⟩
  case true =>
  obtain ⟨hn1, hn6⟩ := of_decide_eq_true H1.out
  go_wp2_with fail
  refine (rwithin_any _ _ _ _).mono ?_
  rintro e _ ⟨rfl, rfl⟩
  rw [H2.out]
  cases b2
  case false =>
    have hrf := HN2.out (by trivial)
    subst hrf
    go_wp2
    go_ret
    exact ⟨rfl, HB0.out⟩
  case true =>
  obtain ⟨hi0, hi1⟩ := of_decide_eq_true H2.out
  go_wp2_with fail
  refine (rwithin_any _ _ _ _).mono ?_
  rintro e _ ⟨rfl, rfl⟩
  rw [H3.out]
  cases b3
  case false =>
    have hrf := HN3.out (by trivial)
    subst hrf
    go_wp2
    go_ret
    exact ⟨rfl, HB0.out⟩
  case true =>
  obtain ⟨hv0, hv1⟩ := of_decide_eq_true H3.out
  go_wp2_with fail
  refine (HIS.out w0).mono ?_
  rintro e _ ⟨rfl, rfl⟩
  cases b4
  case false =>
    have hrf := HN4.out (by trivial)
    subst hrf
    go_wp2
    go_ret
    exact ⟨rfl, HB0.out⟩
  case true =>
  have hry := HY.out (by trivial) (by trivial) (by trivial) (by trivial)
  have HRY := Lib.hid hry
  clear hry
  have HIN : Hid (((o.ix.toNat : Nat) : Int) = o.ix ∧ ((o.v.toNat : Nat) : Int) = o.v) := Lib.hid ⟨by omega, by omega⟩
  have HLF2 : Hid (∀ W, Calls Tryz.prog 69 #[.int .i64 o.ix, .int .i64 o.v, .string o.salt] W fun e w' => e = .returned (.string (ksLf o.ix.toNat o.v.toNat o.salt)) ∧ Below W.heap.size W w') := Lib.hid (fun W => by
    have := HLF.out o.ix.toNat o.v.toNat W (by omega) (by omega)
    rw [HIN.out.1, HIN.out.2] at this
    exact this)
  have hlf := isD_16 (ksLf_D o.ix.toNat o.v.toNat o.salt)
  have HTC2 : Hid (∀ W, Below w.heap.size w W → _) := Lib.hid (fun W hW => HTC.out n o.ix (ksLf o.ix.toNat o.v.toNat o.salt) W (by omega) hW)
  clear hlf
  generalize ksLf o.ix.toNat o.v.toNat o.salt = LF at *
  clear z0 z1 z2 z3 z4 zl
  go_wp2_with fail
  refine wp_region_held_drew (S := fun W => Below w0.heap.size w0 W) (by kernel_rfl) ((Below.refl _ _).drew) (fun hS0 => ?_)
  refine wpAnyH_take (i := 0) (v := ?_) rfl (by kernel_rfl) (by kernel_rfl) (by kernel_rfl) (fun _ _ _ h => h) (Or.inl ⟨by kernel_rfl, ?hy⟩) hS0 ?rest
  case hy => (intro W hSw; clear hSw; go_simp; with_reducible rfl)
  case rest =>
  refine wpAnyH_take (i := 1) (v := ?_) rfl (by kernel_rfl) (by kernel_rfl) (by kernel_rfl) (fun _ _ _ h => h) (Or.inl ⟨by kernel_rfl, ?hy⟩) hS0 ?rest
  case hy => (intro W hSw; obtain ⟨z0, z1, z2, z3, z4, zl⟩ := HK.out W hSw; clear hSw; go_simp; with_reducible rfl)
  case rest =>
  refine wpAnyH_take (i := 2) (v := ?_) rfl (by kernel_rfl) (by kernel_rfl) (by kernel_rfl) (fun _ _ _ h => h) (Or.inl ⟨by kernel_rfl, ?hy⟩) hS0 ?rest
  case hy => (intro W hSw; clear hSw; go_simp; with_reducible rfl)
  case rest =>
  refine wpAnyH_take (i := 3) (v := ?_) rfl (by kernel_rfl) (by kernel_rfl) (by kernel_rfl) (fun _ _ _ h => h) (Or.inl ⟨by kernel_rfl, ?hy⟩) hS0 ?rest
  case hy => (intro W hSw; clear hSw; go_simp; with_reducible rfl)
  case rest =>
  refine wpAnyH_take (i := 4) (v := ?_) rfl (by kernel_rfl) (by kernel_rfl) (by kernel_rfl) (fun _ _ _ h => h) (Or.inl ⟨by kernel_rfl, ?hy⟩) hS0 ?rest
  case hy => (intro W hSw; obtain ⟨z0, z1, z2, z3, z4, zl⟩ := HK.out W hSw; clear hSw; go_simp; with_reducible rfl)
  case rest =>
  refine wpAnyH_take (i := 5) (v := ?_) rfl (by kernel_rfl) (by kernel_rfl) (by kernel_rfl) (fun _ _ _ h => h) (Or.inl ⟨by kernel_rfl, ?hy⟩) hS0 ?rest
  case hy => (intro W hSw; clear hSw; go_simp; with_reducible rfl)
  case rest =>
  try go_simp
  refine wpAnyH_take (i := 6) (v := ?_) rfl (by kernel_rfl) (by kernel_rfl) (by kernel_rfl) (fun _ _ _ h => h) (Or.inl ⟨by kernel_rfl, ?hy⟩) hS0 ?rest
  case hy => (intro W hSw; obtain ⟨z0, z1, z2, z3, z4, zl⟩ := HK.out W hSw; clear hSw; go_simp; with_reducible rfl)
  case rest =>
  refine wpAnyH_take (i := 7) (v := ?_) rfl (by kernel_rfl) (by kernel_rfl) (by kernel_rfl) (fun _ _ _ h => h) (Or.inl ⟨by kernel_rfl, ?hy⟩) hS0 ?rest
  case hy => (intro W hSw; clear hSw; go_simp; with_reducible rfl)
  case rest =>
  refine wpAnyH_take (i := 8) (v := ?_) rfl (by kernel_rfl) (by kernel_rfl) (by kernel_rfl) (fun _ _ _ h => h) (Or.inl ⟨by kernel_rfl, ?hy⟩) hS0 ?rest
  case hy => (intro W hSw; obtain ⟨z0, z1, z2, z3, z4, zl⟩ := HK.out W hSw; clear hSw; go_simp; with_reducible rfl)
  case rest =>
  refine wpAnyH_take (i := 9) (v := ?_) rfl (by kernel_rfl) (by kernel_rfl) (by kernel_rfl) (fun _ _ _ h => h) (Or.inl ⟨by kernel_rfl, ?hy⟩) hS0 ?rest
  case hy => (intro W hSw; clear hSw; go_simp; with_reducible rfl)
  case rest =>
  refine wpAnyH_take (i := 10) (v := ?_) rfl (by kernel_rfl) (by kernel_rfl) (by kernel_rfl) (fun _ _ _ h => h) (Or.inl ⟨by kernel_rfl, ?hy⟩) hS0 ?rest
  case hy => (intro W hSw; obtain ⟨z0, z1, z2, z3, z4, zl⟩ := HK.out W hSw; clear hSw; go_simp; with_reducible rfl)
  case rest =>
  refine wpAnyH_take (i := 12) (v := ?_) rfl (by kernel_rfl) (by kernel_rfl) (by kernel_rfl) (fun _ _ _ h => h) (Or.inl ⟨by kernel_rfl, ?hy⟩) hS0 ?rest
  case hy => (intro W hSw; clear hSw; go_simp; with_reducible rfl)
  case rest =>
  try go_simp
  refine wpAnyH_take (i := 13) (v := ?_) rfl (by kernel_rfl) (by kernel_rfl) (by kernel_rfl) (fun _ _ _ h => h) (Or.inl ⟨by kernel_rfl, ?hy⟩) hS0 ?rest
  case hy => (intro W hSw; obtain ⟨z0, z1, z2, z3, z4, zl⟩ := HK.out W hSw; clear hSw; go_simp; with_reducible rfl)
  case rest =>
  refine wpAnyH_ready (rs := [11]) (by kernel_rfl) (by simp) ?_
  refine AllReadyH.cons rfl (fun K hK => ?_) (AllReadyH.nil)
  go_simp
  refine (HLF2.out _).mono ?_
  rintro e w1 ⟨rfl, hb⟩
  have HX1 := Lib.hid (below_trans hS0 hb)
  clear hb
  go_simp
  refine hK.out _ _ HX1.out (fun hS1 => ?_)
  clear hK K
  refine wpAnyH_ready (rs := [14]) (by kernel_rfl) (by simp) ?_
  refine AllReadyH.cons rfl (fun K hK => ?_) (AllReadyH.nil)
  go_simp
  refine (HTC2.out w1 (below_trans HB0.out HX1.out)).mono ?_
  rintro e w2 ⟨rfl, hb⟩
  have HX2 := Lib.hid (below_trans HX1.out hb)
  clear hb
  go_simp
  refine hK.out _ _ HX2.out (fun hS2 => ?_)
  clear hK K
  refine wpAnyH_take (i := 15) (v := ?_) rfl (by kernel_rfl) (by kernel_rfl) (by kernel_rfl) (fun _ _ _ h => h) (Or.inl ⟨by kernel_rfl, ?hy⟩) hS2 ?rest
  case hy => (intro W hSw; clear hSw; go_simp; with_reducible rfl)
  case rest =>
  refine wpAnyH_done (by kernel_rfl) ?_ _
  go_simp
  go_wp2
  go_ret
  rw [HRY.out]
  exact ⟨rfl, below_trans HB0.out HX2.out⟩
theorem kgood_kt {root : ByteArray} {n kp i : Nat} (hi : i < n) (hkp : kp ≤ 16) (k : Kp) : kgood root n kp i k = (decide (k.ix = (i : Int)) && ktB root n kp k) := by
  unfold kgood ktB wiB validB
  by_cases h : k.ix = (i : Int)
  · rw [h, decide_eq_true (rfl : (i : Int) = i), decide_eq_true (show (0 : Int) ≤ i ∧ (i : Int) ≤ (n : Int) - 1 by omega), Bool.true_and, Bool.true_and, Bool.true_and]
    congr 1
    by_cases h1 : 1 ≤ k.s.1
    · by_cases h2 : k.s.1 ≤ (kp : Int)
      · rw [decide_eq_true (show 1 ≤ k.s.1 ∧ k.s.1 ≤ (kp : Int) from ⟨h1, h2⟩), decide_eq_true h1, decide_eq_true h2, decide_eq_true (show k.s.1 ≤ 16 by omega)]; simp
      · rw [decide_eq_false (fun hc : 1 ≤ k.s.1 ∧ k.s.1 ≤ (kp : Int) => h2 hc.2), decide_eq_false h2]; simp
    · rw [decide_eq_false (fun hc : 1 ≤ k.s.1 ∧ k.s.1 ≤ (kp : Int) => h1 hc.1), decide_eq_false h1]; simp
  · rw [decide_eq_false h]; rfl
theorem dup_take {S : List (Int × Int)} {q : Nat} {s : Int × Int} (h : S[q]? = some s) (x : Int) : decide (x ∈ (S.take (q + 1)).map (·.1)) = (decide (x ∈ (S.take q).map (·.1)) || (s.1 == x)) := by
  rw [List.take_add_one, h, List.map_append, Bool.eq_iff_iff]
  simp only [Option.toList, List.map_cons, List.map_nil, List.mem_append, List.mem_singleton, decide_eq_true_eq, Bool.or_eq_true, beq_iff_eq]
  constructor
  · rintro (h | h)
    · exact .inl h
    · exact .inr h.symm
  · rintro (h | h)
    · exact .inl h
    · exact .inr h.symm
/-- What is known of a row of kept shares that Short lets pass. -/
structure KwS (w : World) (a : Kw) : Prop where
  row : RowOf kpC 4 w a.A a.l
  each : ∀ k, k ∈ a.l → KpS w k
  len : a.l.length ≤ 12
theorem KwS.below {w w' : World} {a : Kw} (h : KwS w a) (hb : Below w.heap.size w w') : KwS w' a := ⟨h.row.below hb, fun k hk => (h.each k hk).below hb, h.len⟩
set_option maxRecDepth 100000 in
set_option maxHeartbeats 16000000 in
theorem rjoined30_any (cm : ByteArray × ByteArray) (n kp i : Nat) (a : Kw) (need : Int) (w : World) (hw : KwS w a) (hn : n ≤ 600) (hkp : kp ≤ 9) (hi : i < n) (hneed : i64ok need) :
    Calls Tryz.prog 63 #[.agg #[.string cm.1, .string cm.2], .int .i64 n, .int .i64 kp, .int .i64 i, .slice a.A a.l.length a.c, .int .i64 need] w fun e w' => e = .returned (.tuple #[.int .i64 (kjn cm.2 n kp i a.l need).1, .int .i64 (kjn cm.2 n kp i a.l need).2]) ∧ Below w.heap.size w w' := by
  obtain ⟨KJ, hKJ⟩ : ∃ KJ, kjn cm.2 n kp i a.l need = KJ := ⟨_, rfl⟩
  rw [hKJ]
  have HKJ := Lib.hid hKJ
  clear hKJ
  obtain ⟨w0, hw0⟩ : ∃ w0, w.alloc (.cells #[.string cm.1, .string cm.2] 29) = w0 := ⟨_, rfl⟩
  have HB0 : Hid (Below w.heap.size w w0) := Lib.hid (by rw [← hw0]; exact below_alloc (Below.refl _ _) _)
  have HCM : Hid (∀ W, Below w0.heap.size w0 W → W.cell? ⟨w.heap.size, 0, none⟩ = some (.string cm.1) ∧ W.cell? ⟨w.heap.size, 1, none⟩ = some (.string cm.2)) := Lib.hid (fun W hW => by
    have h1 : Blk w0 w.heap.size 29 #[.string cm.1, .string cm.2] := by rw [← hw0]; exact Blk.new w _ _ _ rfl
    exact ⟨kept_cell hW (h1.of_cell (i := 0) rfl), kept_cell hW (h1.of_cell (i := 1) rfl)⟩)
  have HW : Hid (∀ W, Below w0.heap.size w0 W → KwS W a) := Lib.hid (fun W hW => hw.below (below_trans HB0.out hW))
  have hal := hw.len
  have HJ0 : Hid (jfd cm.2 n kp i (a.l.take 0) = []) := Lib.hid rfl
  have HJS : Hid (∀ (j : Nat) (k : Kp), a.l[j]? = some k → jfd cm.2 n kp i (a.l.take (j + 1)) = jst cm.2 n kp i (jfd cm.2 n kp i (a.l.take j)) k) := Lib.hid (fun j k h => jfd_snoc cm.2 n kp i h)
  have HKT : Hid (∀ (k : Kp) W, KpS W k → _) := Lib.hid (fun k W hk => rkept_any cm n kp k W hn hkp hk)
  have HGT : Hid (∀ k : Kp, kgood cm.2 n kp i k = (decide (k.ix = (i : Int)) && ktB cm.2 n kp k)) := Lib.hid (fun k => kgood_kt hi (by omega) k)
  obtain ⟨i0, hi0, hz0, hz1, hz2⟩ := info_parts info_share
  have HI := Lib.hid (And.intro hi0 (And.intro hz0 (And.intro hz1 hz2)))
  have HW0 := Lib.hid hw0
  clear hw0 hw hi0 hz0 hz1 hz2
  go_enter Tryz.func63, Tryz.ntmps63
  go_wp2_with fail
  have hw0 := HW0.out
  try rw [hw0]
  clear hw0
  have HO0 : Hid (w0.ownsRow w0.heap.size 48 2 (.slice none 0 0) (jfd cm.2 n kp i (a.l.take 0)).length (flat2 (jfd cm.2 n kp i (a.l.take 0)))) := Lib.hid (by rw [HJ0.out]; exact World.ownsRow_nil _ _ _ _)
  go_loopw [14, 15, 16, 17] (fun u14 u15 _ _ wr => ∃ j : Nat, j ≤ a.l.length ∧ u15 = .int .i64 j ∧ Below w0.heap.size w0 wr ∧ wr.ownsRow w0.heap.size 48 2 u14 (jfd cm.2 n kp i (a.l.take j)).length (flat2 (jfd cm.2 n kp i (a.l.take j))) ∧ (jfd cm.2 n kp i (a.l.take j)).length ≤ j) (fun _ u15 _ _ _ => a.l.length - (intOf u15).toNat)
  case atStart => exact ⟨0, Nat.zero_le _, rfl, Below.refl _ _, HO0.out, by rw [HJ0.out]; simp⟩
  case round =>
  obtain ⟨j, hj, rfl, hb, ho, hjl⟩ := hrel
  have HBj := Lib.hid hb
  have HOj := Lib.hid ho
  clear hb ho
  by_cases hlt : j < a.l.length
  case neg =>
    obtain rfl : j = a.l.length := by omega
    have HFE : Hid (jfd cm.2 n kp i (a.l.take a.l.length) = jfd cm.2 n kp i a.l) := Lib.hid (by rw [List.take_of_length_le (Nat.le_refl _)])
    have ho := HOj.out
    rw [HFE.out] at ho
    rw [HFE.out] at hjl
    have HKJ1 : Hid (((jfd cm.2 n kp i a.l).length : Int) < need → KJ = (0, 25)) := Lib.hid (fun h => by rw [← HKJ.out]; exact kjn_few h)
    have HKJ2 : Hid (¬ ((jfd cm.2 n kp i a.l).length : Int) < need → KJ = if (joinF (jfd cm.2 n kp i a.l) need).2 ≠ 0 ∨ 720 ≤ (joinF (jfd cm.2 n kp i a.l) need).1 then (0, 24) else ((joinF (jfd cm.2 n kp i a.l) need).1, 0)) := Lib.hid (fun h => by rw [← HKJ.out]; unfold kjn; rw [if_neg h])
    clear HKJ
    generalize jfd cm.2 n kp i a.l = FD at *
    obtain ⟨AF, cF, rfl, hcF, -, hrF⟩ := Rd.of_own ho
    have HPF : Hid (Prs wr AF FD) := Lib.hid hrF
    clear ho hrF HJS HJ0 HO0 HOj
    by_cases hfew : (FD.length : Int) < need
    case pos =>
      have HE := Lib.hid (HKJ1.out hfew)
      go_wp2
      go_ret2
      rw [HE.out]
      exact ⟨rfl, below_trans HB0.out HBj.out⟩
    case neg =>
    have HE := Lib.hid (HKJ2.out hfew)
    have HJN := Lib.hid (rjoin_all AF cF FD need wr HPF.out (by omega))
    obtain ⟨x, hx⟩ : ∃ x, (joinF FD need).1 = x := ⟨_, rfl⟩
    obtain ⟨er, her⟩ : ∃ x, (joinF FD need).2 = x := ⟨_, rfl⟩
    rw [hx, her] at HE HJN
    clear hx her
    go_wp2_with fail
    refine HJN.out.mono ?_
    rintro e w1 ⟨rfl, hb⟩
    have HB1 := Lib.hid (below_trans HB0.out (below_trans HBj.out hb))
    clear hb
    by_cases he0 : er = 0
    case pos =>
      subst he0
      by_cases hx7 : 720 ≤ x
      case pos =>
        have hx8 : 719 < x := by omega
        go_wp2
        go_ret2
        rw [HE.out, if_pos (.inr hx7)]
        exact ⟨rfl, HB1.out⟩
      case neg =>
        have hx8 : ¬ 719 < x := by omega
        go_wp2
        go_ret2
        rw [HE.out, if_neg (by omega)]
        exact ⟨rfl, HB1.out⟩
    case neg =>
      have hb1 : (er == 0) = false := by simpa using he0
      have hb2 : (er != 0) = true := by simpa using he0
      go_wp2
      go_ret2
      rw [HE.out, if_pos (.inl he0)]
      exact ⟨rfl, HB1.out⟩
  case pos =>
  obtain ⟨wv, hwv⟩ : ∃ W, W = wr := ⟨wr, rfl⟩
  subst hwv
  have hji : (j : Int) < (a.l.length : Int) := by omega
  obtain ⟨k, hk⟩ := get_some a.l j hlt
  have HKS : Hid (∀ W, Below w0.heap.size w0 W → KpS W k) := Lib.hid (fun W hW => (HW.out W hW).each k (List.mem_of_getElem? hk))
  obtain ⟨bA, oA, hAe, -⟩ := kp_cells (HW.out wv HBj.out).row hk
  have HAE := Lib.hid hAe
  have HKC : Hid (∀ W, Below w0.heap.size w0 W → W.cell? ⟨bA, oA + j * 4, none⟩ = some (.int .i64 k.ix) ∧ W.cell? ⟨bA, oA + j * 4 + 1, none⟩ = some (.int .i64 k.s.1) ∧ W.cell? ⟨bA, oA + j * 4 + 2, none⟩ = some (.int .i64 k.s.2) ∧ W.cell? ⟨bA, oA + j * 4 + 3, none⟩ = some (.slice k.A k.p.length k.c)) := Lib.hid (fun W hW => by
    obtain ⟨b, off, he, h⟩ := kp_cells (HW.out W hW).row hk
    rw [hAe] at he
    cases he
    exact h)
  have HJK := Lib.hid (HJS.out j k hk)
  rw [hAe]
  clear hk hAe
  obtain ⟨S1, hS1D⟩ : ∃ S1, jfd cm.2 n kp i (a.l.take (j + 1)) = S1 := ⟨_, rfl⟩
  rw [hS1D] at HJK
  have HS1D := Lib.hid hS1D
  clear hS1D
  obtain ⟨S0, hS0D⟩ : ∃ S0, jfd cm.2 n kp i (a.l.take j) = S0 := ⟨_, rfl⟩
  rw [hS0D] at HJK HOj hjl
  have HS0D := Lib.hid hS0D
  clear hS0D
  obtain ⟨AS, cS, rfl, -, -, -⟩ := Rd.of_own HOj.out
  have HPR : Hid (∀ W, Below wv.heap.size wv W → Prs W AS S0) := Lib.hid (fun W hW => by
    obtain ⟨A', c', he, -, -, hr⟩ := Rd.of_own (row_below HOj.out hW)
    cases he
    exact hr)
  obtain ⟨gd, hgd⟩ : ∃ b, (decide (k.ix = (i : Int)) && ktB cm.2 n kp k) = b := ⟨_, rfl⟩
  have HGD : Hid (kgood cm.2 n kp i k = gd) := Lib.hid (by rw [HGT.out, hgd])
  -- the inner loop and what is behind it, from any world and any first word
  have HREST : ∀ (a0 : Bool) (W : World), True := fun _ _ => trivial
  clear HREST
  by_cases c1 : k.ix = (i : Int)
  case neg =>
    have HGF : Hid (gd = false) := Lib.hid (by rw [← hgd, decide_eq_false c1]; rfl)
    have hb1 : (k.ix == (i : Int)) = false := by simpa using c1
    have hb2 : (k.ix != (i : Int)) = true := by simpa using c1
    clear c1 hgd
    go_wp2_with fail
    refine wp_region_held_drew (S := fun W => Below w0.heap.size w0 W) (by kernel_rfl) (HBj.out.drew) (fun hS0 => ?_)
    refine wpAnyH_take (i := 0) (v := ?_) rfl (by kernel_rfl) (by kernel_rfl) (by kernel_rfl) (fun _ _ _ h => h) (Or.inl ⟨by kernel_rfl, ?hy⟩) hS0 ?rest
    case hy => (intro W hSw; clear hSw; go_simp; with_reducible rfl)
    case rest =>
    refine wpAnyH_take (i := 1) (v := ?_) rfl (by kernel_rfl) (by kernel_rfl) (by kernel_rfl) (fun _ _ _ h => h) (Or.inl ⟨by kernel_rfl, ?hy⟩) hS0 ?rest
    case hy => (intro W hSw; clear hSw; go_simp; with_reducible rfl)
    case rest =>
    refine wpAnyH_take (i := 2) (v := ?_) rfl (by kernel_rfl) (by kernel_rfl) (by kernel_rfl) (fun _ _ _ h => h) (Or.inl ⟨by kernel_rfl, ?hy⟩) hS0 ?rest
    case hy => (intro W hSw; clear hSw; go_simp; with_reducible rfl)
    case rest =>
    refine wpAnyH_take (i := 3) (v := ?_) rfl (by kernel_rfl) (by kernel_rfl) (by kernel_rfl) (fun _ _ _ h => h) (Or.inl ⟨by kernel_rfl, ?hy⟩) hS0 ?rest
    case hy => (intro W hSw; clear hSw; go_simp; with_reducible rfl)
    case rest =>
    refine wpAnyH_take (i := 4) (v := ?_) rfl (by kernel_rfl) (by kernel_rfl) (by kernel_rfl) (fun _ _ _ h => h) (Or.inl ⟨by kernel_rfl, ?hy⟩) hS0 ?rest
    case hy => (intro W hSw; obtain ⟨q0, q1, q2, q3⟩ := HKC.out W hSw; have ql := lt_of_cell q0; clear hSw; go_simp; with_reducible rfl)
    case rest =>
    refine wpAnyH_take (i := 5) (v := ?_) rfl (by kernel_rfl) (by kernel_rfl) (by kernel_rfl) (fun _ _ _ h => h) (Or.inl ⟨by kernel_rfl, ?hy⟩) hS0 ?rest
    case hy => (intro W hSw; clear hSw; go_simp; with_reducible rfl)
    case rest =>
    try go_simp
    refine wpAnyH_take (i := 6) (v := ?_) rfl (by kernel_rfl) (by kernel_rfl) (by kernel_rfl) (fun _ _ _ h => h) (Or.inl ⟨by kernel_rfl, ?hy⟩) hS0 ?rest
    case hy => (intro W hSw; clear hSw; go_simp; with_reducible rfl)
    case rest =>
    refine wpAnyH_take (i := 7) (v := ?_) rfl (by kernel_rfl) (by kernel_rfl) (by kernel_rfl) (fun _ _ _ h => h) (Or.inl ⟨by kernel_rfl, ?hy⟩) hS0 ?rest
    case hy => (intro W hSw; clear hSw; go_simp; with_reducible rfl)
    case rest =>
    refine wpAnyH_take (i := 8) (v := undef) rfl (by kernel_rfl) (by kernel_rfl) (by kernel_rfl) (fun _ _ _ h => h) (Or.inr ⟨by kernel_rfl, rfl⟩) hS0 ?_
    refine wpAnyH_take (i := 9) (v := undef) rfl (by kernel_rfl) (by kernel_rfl) (by kernel_rfl) (fun _ _ _ h => h) (Or.inr ⟨by kernel_rfl, rfl⟩) hS0 ?_
    refine wpAnyH_take (i := 10) (v := undef) rfl (by kernel_rfl) (by kernel_rfl) (by kernel_rfl) (fun _ _ _ h => h) (Or.inr ⟨by kernel_rfl, rfl⟩) hS0 ?_
    refine wpAnyH_take (i := 11) (v := undef) rfl (by kernel_rfl) (by kernel_rfl) (by kernel_rfl) (fun _ _ _ h => h) (Or.inr ⟨by kernel_rfl, rfl⟩) hS0 ?_
    try go_simp
    refine wpAnyH_take (i := 12) (v := undef) rfl (by kernel_rfl) (by kernel_rfl) (by kernel_rfl) (fun _ _ _ h => h) (Or.inr ⟨by kernel_rfl, rfl⟩) hS0 ?_
    refine wpAnyH_take (i := 13) (v := undef) rfl (by kernel_rfl) (by kernel_rfl) (by kernel_rfl) (fun _ _ _ h => h) (Or.inr ⟨by kernel_rfl, rfl⟩) hS0 ?_
    refine wpAnyH_take (i := 14) (v := undef) rfl (by kernel_rfl) (by kernel_rfl) (by kernel_rfl) (fun _ _ _ h => h) (Or.inr ⟨by kernel_rfl, rfl⟩) hS0 ?_
    refine wpAnyH_take (i := 15) (v := undef) rfl (by kernel_rfl) (by kernel_rfl) (by kernel_rfl) (fun _ _ _ h => h) (Or.inr ⟨by kernel_rfl, rfl⟩) hS0 ?_
    refine wpAnyH_take (i := 16) (v := undef) rfl (by kernel_rfl) (by kernel_rfl) (by kernel_rfl) (fun _ _ _ h => h) (Or.inr ⟨by kernel_rfl, rfl⟩) hS0 ?_
    refine wpAnyH_take (i := 17) (v := ?_) rfl (by kernel_rfl) (by kernel_rfl) (by kernel_rfl) (fun _ _ _ h => h) (Or.inl ⟨by kernel_rfl, ?hy⟩) hS0 ?rest
    case hy => (intro W hSw; clear hSw; go_simp; with_reducible rfl)
    case rest =>
    try go_simp
    refine wpAnyH_take (i := 18) (v := ?_) rfl (by kernel_rfl) (by kernel_rfl) (by kernel_rfl) (fun _ _ _ h => h) (Or.inl ⟨by kernel_rfl, ?hy⟩) hS0 ?rest
    case hy => (intro W hSw; clear hSw; go_simp; with_reducible rfl)
    case rest =>
    refine wpAnyH_done (by kernel_rfl) ?_ _
    have HXr := Lib.hid hS0
    have HYr := Lib.hid ((Below.refl wv.heap.size wv).drew)
    clear hS0
    go_wp2_with fail
    go_loopw [16, 17] (fun u16 u17 wr => ∃ q : Nat, q ≤ S0.length ∧ u17 = .int .i64 q ∧ u16 = .bool (!gd || decide (k.s.1 ∈ (S0.take q).map (·.1))) ∧ Below wv.heap.size wv wr) (fun _ u17 _ => S0.length - (intOf u17).toNat)
    case atStart => exact ⟨0, Nat.zero_le _, rfl, by rw [HGF.out]; rfl, HYr.out⟩
    case round =>
    obtain ⟨q, hq, rfl, rfl, hb⟩ := hrel
    have HBq := Lib.hid hb
    have HXq := Lib.hid (below_trans HBj.out hb)
    clear hb
    by_cases hql : q < S0.length
    case neg =>
      obtain rfl : q = S0.length := by omega
      rw [show S0.take S0.length = S0 from List.take_length]
      obtain ⟨dp, hdp⟩ : ∃ b, decide (k.s.1 ∈ S0.map (·.1)) = b := ⟨_, rfl⟩
      rw [hdp]
      have HDP := Lib.hid hdp
      clear hdp
      have HOQ := Lib.hid (row_below HOj.out HBq.out)
      by_cases hnew : gd = true ∧ dp = false
      case neg =>
        have hst : (!gd || dp) = true := by cases gd <;> cases dp <;> simp_all
        have hS : S1 = S0 := by
          rw [HJK.out]
          cases hg' : gd with
          | false => exact jst_no (by rw [HGD.out, hg'])
          | true =>
            cases hd' : dp with
            | false => exact absurd ⟨hg', hd'⟩ hnew
            | true => exact jst_dup (by rw [HDP.out, hd'])
        have HS := Lib.hid hS
        rw [hst]
        clear hS hst hnew
        go_wp2
        go_roundw
        case rel => exact ⟨j + 1, by omega, by go_num, HXq.out, by rw [HS1D.out, HS.out]; exact HOQ.out, by rw [HS1D.out, HS.out]; omega⟩
        case measure => first | (simp [intOf]; done) | (simp [intOf]; omega)
      case pos =>
        obtain ⟨rfl, rfl⟩ := hnew
        have hS : S1 = S0 ++ [k.s] := by rw [HJK.out]; exact jst_new HGD.out HDP.out
        have HS := Lib.hid hS
        clear hS
        obtain ⟨q0, q1, q2, q3⟩ := HKC.out wr HXq.out
        have ql := lt_of_cell q0
        go_wp2_with (at_builtin; refine wpList_app _ rfl (.tmp 67) (.tmp 73) 100 100 rfl w0.heap.size 48 48 i0 _ 2 16 Tryz.underlying100 Tryz.underlying100 HI.out.1 HI.out.2.1 HI.out.2.2.1 HI.out.2.2.2 rfl (by omega) _ S0.length _ rfl (HOQ.out.alloc _) _ 1 1 [.int .i64 k.s.1, .int .i64 k.s.2] rfl (Rd_new wr #[.int .i64 k.s.1, .int .i64 k.s.2] _ 2 1 _ rfl rfl) (by simp [Value.oneCell']) (by simp only [maxLen]; omega) (by omega) (by have := HXq.out.size; simp; omega) ?_)
        clear q0 q1 q2 q3 ql
        intro v1 w9 hown hg
        have HB9 : Hid (Below w0.heap.size w0 w9) := Lib.hid ((below_alloc HXq.out _).grown hg (by have := HXq.out.size; simp; omega) (fun j hj => (HOQ.out.lt j hj).1))
        have e5 : flat2 S0 ++ [.int .i64 k.s.1, .int .i64 k.s.2] = flat2 (S0 ++ [k.s]) := by simp [flat2]
        rw [e5] at hown
        have HO9 : Hid (w9.ownsRow w0.heap.size 48 2 v1 (S0 ++ [k.s]).length (flat2 (S0 ++ [k.s]))) := Lib.hid (by rw [List.length_append]; exact hown)
        clear hown hg e5
        go_wp2
        go_roundw
        case rel => exact ⟨j + 1, by omega, by go_num, HB9.out, by rw [HS1D.out, HS.out]; exact HO9.out, by rw [HS1D.out, HS.out, List.length_append, List.length_singleton]; omega⟩
        case measure => first | (simp [intOf]; done) | (simp [intOf]; omega)
    case pos =>
    have hqi : (q : Int) < (S0.length : Int) := by omega
    obtain ⟨s, hs⟩ := get_some S0 q hql
    obtain ⟨bS, oS, hASe, p1, p2⟩ := (HPR.out wr HBq.out).at_ hs
    have HSE : Hid (∀ W, Below wv.heap.size wv W → W.cell? ⟨bS, oS + q * 2, none⟩ = some (.int .i64 s.1)) := Lib.hid (fun W hW => by
      obtain ⟨b, off, he, h1, -⟩ := (HPR.out W hW).at_ hs
      rw [hASe] at he
      cases he
      exact h1)
    have HDT := Lib.hid (dup_take hs k.s.1)
    rw [hASe]
    clear p1 p2 hs hASe
    obtain ⟨dq, hdq⟩ : ∃ b, decide (k.s.1 ∈ (S0.take q).map (·.1)) = b := ⟨_, rfl⟩
    rw [hdq] at HDT
    rw [hdq]
    clear hdq
    obtain ⟨bg, hbg⟩ : ∃ b, (!gd || dq) = b := ⟨_, rfl⟩
    rw [hbg]
    have HBG := Lib.hid hbg
    clear hbg
    cases bg
    case false =>
      obtain ⟨be, hbe⟩ : ∃ b, (s.1 == k.s.1) = b := ⟨_, rfl⟩
      have HBE := Lib.hid hbe
      go_wp2_with fail
      refine wp_region_held_drew (S := fun W => Below wv.heap.size wv W) (by kernel_rfl) (HBq.out.drew) (fun hS0 => ?_)
      refine wpAnyH_take (i := 0) (v := ?_) rfl (by kernel_rfl) (by kernel_rfl) (by kernel_rfl) (fun _ _ _ h => h) (Or.inl ⟨by kernel_rfl, ?hy⟩) hS0 ?rest
      case hy => (intro W hSw; clear hSw; go_simp; with_reducible rfl)
      case rest =>
      refine wpAnyH_take (i := 1) (v := ?_) rfl (by kernel_rfl) (by kernel_rfl) (by kernel_rfl) (fun _ _ _ h => h) (Or.inl ⟨by kernel_rfl, ?hy⟩) hS0 ?rest
      case hy => (intro W hSw; clear hSw; go_simp; with_reducible rfl)
      case rest =>
      refine wpAnyH_take (i := 2) (v := ?_) rfl (by kernel_rfl) (by kernel_rfl) (by kernel_rfl) (fun _ _ _ h => h) (Or.inl ⟨by kernel_rfl, ?hy⟩) hS0 ?rest
      case hy => (intro W hSw; clear hSw; go_simp; with_reducible rfl)
      case rest =>
      refine wpAnyH_take (i := 3) (v := ?_) rfl (by kernel_rfl) (by kernel_rfl) (by kernel_rfl) (fun _ _ _ h => h) (Or.inl ⟨by kernel_rfl, ?hy⟩) hS0 ?rest
      case hy => (intro W hSw; clear hSw; go_simp; with_reducible rfl)
      case rest =>
      refine wpAnyH_take (i := 4) (v := ?_) rfl (by kernel_rfl) (by kernel_rfl) (by kernel_rfl) (fun _ _ _ h => h) (Or.inl ⟨by kernel_rfl, ?hy⟩) hS0 ?rest
      case hy => (intro W hSw; clear hSw; go_simp; with_reducible rfl)
      case rest =>
      refine wpAnyH_take (i := 5) (v := ?_) rfl (by kernel_rfl) (by kernel_rfl) (by kernel_rfl) (fun _ _ _ h => h) (Or.inl ⟨by kernel_rfl, ?hy⟩) hS0 ?rest
      case hy => (intro W hSw; clear hSw; go_simp; with_reducible rfl)
      case rest =>
      try go_simp
      refine wpAnyH_take (i := 6) (v := ?_) rfl (by kernel_rfl) (by kernel_rfl) (by kernel_rfl) (fun _ _ _ h => h) (Or.inl ⟨by kernel_rfl, ?hy⟩) hS0 ?rest
      case hy => (intro W hSw; have p0 := HSE.out W hSw; have pl := lt_of_cell p0; clear hSw; go_simp; with_reducible rfl)
      case rest =>
      refine wpAnyH_take (i := 7) (v := ?_) rfl (by kernel_rfl) (by kernel_rfl) (by kernel_rfl) (fun _ _ _ h => h) (Or.inl ⟨by kernel_rfl, ?hy⟩) hS0 ?rest
      case hy => (intro W hSw; clear hSw; go_simp; with_reducible rfl)
      case rest =>
      refine wpAnyH_take (i := 8) (v := ?_) rfl (by kernel_rfl) (by kernel_rfl) (by kernel_rfl) (fun _ _ _ h => h) (Or.inl ⟨by kernel_rfl, ?hy⟩) hS0 ?rest
      case hy => (intro W hSw; clear hSw; go_simp; with_reducible rfl)
      case rest =>
      refine wpAnyH_take (i := 9) (v := ?_) rfl (by kernel_rfl) (by kernel_rfl) (by kernel_rfl) (fun _ _ _ h => h) (Or.inl ⟨by kernel_rfl, ?hy⟩) hS0 ?rest
      case hy => (intro W hSw; clear hSw; go_simp; with_reducible rfl)
      case rest =>
      refine wpAnyH_take (i := 10) (v := ?_) rfl (by kernel_rfl) (by kernel_rfl) (by kernel_rfl) (fun _ _ _ h => h) (Or.inl ⟨by kernel_rfl, ?hy⟩) hS0 ?rest
      case hy => (intro W hSw; clear hSw; go_simp; with_reducible rfl)
      case rest =>
      refine wpAnyH_take (i := 11) (v := ?_) rfl (by kernel_rfl) (by kernel_rfl) (by kernel_rfl) (fun _ _ _ h => h) (Or.inl ⟨by kernel_rfl, ?hy⟩) hS0 ?rest
      case hy => (intro W hSw; clear hSw; go_simp; with_reducible rfl)
      case rest =>
      try go_simp
      refine wpAnyH_take (i := 12) (v := ?_) rfl (by kernel_rfl) (by kernel_rfl) (by kernel_rfl) (fun _ _ _ h => h) (Or.inl ⟨by kernel_rfl, ?hy⟩) hS0 ?rest
      case hy => (intro W hSw; obtain ⟨q0, q1, q2, q3⟩ := HKC.out W (below_trans HBj.out hSw); have ql := lt_of_cell q0; clear hSw; go_simp; with_reducible rfl)
      case rest =>
      refine wpAnyH_take (i := 13) (v := ?_) rfl (by kernel_rfl) (by kernel_rfl) (by kernel_rfl) (fun _ _ _ h => h) (Or.inl ⟨by kernel_rfl, ?hy⟩) hS0 ?rest
      case hy => (intro W hSw; clear hSw; go_simp; with_reducible rfl)
      case rest =>
      refine wpAnyH_take (i := 14) (v := ?_) rfl (by kernel_rfl) (by kernel_rfl) (by kernel_rfl) (fun _ _ _ h => h) (Or.inl ⟨by kernel_rfl, ?hy⟩) hS0 ?rest
      case hy => (intro W hSw; clear hSw; go_simp; with_reducible rfl)
      case rest =>
      refine wpAnyH_take (i := 15) (v := ?_) rfl (by kernel_rfl) (by kernel_rfl) (by kernel_rfl) (fun _ _ _ h => h) (Or.inl ⟨by kernel_rfl, ?hy⟩) hS0 ?rest
      case hy => (intro W hSw; clear hSw; go_simp; with_reducible rfl)
      case rest =>
      refine wpAnyH_done (by kernel_rfl) ?_ _
      have HSq := Lib.hid hS0
      clear hS0
      try go_simp
      go_wp2
      go_roundw
      case rel => exact ⟨q + 1, by omega, by go_num, by rw [HDT.out, ← Bool.or_assoc, HBG.out, HBE.out]; rfl, HSq.out⟩
      case measure => first | (simp [intOf]; done) | (simp [intOf]; omega)
    case true =>
      go_wp2_with fail
      refine wp_region_held_drew (S := fun W => Below wv.heap.size wv W) (by kernel_rfl) (HBq.out.drew) (fun hS0 => ?_)
      refine wpAnyH_take (i := 0) (v := ?_) rfl (by kernel_rfl) (by kernel_rfl) (by kernel_rfl) (fun _ _ _ h => h) (Or.inl ⟨by kernel_rfl, ?hy⟩) hS0 ?rest
      case hy => (intro W hSw; clear hSw; go_simp; with_reducible rfl)
      case rest =>
      refine wpAnyH_take (i := 1) (v := ?_) rfl (by kernel_rfl) (by kernel_rfl) (by kernel_rfl) (fun _ _ _ h => h) (Or.inl ⟨by kernel_rfl, ?hy⟩) hS0 ?rest
      case hy => (intro W hSw; clear hSw; go_simp; with_reducible rfl)
      case rest =>
      refine wpAnyH_take (i := 2) (v := undef) rfl (by kernel_rfl) (by kernel_rfl) (by kernel_rfl) (fun _ _ _ h => h) (Or.inr ⟨by kernel_rfl, rfl⟩) hS0 ?_
      refine wpAnyH_take (i := 3) (v := undef) rfl (by kernel_rfl) (by kernel_rfl) (by kernel_rfl) (fun _ _ _ h => h) (Or.inr ⟨by kernel_rfl, rfl⟩) hS0 ?_
      refine wpAnyH_take (i := 4) (v := undef) rfl (by kernel_rfl) (by kernel_rfl) (by kernel_rfl) (fun _ _ _ h => h) (Or.inr ⟨by kernel_rfl, rfl⟩) hS0 ?_
      refine wpAnyH_take (i := 5) (v := undef) rfl (by kernel_rfl) (by kernel_rfl) (by kernel_rfl) (fun _ _ _ h => h) (Or.inr ⟨by kernel_rfl, rfl⟩) hS0 ?_
      try go_simp
      refine wpAnyH_take (i := 6) (v := undef) rfl (by kernel_rfl) (by kernel_rfl) (by kernel_rfl) (fun _ _ _ h => h) (Or.inr ⟨by kernel_rfl, rfl⟩) hS0 ?_
      refine wpAnyH_take (i := 7) (v := undef) rfl (by kernel_rfl) (by kernel_rfl) (by kernel_rfl) (fun _ _ _ h => h) (Or.inr ⟨by kernel_rfl, rfl⟩) hS0 ?_
      refine wpAnyH_take (i := 8) (v := undef) rfl (by kernel_rfl) (by kernel_rfl) (by kernel_rfl) (fun _ _ _ h => h) (Or.inr ⟨by kernel_rfl, rfl⟩) hS0 ?_
      refine wpAnyH_take (i := 9) (v := undef) rfl (by kernel_rfl) (by kernel_rfl) (by kernel_rfl) (fun _ _ _ h => h) (Or.inr ⟨by kernel_rfl, rfl⟩) hS0 ?_
      refine wpAnyH_take (i := 10) (v := undef) rfl (by kernel_rfl) (by kernel_rfl) (by kernel_rfl) (fun _ _ _ h => h) (Or.inr ⟨by kernel_rfl, rfl⟩) hS0 ?_
      refine wpAnyH_take (i := 11) (v := undef) rfl (by kernel_rfl) (by kernel_rfl) (by kernel_rfl) (fun _ _ _ h => h) (Or.inr ⟨by kernel_rfl, rfl⟩) hS0 ?_
      try go_simp
      refine wpAnyH_take (i := 12) (v := undef) rfl (by kernel_rfl) (by kernel_rfl) (by kernel_rfl) (fun _ _ _ h => h) (Or.inr ⟨by kernel_rfl, rfl⟩) hS0 ?_
      refine wpAnyH_take (i := 13) (v := undef) rfl (by kernel_rfl) (by kernel_rfl) (by kernel_rfl) (fun _ _ _ h => h) (Or.inr ⟨by kernel_rfl, rfl⟩) hS0 ?_
      refine wpAnyH_take (i := 14) (v := ?_) rfl (by kernel_rfl) (by kernel_rfl) (by kernel_rfl) (fun _ _ _ h => h) (Or.inl ⟨by kernel_rfl, ?hy⟩) hS0 ?rest
      case hy => (intro W hSw; clear hSw; go_simp; with_reducible rfl)
      case rest =>
      refine wpAnyH_take (i := 15) (v := ?_) rfl (by kernel_rfl) (by kernel_rfl) (by kernel_rfl) (fun _ _ _ h => h) (Or.inl ⟨by kernel_rfl, ?hy⟩) hS0 ?rest
      case hy => (intro W hSw; clear hSw; go_simp; with_reducible rfl)
      case rest =>
      refine wpAnyH_done (by kernel_rfl) ?_ _
      have HSq := Lib.hid hS0
      clear hS0
      try go_simp
      go_wp2
      go_roundw
      case rel => exact ⟨q + 1, by omega, by go_num, by rw [HDT.out, ← Bool.or_assoc, HBG.out]; rfl, HSq.out⟩
      case measure => first | (simp [intOf]; done) | (simp [intOf]; omega)
  case pos =>
  have hb1 : (k.ix == (i : Int)) = true := by simpa using c1
  have hb2 : (k.ix != (i : Int)) = false := by simpa using c1
  rw [decide_eq_true c1, Bool.true_and] at hgd
  have HKG := Lib.hid hgd
  clear c1 hgd
  have HKR : Hid (∀ W, Below w0.heap.size w0 W → Calls Tryz.prog 36 #[.agg #[.string cm.1, .string cm.2], .int .i64 n, .int .i64 kp, .agg #[.int .i64 k.ix, .int .i64 k.s.1, .int .i64 k.s.2, .slice k.A k.p.length k.c]] W fun e w' => e = .returned (.bool gd) ∧ Below W.heap.size W w') := Lib.hid (fun W hW => by have := HKT.out k W (HKS.out W hW); rw [HKG.out] at this; exact this)
  go_wp2_with fail
  refine wp_region_held_drew (S := fun W => Below w0.heap.size w0 W) (by kernel_rfl) (HBj.out.drew) (fun hS0 => ?_)
  refine wpAnyH_take (i := 0) (v := ?_) rfl (by kernel_rfl) (by kernel_rfl) (by kernel_rfl) (fun _ _ _ h => h) (Or.inl ⟨by kernel_rfl, ?hy⟩) hS0 ?rest
  case hy => (intro W hSw; clear hSw; go_simp; with_reducible rfl)
  case rest =>
  refine wpAnyH_take (i := 1) (v := ?_) rfl (by kernel_rfl) (by kernel_rfl) (by kernel_rfl) (fun _ _ _ h => h) (Or.inl ⟨by kernel_rfl, ?hy⟩) hS0 ?rest
  case hy => (intro W hSw; clear hSw; go_simp; with_reducible rfl)
  case rest =>
  refine wpAnyH_take (i := 2) (v := ?_) rfl (by kernel_rfl) (by kernel_rfl) (by kernel_rfl) (fun _ _ _ h => h) (Or.inl ⟨by kernel_rfl, ?hy⟩) hS0 ?rest
  case hy => (intro W hSw; clear hSw; go_simp; with_reducible rfl)
  case rest =>
  refine wpAnyH_take (i := 3) (v := ?_) rfl (by kernel_rfl) (by kernel_rfl) (by kernel_rfl) (fun _ _ _ h => h) (Or.inl ⟨by kernel_rfl, ?hy⟩) hS0 ?rest
  case hy => (intro W hSw; clear hSw; go_simp; with_reducible rfl)
  case rest =>
  refine wpAnyH_take (i := 4) (v := ?_) rfl (by kernel_rfl) (by kernel_rfl) (by kernel_rfl) (fun _ _ _ h => h) (Or.inl ⟨by kernel_rfl, ?hy⟩) hS0 ?rest
  case hy => (intro W hSw; obtain ⟨q0, q1, q2, q3⟩ := HKC.out W hSw; have ql := lt_of_cell q0; clear hSw; go_simp; with_reducible rfl)
  case rest =>
  refine wpAnyH_take (i := 5) (v := ?_) rfl (by kernel_rfl) (by kernel_rfl) (by kernel_rfl) (fun _ _ _ h => h) (Or.inl ⟨by kernel_rfl, ?hy⟩) hS0 ?rest
  case hy => (intro W hSw; clear hSw; go_simp; with_reducible rfl)
  case rest =>
  try go_simp
  refine wpAnyH_take (i := 6) (v := ?_) rfl (by kernel_rfl) (by kernel_rfl) (by kernel_rfl) (fun _ _ _ h => h) (Or.inl ⟨by kernel_rfl, ?hy⟩) hS0 ?rest
  case hy => (intro W hSw; clear hSw; go_simp; with_reducible rfl)
  case rest =>
  refine wpAnyH_take (i := 7) (v := ?_) rfl (by kernel_rfl) (by kernel_rfl) (by kernel_rfl) (fun _ _ _ h => h) (Or.inl ⟨by kernel_rfl, ?hy⟩) hS0 ?rest
  case hy => (intro W hSw; clear hSw; go_simp; with_reducible rfl)
  case rest =>
  refine wpAnyH_take (i := 8) (v := ?_) rfl (by kernel_rfl) (by kernel_rfl) (by kernel_rfl) (fun _ _ _ h => h) (Or.inl ⟨by kernel_rfl, ?hy⟩) hS0 ?rest
  case hy => (intro W hSw; obtain ⟨c0, c1⟩ := HCM.out W hSw; have cl := lt_of_cell c0; clear hSw; go_simp; with_reducible rfl)
  case rest =>
  refine wpAnyH_take (i := 9) (v := ?_) rfl (by kernel_rfl) (by kernel_rfl) (by kernel_rfl) (fun _ _ _ h => h) (Or.inl ⟨by kernel_rfl, ?hy⟩) hS0 ?rest
  case hy => (intro W hSw; clear hSw; go_simp; with_reducible rfl)
  case rest =>
  refine wpAnyH_take (i := 10) (v := ?_) rfl (by kernel_rfl) (by kernel_rfl) (by kernel_rfl) (fun _ _ _ h => h) (Or.inl ⟨by kernel_rfl, ?hy⟩) hS0 ?rest
  case hy => (intro W hSw; clear hSw; go_simp; with_reducible rfl)
  case rest =>
  refine wpAnyH_take (i := 11) (v := ?_) rfl (by kernel_rfl) (by kernel_rfl) (by kernel_rfl) (fun _ _ _ h => h) (Or.inl ⟨by kernel_rfl, ?hy⟩) hS0 ?rest
  case hy => (intro W hSw; clear hSw; go_simp; with_reducible rfl)
  case rest =>
  try go_simp
  refine wpAnyH_take (i := 12) (v := ?_) rfl (by kernel_rfl) (by kernel_rfl) (by kernel_rfl) (fun _ _ _ h => h) (Or.inl ⟨by kernel_rfl, ?hy⟩) hS0 ?rest
  case hy => (intro W hSw; clear hSw; go_simp; with_reducible rfl)
  case rest =>
  refine wpAnyH_take (i := 13) (v := ?_) rfl (by kernel_rfl) (by kernel_rfl) (by kernel_rfl) (fun _ _ _ h => h) (Or.inl ⟨by kernel_rfl, ?hy⟩) hS0 ?rest
  case hy => (intro W hSw; clear hSw; go_simp; with_reducible rfl)
  case rest =>
  refine wpAnyH_take (i := 14) (v := ?_) rfl (by kernel_rfl) (by kernel_rfl) (by kernel_rfl) (fun _ _ _ h => h) (Or.inl ⟨by kernel_rfl, ?hy⟩) hS0 ?rest
  case hy => (intro W hSw; obtain ⟨q0, q1, q2, q3⟩ := HKC.out W hSw; have ql := lt_of_cell q0; clear hSw; go_simp; with_reducible rfl)
  case rest =>
  refine wpAnyH_ready (rs := [15]) (by kernel_rfl) (by simp) ?_
  refine AllReadyH.cons rfl (fun K hK => ?_) (AllReadyH.nil)
  go_simp
  refine (HKR.out _ hS0).mono ?_
  rintro e w5 ⟨rfl, hb⟩
  have HX5 := Lib.hid (below_trans hS0 hb)
  have HY5 : Hid (Below wv.heap.size wv w5) := Lib.hid (below_trans ((Below.refl wv.heap.size wv).drew) hb)
  clear hb
  go_simp
  refine hK.out _ _ HX5.out (fun hS1 => ?_)
  clear hK K
  refine wpAnyH_take (i := 16) (v := ?_) rfl (by kernel_rfl) (by kernel_rfl) (by kernel_rfl) (fun _ _ _ h => h) (Or.inl ⟨by kernel_rfl, ?hy⟩) hS1 ?rest
  case hy => (intro W hSw; clear hSw; go_simp; with_reducible rfl)
  case rest =>
  refine wpAnyH_take (i := 17) (v := ?_) rfl (by kernel_rfl) (by kernel_rfl) (by kernel_rfl) (fun _ _ _ h => h) (Or.inl ⟨by kernel_rfl, ?hy⟩) hS1 ?rest
  case hy => (intro W hSw; clear hSw; go_simp; with_reducible rfl)
  case rest =>
  refine wpAnyH_take (i := 18) (v := ?_) rfl (by kernel_rfl) (by kernel_rfl) (by kernel_rfl) (fun _ _ _ h => h) (Or.inl ⟨by kernel_rfl, ?hy⟩) hS1 ?rest
  case hy => (intro W hSw; clear hSw; go_simp; with_reducible rfl)
  case rest =>
  try go_simp
  refine wpAnyH_done (by kernel_rfl) ?_ _
  have HXr := HX5
  have HYr := HY5
  clear hS0
  go_wp2_with fail
  go_loopw [16, 17] (fun u16 u17 wr => ∃ q : Nat, q ≤ S0.length ∧ u17 = .int .i64 q ∧ u16 = .bool (!gd || decide (k.s.1 ∈ (S0.take q).map (·.1))) ∧ Below wv.heap.size wv wr) (fun _ u17 _ => S0.length - (intOf u17).toNat)
  case atStart => exact ⟨0, Nat.zero_le _, rfl, by simp, HYr.out⟩
  case round =>
  obtain ⟨q, hq, rfl, rfl, hb⟩ := hrel
  have HBq := Lib.hid hb
  have HXq := Lib.hid (below_trans HBj.out hb)
  clear hb
  by_cases hql : q < S0.length
  case neg =>
    obtain rfl : q = S0.length := by omega
    rw [show S0.take S0.length = S0 from List.take_length]
    obtain ⟨dp, hdp⟩ : ∃ b, decide (k.s.1 ∈ S0.map (·.1)) = b := ⟨_, rfl⟩
    rw [hdp]
    have HDP := Lib.hid hdp
    clear hdp
    have HOQ := Lib.hid (row_below HOj.out HBq.out)
    by_cases hnew : gd = true ∧ dp = false
    case neg =>
      have hst : (!gd || dp) = true := by cases gd <;> cases dp <;> simp_all
      have hS : S1 = S0 := by
        rw [HJK.out]
        cases hg' : gd with
        | false => exact jst_no (by rw [HGD.out, hg'])
        | true =>
          cases hd' : dp with
          | false => exact absurd ⟨hg', hd'⟩ hnew
          | true => exact jst_dup (by rw [HDP.out, hd'])
      have HS := Lib.hid hS
      rw [hst]
      clear hS hst hnew
      go_wp2
      go_roundw
      case rel => exact ⟨j + 1, by omega, by go_num, HXq.out, by rw [HS1D.out, HS.out]; exact HOQ.out, by rw [HS1D.out, HS.out]; omega⟩
      case measure => first | (simp [intOf]; done) | (simp [intOf]; omega)
    case pos =>
      obtain ⟨rfl, rfl⟩ := hnew
      have hS : S1 = S0 ++ [k.s] := by rw [HJK.out]; exact jst_new HGD.out HDP.out
      have HS := Lib.hid hS
      clear hS
      obtain ⟨q0, q1, q2, q3⟩ := HKC.out wr HXq.out
      have ql := lt_of_cell q0
      go_wp2_with (at_builtin; refine wpList_app _ rfl (.tmp 67) (.tmp 73) 100 100 rfl w0.heap.size 48 48 i0 _ 2 16 Tryz.underlying100 Tryz.underlying100 HI.out.1 HI.out.2.1 HI.out.2.2.1 HI.out.2.2.2 rfl (by omega) _ S0.length _ rfl (HOQ.out.alloc _) _ 1 1 [.int .i64 k.s.1, .int .i64 k.s.2] rfl (Rd_new wr #[.int .i64 k.s.1, .int .i64 k.s.2] _ 2 1 _ rfl rfl) (by simp [Value.oneCell']) (by simp only [maxLen]; omega) (by omega) (by have := HXq.out.size; simp; omega) ?_)
      clear q0 q1 q2 q3 ql
      intro v1 w9 hown hg
      have HB9 : Hid (Below w0.heap.size w0 w9) := Lib.hid ((below_alloc HXq.out _).grown hg (by have := HXq.out.size; simp; omega) (fun j hj => (HOQ.out.lt j hj).1))
      have e5 : flat2 S0 ++ [.int .i64 k.s.1, .int .i64 k.s.2] = flat2 (S0 ++ [k.s]) := by simp [flat2]
      rw [e5] at hown
      have HO9 : Hid (w9.ownsRow w0.heap.size 48 2 v1 (S0 ++ [k.s]).length (flat2 (S0 ++ [k.s]))) := Lib.hid (by rw [List.length_append]; exact hown)
      clear hown hg e5
      go_wp2
      go_roundw
      case rel => exact ⟨j + 1, by omega, by go_num, HB9.out, by rw [HS1D.out, HS.out]; exact HO9.out, by rw [HS1D.out, HS.out, List.length_append, List.length_singleton]; omega⟩
      case measure => first | (simp [intOf]; done) | (simp [intOf]; omega)
  case pos =>
  have hqi : (q : Int) < (S0.length : Int) := by omega
  obtain ⟨s, hs⟩ := get_some S0 q hql
  obtain ⟨bS, oS, hASe, p1, p2⟩ := (HPR.out wr HBq.out).at_ hs
  have HSE : Hid (∀ W, Below wv.heap.size wv W → W.cell? ⟨bS, oS + q * 2, none⟩ = some (.int .i64 s.1)) := Lib.hid (fun W hW => by
    obtain ⟨b, off, he, h1, -⟩ := (HPR.out W hW).at_ hs
    rw [hASe] at he
    cases he
    exact h1)
  have HDT := Lib.hid (dup_take hs k.s.1)
  rw [hASe]
  clear p1 p2 hs hASe
  obtain ⟨dq, hdq⟩ : ∃ b, decide (k.s.1 ∈ (S0.take q).map (·.1)) = b := ⟨_, rfl⟩
  rw [hdq] at HDT
  rw [hdq]
  clear hdq
  obtain ⟨bg, hbg⟩ : ∃ b, (!gd || dq) = b := ⟨_, rfl⟩
  rw [hbg]
  have HBG := Lib.hid hbg
  clear hbg
  cases bg
  case false =>
    obtain ⟨be, hbe⟩ : ∃ b, (s.1 == k.s.1) = b := ⟨_, rfl⟩
    have HBE := Lib.hid hbe
    go_wp2_with fail
    refine wp_region_held_drew (S := fun W => Below wv.heap.size wv W) (by kernel_rfl) (HBq.out.drew) (fun hS0 => ?_)
    refine wpAnyH_take (i := 0) (v := ?_) rfl (by kernel_rfl) (by kernel_rfl) (by kernel_rfl) (fun _ _ _ h => h) (Or.inl ⟨by kernel_rfl, ?hy⟩) hS0 ?rest
    case hy => (intro W hSw; clear hSw; go_simp; with_reducible rfl)
    case rest =>
    refine wpAnyH_take (i := 1) (v := ?_) rfl (by kernel_rfl) (by kernel_rfl) (by kernel_rfl) (fun _ _ _ h => h) (Or.inl ⟨by kernel_rfl, ?hy⟩) hS0 ?rest
    case hy => (intro W hSw; clear hSw; go_simp; with_reducible rfl)
    case rest =>
    refine wpAnyH_take (i := 2) (v := ?_) rfl (by kernel_rfl) (by kernel_rfl) (by kernel_rfl) (fun _ _ _ h => h) (Or.inl ⟨by kernel_rfl, ?hy⟩) hS0 ?rest
    case hy => (intro W hSw; clear hSw; go_simp; with_reducible rfl)
    case rest =>
    refine wpAnyH_take (i := 3) (v := ?_) rfl (by kernel_rfl) (by kernel_rfl) (by kernel_rfl) (fun _ _ _ h => h) (Or.inl ⟨by kernel_rfl, ?hy⟩) hS0 ?rest
    case hy => (intro W hSw; clear hSw; go_simp; with_reducible rfl)
    case rest =>
    refine wpAnyH_take (i := 4) (v := ?_) rfl (by kernel_rfl) (by kernel_rfl) (by kernel_rfl) (fun _ _ _ h => h) (Or.inl ⟨by kernel_rfl, ?hy⟩) hS0 ?rest
    case hy => (intro W hSw; clear hSw; go_simp; with_reducible rfl)
    case rest =>
    refine wpAnyH_take (i := 5) (v := ?_) rfl (by kernel_rfl) (by kernel_rfl) (by kernel_rfl) (fun _ _ _ h => h) (Or.inl ⟨by kernel_rfl, ?hy⟩) hS0 ?rest
    case hy => (intro W hSw; clear hSw; go_simp; with_reducible rfl)
    case rest =>
    try go_simp
    refine wpAnyH_take (i := 6) (v := ?_) rfl (by kernel_rfl) (by kernel_rfl) (by kernel_rfl) (fun _ _ _ h => h) (Or.inl ⟨by kernel_rfl, ?hy⟩) hS0 ?rest
    case hy => (intro W hSw; have p0 := HSE.out W hSw; have pl := lt_of_cell p0; clear hSw; go_simp; with_reducible rfl)
    case rest =>
    refine wpAnyH_take (i := 7) (v := ?_) rfl (by kernel_rfl) (by kernel_rfl) (by kernel_rfl) (fun _ _ _ h => h) (Or.inl ⟨by kernel_rfl, ?hy⟩) hS0 ?rest
    case hy => (intro W hSw; clear hSw; go_simp; with_reducible rfl)
    case rest =>
    refine wpAnyH_take (i := 8) (v := ?_) rfl (by kernel_rfl) (by kernel_rfl) (by kernel_rfl) (fun _ _ _ h => h) (Or.inl ⟨by kernel_rfl, ?hy⟩) hS0 ?rest
    case hy => (intro W hSw; clear hSw; go_simp; with_reducible rfl)
    case rest =>
    refine wpAnyH_take (i := 9) (v := ?_) rfl (by kernel_rfl) (by kernel_rfl) (by kernel_rfl) (fun _ _ _ h => h) (Or.inl ⟨by kernel_rfl, ?hy⟩) hS0 ?rest
    case hy => (intro W hSw; clear hSw; go_simp; with_reducible rfl)
    case rest =>
    refine wpAnyH_take (i := 10) (v := ?_) rfl (by kernel_rfl) (by kernel_rfl) (by kernel_rfl) (fun _ _ _ h => h) (Or.inl ⟨by kernel_rfl, ?hy⟩) hS0 ?rest
    case hy => (intro W hSw; clear hSw; go_simp; with_reducible rfl)
    case rest =>
    refine wpAnyH_take (i := 11) (v := ?_) rfl (by kernel_rfl) (by kernel_rfl) (by kernel_rfl) (fun _ _ _ h => h) (Or.inl ⟨by kernel_rfl, ?hy⟩) hS0 ?rest
    case hy => (intro W hSw; clear hSw; go_simp; with_reducible rfl)
    case rest =>
    try go_simp
    refine wpAnyH_take (i := 12) (v := ?_) rfl (by kernel_rfl) (by kernel_rfl) (by kernel_rfl) (fun _ _ _ h => h) (Or.inl ⟨by kernel_rfl, ?hy⟩) hS0 ?rest
    case hy => (intro W hSw; obtain ⟨q0, q1, q2, q3⟩ := HKC.out W (below_trans HBj.out hSw); have ql := lt_of_cell q0; clear hSw; go_simp; with_reducible rfl)
    case rest =>
    refine wpAnyH_take (i := 13) (v := ?_) rfl (by kernel_rfl) (by kernel_rfl) (by kernel_rfl) (fun _ _ _ h => h) (Or.inl ⟨by kernel_rfl, ?hy⟩) hS0 ?rest
    case hy => (intro W hSw; clear hSw; go_simp; with_reducible rfl)
    case rest =>
    refine wpAnyH_take (i := 14) (v := ?_) rfl (by kernel_rfl) (by kernel_rfl) (by kernel_rfl) (fun _ _ _ h => h) (Or.inl ⟨by kernel_rfl, ?hy⟩) hS0 ?rest
    case hy => (intro W hSw; clear hSw; go_simp; with_reducible rfl)
    case rest =>
    refine wpAnyH_take (i := 15) (v := ?_) rfl (by kernel_rfl) (by kernel_rfl) (by kernel_rfl) (fun _ _ _ h => h) (Or.inl ⟨by kernel_rfl, ?hy⟩) hS0 ?rest
    case hy => (intro W hSw; clear hSw; go_simp; with_reducible rfl)
    case rest =>
    refine wpAnyH_done (by kernel_rfl) ?_ _
    have HSq := Lib.hid hS0
    clear hS0
    try go_simp
    go_wp2
    go_roundw
    case rel => exact ⟨q + 1, by omega, by go_num, by rw [HDT.out, ← Bool.or_assoc, HBG.out, HBE.out]; rfl, HSq.out⟩
    case measure => first | (simp [intOf]; done) | (simp [intOf]; omega)
  case true =>
    go_wp2_with fail
    refine wp_region_held_drew (S := fun W => Below wv.heap.size wv W) (by kernel_rfl) (HBq.out.drew) (fun hS0 => ?_)
    refine wpAnyH_take (i := 0) (v := ?_) rfl (by kernel_rfl) (by kernel_rfl) (by kernel_rfl) (fun _ _ _ h => h) (Or.inl ⟨by kernel_rfl, ?hy⟩) hS0 ?rest
    case hy => (intro W hSw; clear hSw; go_simp; with_reducible rfl)
    case rest =>
    refine wpAnyH_take (i := 1) (v := ?_) rfl (by kernel_rfl) (by kernel_rfl) (by kernel_rfl) (fun _ _ _ h => h) (Or.inl ⟨by kernel_rfl, ?hy⟩) hS0 ?rest
    case hy => (intro W hSw; clear hSw; go_simp; with_reducible rfl)
    case rest =>
    refine wpAnyH_take (i := 2) (v := undef) rfl (by kernel_rfl) (by kernel_rfl) (by kernel_rfl) (fun _ _ _ h => h) (Or.inr ⟨by kernel_rfl, rfl⟩) hS0 ?_
    refine wpAnyH_take (i := 3) (v := undef) rfl (by kernel_rfl) (by kernel_rfl) (by kernel_rfl) (fun _ _ _ h => h) (Or.inr ⟨by kernel_rfl, rfl⟩) hS0 ?_
    refine wpAnyH_take (i := 4) (v := undef) rfl (by kernel_rfl) (by kernel_rfl) (by kernel_rfl) (fun _ _ _ h => h) (Or.inr ⟨by kernel_rfl, rfl⟩) hS0 ?_
    refine wpAnyH_take (i := 5) (v := undef) rfl (by kernel_rfl) (by kernel_rfl) (by kernel_rfl) (fun _ _ _ h => h) (Or.inr ⟨by kernel_rfl, rfl⟩) hS0 ?_
    try go_simp
    refine wpAnyH_take (i := 6) (v := undef) rfl (by kernel_rfl) (by kernel_rfl) (by kernel_rfl) (fun _ _ _ h => h) (Or.inr ⟨by kernel_rfl, rfl⟩) hS0 ?_
    refine wpAnyH_take (i := 7) (v := undef) rfl (by kernel_rfl) (by kernel_rfl) (by kernel_rfl) (fun _ _ _ h => h) (Or.inr ⟨by kernel_rfl, rfl⟩) hS0 ?_
    refine wpAnyH_take (i := 8) (v := undef) rfl (by kernel_rfl) (by kernel_rfl) (by kernel_rfl) (fun _ _ _ h => h) (Or.inr ⟨by kernel_rfl, rfl⟩) hS0 ?_
    refine wpAnyH_take (i := 9) (v := undef) rfl (by kernel_rfl) (by kernel_rfl) (by kernel_rfl) (fun _ _ _ h => h) (Or.inr ⟨by kernel_rfl, rfl⟩) hS0 ?_
    refine wpAnyH_take (i := 10) (v := undef) rfl (by kernel_rfl) (by kernel_rfl) (by kernel_rfl) (fun _ _ _ h => h) (Or.inr ⟨by kernel_rfl, rfl⟩) hS0 ?_
    refine wpAnyH_take (i := 11) (v := undef) rfl (by kernel_rfl) (by kernel_rfl) (by kernel_rfl) (fun _ _ _ h => h) (Or.inr ⟨by kernel_rfl, rfl⟩) hS0 ?_
    try go_simp
    refine wpAnyH_take (i := 12) (v := undef) rfl (by kernel_rfl) (by kernel_rfl) (by kernel_rfl) (fun _ _ _ h => h) (Or.inr ⟨by kernel_rfl, rfl⟩) hS0 ?_
    refine wpAnyH_take (i := 13) (v := undef) rfl (by kernel_rfl) (by kernel_rfl) (by kernel_rfl) (fun _ _ _ h => h) (Or.inr ⟨by kernel_rfl, rfl⟩) hS0 ?_
    refine wpAnyH_take (i := 14) (v := ?_) rfl (by kernel_rfl) (by kernel_rfl) (by kernel_rfl) (fun _ _ _ h => h) (Or.inl ⟨by kernel_rfl, ?hy⟩) hS0 ?rest
    case hy => (intro W hSw; clear hSw; go_simp; with_reducible rfl)
    case rest =>
    refine wpAnyH_take (i := 15) (v := ?_) rfl (by kernel_rfl) (by kernel_rfl) (by kernel_rfl) (fun _ _ _ h => h) (Or.inl ⟨by kernel_rfl, ?hy⟩) hS0 ?rest
    case hy => (intro W hSw; clear hSw; go_simp; with_reducible rfl)
    case rest =>
    refine wpAnyH_done (by kernel_rfl) ?_ _
    have HSq := Lib.hid hS0
    clear hS0
    try go_simp
    go_wp2
    go_roundw
    case rel => exact ⟨q + 1, by omega, by go_num, by rw [HDT.out, ← Bool.or_assoc, HBG.out]; rfl, HSq.out⟩
    case measure => first | (simp [intOf]; done) | (simp [intOf]; omega)
end

end Go.Proofs.YtjfondfjdhjooaaGreatDoor
