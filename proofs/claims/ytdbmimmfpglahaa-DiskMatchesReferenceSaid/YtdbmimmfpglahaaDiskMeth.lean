/- Contracts of the disk's methods: count, Start, Arm, Raw, New. -/
import Derived.Test.YtdbmimmfpglahaaDiskFail
namespace Go.Proofs.Ytdbmimmfpglahaa
open Go.RowKit

theorem Blk.new (w : World) (g : Nat) (t : TypeId) (cs : Array Value) (hg : g = w.heap.size) : Blk (w.alloc (.cells cs t)) g t cs := by
  subst hg
  show (w.heap.push _)[_]? = _
  simp

theorem Dk.drew {w : World} {d : Nat} {S : DS} {F : List Nat} (h : Dk w d S F) : Dk w.drew d S F := h.chg (F2 := []) (Chg.refl [] w).drew (by simp)

theorem Dk.drewN {w : World} {d : Nat} {S : DS} {F : List Nat} (h : Dk w d S F) (n : Nat) : Dk (w.drewN n) d S F := h.chg (F2 := []) ((Chg.refl [] w).drewN n) (by simp)

theorem Chg.of_drew {F : List Nat} {w w' : World} (h : Chg F w.drew w') : Chg F w w' := ⟨h.os, h.tape, h.output, h.size, h.block⟩

theorem DkTo.of_drew {w w' : World} {d : Nat} {S : DS} {F : List Nat} (h : DkTo w.drew w' d F S) : DkTo w w' d F S := by
  obtain ⟨F', h1, h2, h3⟩ := h
  exact ⟨F', h1, h2, h3.of_drew⟩

theorem start_any (d : Nat) (S : DS) (F : List Nat) (w : World) (h : Dk w d S F) :
    Calls Try.prog 17 #[ptr d] w fun e w' => e = .returned (.tuple #[]) ∧ DkTo w w' d F S.start := by
  obtain ⟨sb, qv, ap, hk, rfl⟩ := h
  have HK := Lib.hid hk
  have h2 := hk.off_
  have h3 := hk.arm_
  have f2 := hk.head.frozen 2
  have f3 := hk.head.frozen 3
  obtain ⟨a1, a2, a3, a4, a5, a6⟩ := hk.apart
  have hA := Lib.hid a1; have hA2 := Lib.hid a2
  clear a1 a2 a3 a4 a5 a6 hk
  unfold ptr
  go_enter Try.func17, Try.ntmps17
  go_wp2
  go_end0
  have hd : d ∈ foot d sb qv ap := by simp [foot]
  have hc := (((Chg.refl (foot d sb qv ap) w).setCell (p := ⟨d, 2, none⟩) (.inl hd) (.bool false)).setCell (p := ⟨d, 3, none⟩) (.inl hd) (.pointer none))
  have hc0 := (((Chg.refl [d] w).setCell (p := ⟨d, 2, none⟩) (.inl (by simp)) (.bool false)).setCell (p := ⟨d, 3, none⟩) (.inl (by simp)) (.pointer none))
  refine ⟨rfl, foot d sb qv (.pointer none), ⟨sb, qv, .pointer none, ⟨?_, HK.out.stab.chg hc0 (by simpa using fun e => hA.out e.symm), own_chg HK.out.queue hc0 (fun k hk => by rintro hm; rw [List.mem_singleton] at hm; subst hm; exact hA2.out hk), rfl, ⟨HK.out.good.n1, HK.out.good.n4000, HK.out.good.len, HK.out.good.inq, HK.out.good.few, by simp [DS.start]⟩⟩, rfl⟩, fun k hk => ?_, hc⟩
  · have := (HK.out.head.set 2 (.bool false)).set 3 (.pointer none)
    simpa [DS.start] using this
  · left
    simp only [foot, List.mem_append, List.mem_cons, Option.mem_toList, List.not_mem_nil, or_false, ptrBlock, reduceCtorEq] at hk ⊢
    exact .inl hk

theorem start_nil (w : World) : Calls Try.prog 17 #[.pointer none] w fun e w' => e = .returned (.tuple #[]) ∧ w = w' := by
  go_enter Try.func17, Try.ntmps17
  go_wp2
  go_end0
  exact ⟨rfl, rfl⟩

theorem fail_nil (a b : Int) (w : World) : Calls Try.prog 16 #[.pointer none, .int .i64 a, .int .i64 b] w fun e w' => e = .returned (.tuple #[]) ∧ w = w' := by
  go_enter Try.func16, Try.ntmps16
  go_wp2
  refine bodyPost_ret (results_none rfl _ _ _) rfl ?_
  exact ⟨rfl, rfl⟩

theorem arm_nil (a b c : Int) (w : World) : Calls Try.prog 18 #[.pointer none, .int .i64 a, .int .i64 b, .int .i64 c] w fun e w' => e = .returned (.tuple #[]) ∧ w = w' := by
  go_enter Try.func18, Try.ntmps18
  go_wp2
  refine bodyPost_ret (results_none rfl _ _ _) rfl ?_
  exact ⟨rfl, rfl⟩

theorem raw_nil (w : World) : Calls Try.prog 20 #[.pointer none] w fun e w' => e = .returned (.string ByteArray.empty) ∧ w = w' := by
  go_enter Try.func20, Try.ntmps20
  go_wp2
  go_ret
  exact ⟨rfl, rfl⟩

theorem sync_nil (w : World) : Calls Try.prog 15 #[.pointer none] w fun e w' => e = .returned (.int .i64 1) ∧ w = w' := by
  go_enter Try.func15, Try.ntmps15
  go_wp2
  go_ret
  exact ⟨rfl, rfl⟩

theorem write_nil (s : Int) (t : ByteArray) (w : World) : Calls Try.prog 13 #[.pointer none, .int .i64 s, .string t] w fun e w' => e = .returned (.int .i64 1) ∧ Below w.heap.size w w' := by
  go_enter Try.func13, Try.ntmps13
  go_wp2_with fail
  refine (at_nil s _).mono ?_
  rintro e w' ⟨rfl, hb⟩
  go_wp2
  go_ret
  exact ⟨rfl, below_alloc hb _⟩

theorem rot_nil (a b c : Int) (w : World) : Calls Try.prog 19 #[.pointer none, .int .i64 a, .int .i64 b, .int .i64 c] w fun e w' => e = .returned (.tuple #[]) ∧ Below w.heap.size w w' := by
  go_enter Try.func19, Try.ntmps19
  go_wp2_with fail
  refine (place_nil a _).mono ?_
  rintro e w' ⟨rfl, hb⟩
  go_wp2
  go_end0
  exact ⟨rfl, below_alloc hb _⟩

theorem conv_win (w : World) (sb : Nat) (st : List UInt8) (h : Blk w sb 5 (u8s st).toArray) (lo n cap : Nat) (hlo : lo + n ≤ st.length) :
    (convert 44 9 (.slice (some ⟨sb, lo, none⟩) n cap)).run Try.prog w = .ok (.string ⟨((st.drop lo).take n).toArray⟩) w := by
  have hl : ((st.drop lo).take n).length = n := by simp; omega
  have := run_convert_bytes_back (P := Try.prog) w 44 9 5 ⟨sb, lo, none⟩ cap ((st.drop lo).take n) Try.underlying44 Try.underlying5 Try.underlying9 (by
    intro j hj
    rw [Addr.add_lit, h.cell]
    simp only [u8s, List.getElem?_toArray, List.getElem?_map, List.getElem_take, List.getElem_drop]
    rw [List.getElem?_eq_getElem (by rw [hl] at hj; omega)]
    rfl)
  rw [hl] at this
  exact this

theorem raw_any (d : Nat) (S : DS) (F : List Nat) (w : World) (h : Dk w d S F) :
    Calls Try.prog 20 #[ptr d] w fun e w' => e = .returned (.string S.raw) ∧ w = w' := by
  obtain ⟨sb, qv, ap, hk, rfl⟩ := h
  have h0 := hk.len
  have hcv := conv_win w sb S.st hk.stab 0 (S.n * 64) (S.n * 64) (by rw [hk.good.len]; omega)
  have e : ((S.st.drop 0).take (S.n * 64)) = S.st := by rw [List.drop_zero, List.take_of_length_le (by rw [hk.good.len]; omega)]
  rw [e] at hcv
  unfold ptr
  clear hk e
  go_enter Try.func20, Try.ntmps20
  go_wp2
  go_ret
  exact ⟨rfl, rfl⟩

theorem new_bad (n : Int) (h : ¬ (1 ≤ n ∧ n ≤ 4000)) (w : World) : Calls Try.prog 6 #[.int .i64 n] w fun e w' => e = .returned (.pointer none) ∧ w = w' := by
  by_cases h1 : n < 1
  · go_enter Try.func6, Try.ntmps6
    go_wp2
    go_ret
    exact ⟨rfl, rfl⟩
  · have h2 : 4000 < n := by omega
    go_enter Try.func6, Try.ntmps6
    go_wp2
    go_ret
    exact ⟨rfl, rfl⟩

theorem info_u8' : (Try.prog.info? 5).map (fun i => (i.zero, i.size, i.bytes)) = some (some (.int .u8 0), 1, 1) := by kernel_rfl

theorem blk_made {w : World} {g n base : Nat} (h : w.ownsRow base 5 1 (.slice (some ⟨g, 0, none⟩) n n) n (madeCells #[.int .u8 0] n).toList) (hn : 0 < n) : Blk w g 5 (u8s (List.replicate n 0)).toArray := by
  rcases h.2 with ⟨h2, _⟩ | ⟨g', cap, cur, hv, _, hg, hn', _, hs, ht⟩
  · simp at h2
  · simp only [Value.slice.injEq, Option.some.injEq, Addr.mk.injEq, and_true, true_and] at hv
    obtain ⟨rfl, rfl⟩ := hv
    rw [List.take_of_length_le (by simp [hs])] at ht
    have e : cur = (u8s (List.replicate n 0)).toArray := by
      apply Array.toList_inj.1
      rw [ht]
      apply List.ext_getElem?
      intro j
      by_cases hj : j < n
      · simp [u8s, madeCells, hj, Nat.mod_one]
      · simp [u8s, madeCells, hj]
    rw [e] at hg
    exact hg

theorem new_any (n : Nat) (h1 : 1 ≤ n) (h2 : n ≤ 4000) (w : World) : Calls Try.prog 6 #[.int .i64 n] w fun e w' => ∃ d F, e = .returned (ptr d) ∧ Dk w' d (DS.new n) F ∧ (∀ k, k ∈ F → w.heap.size ≤ k) ∧ Below w.heap.size w w' := by
  obtain ⟨i1, hi1, hy0, hy1, hy2⟩ := info_parts info_u8'
  go_enter Try.func6, Try.ntmps6
  go_wp2_with (at_make; refine wpList_make_full _ rfl (.tmp 10) (.tmp 10) 44 rfl w.heap.size 5 i1 _ 1 Try.underlying44 hi1 hy0 hy1 _ _ _ _ (n * 64) rfl rfl (by omega) (by omega) (by rw [hy2]; omega) (by simp only [maxLen]; omega) (Nat.le_refl _) ?_)
  intro w1 hown hg
  have HB := Lib.hid (blk_made (n := n * 64) hown (by omega))
  have HW := Lib.hid ((Below.refl w.heap.size w).grown hg (Nat.le_refl _) (by simp))
  clear hown hg
  go_wp2
  refine bodyPost_ret (results_tmp rfl _ _ _) rfl ?_
  refine ⟨w1.heap.size, foot w1.heap.size w.heap.size (.slice none 0 0) (.pointer none), rfl, ⟨w.heap.size, .slice none 0 0, .pointer none, ⟨?_, HB.out.alloc _, ⟨rfl, .inl ⟨rfl, rfl⟩⟩, rfl, ⟨h1, h2, by simp [DS.new], by simp [DS.new], by simp [DS.new], by simp [DS.new]⟩⟩, rfl⟩, ?_, below_alloc HW.out _⟩
  · exact Blk.new _ _ _ _ rfl
  · intro k hk
    simp [foot, ptrBlock, Value.ownBlock] at hk
    rcases hk with rfl | rfl
    · exact HW.out.size
    · exact Nat.le_refl _

theorem arm_any (d : Nat) (S : DS) (F : List Nat) (a b c : Int) (w : World) (h : Dk w d S F) (ha : a ≤ 9223372036854775807) :
    Calls Try.prog 18 #[ptr d, .int .i64 a, .int .i64 b, .int .i64 c] w fun e w' => e = .returned (.tuple #[]) ∧ DkTo w w' d F (S.setArm a b c) := by
  have HD := Lib.hid h
  obtain ⟨sb, qv, ap, hk, rfl⟩ := h
  have HK := Lib.hid hk
  have h2 := hk.off_
  have h3 := hk.arm_
  have f3 := hk.head.frozen 3
  have hl := lt_of_cell h3
  obtain ⟨a1, a2, a3, a4, a5, a6⟩ := hk.apart
  have hA := Lib.hid a1; have hA2 := Lib.hid a2
  have hd : d ∈ foot d sb qv ap := by simp [foot]
  clear a1 a2 a3 a4 a5 a6 hk
  unfold ptr
  cases hoff : S.off with
  | true =>
    rw [hoff] at h2
    have he : S.setArm a b c = S := by simp [DS.setArm, hoff]
    rw [he]
    go_enter Try.func18, Try.ntmps18
    go_wp2
    refine bodyPost_ret (results_none rfl _ _ _) rfl ?_
    exact ⟨rfl, DkTo.of_chg HD.out (Below.refl _ _)⟩
  | false =>
    rw [hoff] at h2
    by_cases h0 : 0 ≤ a
    · have he : S.setArm a b c = { S with arm := some (a, b, c) } := by simp [DS.setArm, hoff, h0]
      rw [he]
      go_enter Try.func18, Try.ntmps18
      go_wp2
      go_end0
      have hf : w.heap.size ∉ foot d sb qv ap := fun hm => Nat.lt_irrefl _ (HD.out.lt _ hm)
      have hc := (((Chg.refl (foot d sb qv ap) w).setCell (p := ⟨d, 3, none⟩) (.inl hd) (.pointer none)).setCell (p := ⟨d, 3, none⟩) (.inl hd) (.pointer (some ⟨w.heap.size, 0, none⟩))).alloc (.cells #[.int .i64 a, .int .i64 b, .int .i64 c] 65)
      have hc0 := (((Chg.refl [d] w).setCell (p := ⟨d, 3, none⟩) (.inl (by simp)) (.pointer none)).setCell (p := ⟨d, 3, none⟩) (.inl (by simp)) (.pointer (some ⟨w.heap.size, 0, none⟩))).alloc (.cells #[.int .i64 a, .int .i64 b, .int .i64 c] 65)
      refine ⟨rfl, foot d sb qv (.pointer (some ⟨w.heap.size, 0, none⟩)), ⟨sb, qv, .pointer (some ⟨w.heap.size, 0, none⟩), ⟨?_, HK.out.stab.chg hc0 (by simpa using fun e => hA.out e.symm), own_chg HK.out.queue hc0 (fun k hk => by rintro hm; rw [List.mem_singleton] at hm; subst hm; exact hA2.out hk), ⟨w.heap.size, rfl, ?_⟩, ⟨HK.out.good.n1, HK.out.good.n4000, HK.out.good.len, HK.out.good.inq, HK.out.good.few, by simp; omega⟩⟩, rfl⟩, fun k hk => ?_, hc⟩
      · have := ((HK.out.head.set 3 (.pointer none)).set 3 (.pointer (some ⟨w.heap.size, 0, none⟩))).alloc (.cells #[.int .i64 a, .int .i64 b, .int .i64 c] 65)
        simpa [hoff] using this
      · exact Blk.new _ _ _ _ (by simp [World.setCell])
      · simp only [foot, List.mem_append, List.mem_cons, Option.mem_toList, List.not_mem_nil, or_false, ptrBlock, reduceCtorEq, Option.some.injEq] at hk ⊢
        rcases hk with hk | rfl
        · exact .inl (.inl hk)
        · exact .inr (Nat.le_refl _)
    · have he : S.setArm a b c = { S with arm := none } := by simp [DS.setArm, hoff, h0]
      rw [he]
      go_enter Try.func18, Try.ntmps18
      go_wp2
      go_end0
      have hc := (Chg.refl (foot d sb qv ap) w).setCell (p := ⟨d, 3, none⟩) (.inl hd) (.pointer none)
      have hc0 := (Chg.refl [d] w).setCell (p := ⟨d, 3, none⟩) (.inl (by simp)) (.pointer none)
      refine ⟨rfl, foot d sb qv (.pointer none), ⟨sb, qv, .pointer none, ⟨?_, HK.out.stab.chg hc0 (by simpa using fun e => hA.out e.symm), own_chg HK.out.queue hc0 (fun k hk => by rintro hm; rw [List.mem_singleton] at hm; subst hm; exact hA2.out hk), rfl, ⟨HK.out.good.n1, HK.out.good.n4000, HK.out.good.len, HK.out.good.inq, HK.out.good.few, by simp⟩⟩, rfl⟩, fun k hk => ?_, hc⟩
      · have := (HK.out.head.set 3 (.pointer none))
        simpa [hoff] using this
      · left
        simp only [foot, List.mem_append, List.mem_cons, Option.mem_toList, List.not_mem_nil, or_false, ptrBlock, reduceCtorEq] at hk ⊢
        exact .inl hk


set_option maxHeartbeats 1600000 in
theorem count_any (d : Nat) (S : DS) (F : List Nat) (w : World) (h : Dk w d S F) :
    Calls Try.prog 31 #[ptr d] w fun e w' => e = .returned (.int .i64 S.count.1) ∧ DkTo w w' d F S.count.2 := by
  have HD := Lib.hid h
  obtain ⟨sb, qv, ap, hk, rfl⟩ := h
  have HK := Lib.hid hk
  have h3 := hk.arm_
  have hl := lt_of_cell h3
  have ha := hk.armed
  obtain ⟨a1, a2, a3, a4, a5, a6⟩ := hk.apart
  have hA4 := Lib.hid a4; have hA5 := Lib.hid a5; have hA6 := Lib.hid a6
  clear a1 a2 a3 a4 a5 a6 hk
  cases harm : S.arm with
  | none =>
    simp only [harm] at ha
    have he : S.count = (0, S) := by simp [DS.count, harm]
    rw [he]
    subst ha
    unfold ptr
    go_enter Try.func31, Try.ntmps31
    go_wp2
    go_ret
    exact ⟨rfl, DkTo.of_chg HD.out (Below.refl _ _)⟩
  | some a =>
    simp only [harm] at ha
    obtain ⟨ab, rfl, hab⟩ := ha
    obtain ⟨x0, x1, x2⟩ := a
    have c0 := hab.cell 0
    have c1 := hab.cell 1
    have c2 := hab.cell 2
    have f0 := hab.frozen 0
    simp at c0 c1 c2
    have hr := HK.out.good.arm0 _ harm
    simp at hr
    have HAB := Lib.hid hab
    by_cases h0 : 0 < x0
    · have he : S.count = (0, { S with arm := some (x0 - 1, x1, x2) }) := by simp [DS.count, harm, h0]
      rw [he]
      unfold ptr
      go_enter Try.func31, Try.ntmps31
      go_wp2
      go_ret
      have hd : ab ∈ foot d sb qv (.pointer (some ⟨ab, 0, none⟩)) := by simp [foot, ptrBlock]
      have hc := (Chg.refl (foot d sb qv (.pointer (some ⟨ab, 0, none⟩))) w).setCell (p := ⟨ab, 0, none⟩) (.inl hd) (.int .i64 (x0 - 1))
      have hc0 := (Chg.refl [ab] w).setCell (p := ⟨ab, 0, none⟩) (.inl (by simp)) (.int .i64 (x0 - 1))
      have n1 : d ∉ [ab] := by rw [List.mem_singleton]; rintro rfl; exact hA4.out rfl
      have n2 : sb ∉ [ab] := by rw [List.mem_singleton]; rintro rfl; exact hA5.out rfl
      refine ⟨rfl, _, ⟨sb, qv, _, ⟨HK.out.head.chg hc0 n1, HK.out.stab.chg hc0 n2, own_chg HK.out.queue hc0 (fun k hk => by rintro hm; rw [List.mem_singleton] at hm; subst hm; exact hA6.out _ hk rfl), ⟨ab, rfl, ?_⟩, ⟨HK.out.good.n1, HK.out.good.n4000, HK.out.good.len, HK.out.good.inq, HK.out.good.few, by simp; omega⟩⟩, rfl⟩, fun k hk => .inl hk, hc⟩
      have := HAB.out.set 0 (.int .i64 (x0 - 1))
      simpa using this
    · have he : S.count = (28, S.fail x1 x2) := by simp [DS.count, harm, h0]
      rw [he]
      have HF := Lib.hid (fail_any d S _ x1 x2 w.drew HD.out.drew)
      unfold ptr at HF ⊢
      go_enter Try.func31, Try.ntmps31
      go_wp2_with fail
      refine wp_region_still_tail 15 (by kernel_rfl) (by kernel_rfl) ?_
      simp only [List.take_succ_cons, List.take_zero, List.drop_succ_cons, List.drop_zero]
      change wpStill _ _ (World.drew _) _ _ _
      repeat still_step
      refine wpStill_nil ?_
      change wpList _ _ _ _ _ (World.drew _)
      go_wp2_with fail
      refine HF.out.mono ?_
      rintro e w2 ⟨rfl, hto⟩
      go_wp2
      go_ret
      exact ⟨rfl, hto.of_drew⟩

set_option maxHeartbeats 1600000 in
theorem sync_any (d : Nat) (S : DS) (F : List Nat) (w : World) (h : Dk w d S F) :
    Calls Try.prog 15 #[ptr d] w fun e w' => e = .returned (.int .i64 S.sync.1) ∧ DkTo w w' d F S.sync.2 := by
  have HD := Lib.hid h
  cases hoff : S.off with
  | true =>
    have he : S.sync = (28, S) := by simp [DS.sync, hoff]
    rw [he]
    obtain ⟨sb, qv, ap, hk, rfl⟩ := h
    have h2 := hk.off_
    rw [hoff] at h2
    clear hk
    unfold ptr
    go_enter Try.func15, Try.ntmps15
    go_wp2
    go_ret
    exact ⟨rfl, DkTo.of_chg HD.out (Below.refl _ _)⟩
  | false =>
    have HC := Lib.hid (count_any d S F w h)
    obtain ⟨sb, qv, ap, hk, rfl⟩ := h
    have h2 := hk.off_
    rw [hoff] at h2
    clear hk
    by_cases h0 : S.count.1 = 0
    · have he : S.sync = (0, { S.count.2 with st := settle S.count.2.st S.count.2.q, q := [] }) := by simp [DS.sync, hoff, h0]
      rw [he]
      rw [h0] at HC
      unfold ptr at HC ⊢
      go_enter Try.func15, Try.ntmps15
      go_wp2_with fail
      refine HC.out.mono ?_
      rintro e w1 ⟨rfl, F1, ⟨sb1, qv1, ap1, hk1, rfl⟩, hF1, hc1⟩
      obtain ⟨S1, hS1⟩ : ∃ S1, S.count.2 = S1 := ⟨_, rfl⟩
      rw [hS1] at hk1
      obtain ⟨A, c, rfl, hcc1, hcc2, hrd⟩ := Rd.of_own hk1.queue
      have hQ : Qs w1 A S1.q := hrd
      obtain ⟨a1, a2, a3, a4, a5, a6⟩ := hk1.apart
      have hAsb : ∀ a, A = some a → a.block ∉ [sb1] := by
        rintro a rfl hm
        rw [List.mem_singleton] at hm
        exact a3 (by simp [Value.ownBlock, hm])
      have hset := settle_any d S1.n sb1 S1.st A c S1.q w1 hk1.len hk1.stab hk1.good.len hk1.good.n4000 hk1.good.inq hQ hAsb (by simpa using a1) hk1.good.few
      have HSET := Lib.hid hset
      unfold ptr at HSET
      have c1 := hk1.queue_
      have HK1 := Lib.hid hk1
      have HF1 := Lib.hid hF1
      have HC1 := Lib.hid hc1
      have HS1 := Lib.hid hS1
      have HA := Lib.hid a1; have HA2 := Lib.hid a4
      clear hk1 hF1 hc1 hS1 hset hrd hQ a1 a2 a3 a4 a5 a6 hAsb h0 he h2
      go_wp2_with fail
      refine HSET.out.mono ?_
      rintro e w2 ⟨rfl, hc2, hb2⟩
      have hH2 := HK1.out.head.chg hc2 (by simpa using HA.out)
      have c2 := hH2.cell 1
      have f2 := hH2.frozen 1
      have HH2 := Lib.hid hH2
      have HC2 := Lib.hid hc2
      have HB2 := Lib.hid hb2
      clear hH2 hc2 hb2 c1
      go_wp2
      go_ret
      rw [HS1.out]
      have hd : d ∈ foot d sb1 (.slice A S1.q.length c) ap1 := by simp [foot]
      have hsb : sb1 ∈ foot d sb1 (.slice A S1.q.length c) ap1 := by simp [foot]
      have hcc : Chg (foot d sb1 (.slice A S1.q.length c) ap1) w1 (w2.setCell ⟨d, 1, none⟩ (.slice none 0 0)) := ((Chg.refl _ w1).trans HC2.out (fun j hj => by rw [List.mem_singleton] at hj; left; rw [hj]; exact hsb)).setCell (p := ⟨d, 1, none⟩) (.inl hd) _
      have hne : sb1 ≠ d := fun e => HA.out e.symm
      have hk2 : DkAt (w2.setCell ⟨d, 1, none⟩ (.slice none 0 0)) d { S1 with st := settle S1.st S1.q, q := [] } sb1 (.slice none 0 0) ap1 := by
        refine ⟨?_, HB2.out.far hne _, ⟨rfl, .inl ⟨rfl, rfl⟩⟩, ?_, ⟨HK1.out.good.n1, HK1.out.good.n4000, settle_length _ _ _ HK1.out.good.len HK1.out.good.inq, by simp, by simp, HK1.out.good.arm0⟩⟩
        · have := HH2.out.set 1 (.slice none 0 0)
          simpa using this
        · have ha := HK1.out.armed
          have n1 := HA2.out
          have n2 := HK1.out.apart.2.2.2.2.1
          cases hS : S1.arm with
          | none => simp only [hS] at ha ⊢; exact ha
          | some a =>
            simp only [hS] at ha ⊢
            obtain ⟨ab, rfl, hb⟩ := ha
            simp only [ptrBlock, ne_eq, Option.some.injEq] at n1 n2
            exact ⟨ab, rfl, (hb.chg HC2.out (by simpa using n2)).far n1 _⟩
      refine ⟨rfl, _, ⟨sb1, _, _, hk2, rfl⟩, fun k hk => ?_, HC1.out.trans hcc HF1.out⟩
      refine HF1.out k ?_
      simp only [foot, List.mem_append, List.mem_cons, Option.mem_toList, List.not_mem_nil, or_false, Value.ownBlock, reduceCtorEq] at hk ⊢
      rcases hk with h | h
      · exact .inl (.inl h)
      · exact .inr h
    · have he : S.sync = S.count := by simp [DS.sync, hoff, h0]
      rw [he]
      obtain ⟨c, S1, hc⟩ : ∃ c S1, S.count = (c, S1) := ⟨_, _, rfl⟩
      rw [hc] at HC h0 ⊢
      simp only at HC h0 ⊢
      unfold ptr at HC ⊢
      go_enter Try.func15, Try.ntmps15
      go_wp2_with fail
      refine HC.out.mono ?_
      rintro e w1 ⟨rfl, hto⟩
      go_wp2
      go_ret
      exact ⟨rfl, hto⟩

end Go.Proofs.Ytdbmimmfpglahaa
