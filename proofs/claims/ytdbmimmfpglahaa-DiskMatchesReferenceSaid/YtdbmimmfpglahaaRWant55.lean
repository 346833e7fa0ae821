/- observatorylaw55.want: one operation on the reference's disk. -/
import Derived.Test.YtdbmimmfpglahaaRDiskMk
import Derived.Deep.RegionHeld3
namespace Go.Proofs.Ytdbmimmfpglahaa
open Go.RowKit

theorem rread_b (d : Nat) (S : DS) (F : List Nat) (s : Int) (w : World) (h : RDk w d S F) :
    Calls Try.prog 12 #[ptr d, .int .i64 s] w fun e w' => e = .returned (.tuple #[.string (S.read s).1, .int .i64 (S.read s).2]) ∧ Below w.heap.size w w' :=
  (rread_any d S F s w h).mono fun _ _ ⟨he, hw⟩ => ⟨he, hw ▸ Below.refl _ _⟩

set_option maxHeartbeats 8000000 in
theorem want_write (d : Nat) (S : DS) (F : List Nat) (sec byt : Int) (tex : ByteArray) (od : Bool) (af : Int) (w : World) (h : RDk w d S F) (ht : tex.size ≤ 100) (hf : S.q.length < 1000000) (cv : Int) (S2 : DS) (tx : ByteArray) (htx : AC.txt ⟨0, sec, byt, tex, od, af⟩ = tx) (hcs : S.write sec tx = (cv, S2)) :
    Calls Try.prog 10 #[ptr d, .agg #[.int .i64 0, .int .i64 sec, .int .i64 byt, .string tex, .bool od, .int .i64 af]] w fun e w' => e = .returned (.tuple #[.string ByteArray.empty, .int .i64 cv]) ∧ RDkTo w w' d F S2 := by
  have HD : Hid (∀ w', Below (w.alloc (.cells #[.int .i64 0, .int .i64 sec, .int .i64 byt, .string tex, .bool od, .int .i64 af] 34)).drew.heap.size (w.alloc (.cells #[.int .i64 0, .int .i64 sec, .int .i64 byt, .string tex, .bool od, .int .i64 af] 34)).drew w' → RDk w' d S F) := fun w' hb => (h.boxed (.cells #[.int .i64 0, .int .i64 sec, .int .i64 byt, .string tex, .bool od, .int .i64 af] 34)).drew.chg (F2 := []) (Chg.of_below hb []) (by simp)
  have HNF : Hid (w.heap.size ∉ F) := fun hm => Nat.lt_irrefl _ (h.lt _ hm)
  have HTX : Hid (∀ w, Calls Try.prog 22 #[.agg #[.int .i64 0, .int .i64 sec, .int .i64 byt, .string tex, .bool od, .int .i64 af]] w fun e w' => e = .returned (.string tx) ∧ Below w.heap.size w w') := by
    intro w
    have := text_any ⟨0, sec, byt, tex, od, af⟩ w ht
    rw [htx] at this
    exact this
  have HWR : Hid (∀ w', RDk w' d S F → Calls Try.prog 23 #[.pointer (some ⟨d, 0, none⟩), .int .i64 sec, .string tx] w' fun e w'' => e = .returned (.int .i64 cv) ∧ RDkTo w' w'' d F S2) := by
    intro w' hw
    have := rwrite_any d S F sec tx w' hw hf
    rw [hcs] at this
    exact this
  clear h ht hf htx hcs
  unfold ptr
  go_enter Try.func10, Try.ntmps10
  go_wp2_with fail
  go_region_held3 (fun w' => w'.cell? ⟨w.heap.size, 0, none⟩ = some (.int .i64 0) ∧ w'.cell? ⟨w.heap.size, 1, none⟩ = some (.int .i64 sec) ∧ w'.cell? ⟨w.heap.size, 2, none⟩ = some (.int .i64 byt) ∧ w'.cell? ⟨w.heap.size, 3, none⟩ = some (.string tex) ∧ w'.cell? ⟨w.heap.size, 4, none⟩ = some (.bool od) ∧ w'.cell? ⟨w.heap.size, 5, none⟩ = some (.int .i64 af))
    (first
      | go_keep
      | (go_split_ands
         refine ⟨?_, ?_, ?_, ?_, ?_, ?_⟩ <;> exact kept_cell hbt (by simp))
      | (go_split_ands
         refine ⟨?_, ?_, ?_, ?_, ?_, ?_⟩ <;> exact hto.cell HNF.out (by assumption)))
    (first
      | (go_at_call 22; refine (HTX.out _).mono ?_; rintro e w5 ⟨rfl, hbt⟩)
      | (go_at_call 23; refine (HWR.out _ (HD.out _ hbt)).mono ?_; rintro e w6 ⟨rfl, hto'⟩; have hto := hto'.choose_spec.2.2))
  all_goals
    have hfin := RDkTo.behind (F := F) (((Chg.refl F w).alloc (.cells #[.int .i64 0, .int .i64 sec, .int .i64 byt, .string tex, .bool od, .int .i64 af] 34)).drew.trans (Chg.of_below hbt F) (fun _ hj => .inl hj)) (fun _ hk => .inl hk) hto'
    have HFIN := Lib.hid hfin
    clear hfin hto' hto
    go_wp2
    go_ret2
    exact ⟨rfl, HFIN.out⟩

set_option maxHeartbeats 4000000 in
theorem want_read (d : Nat) (S : DS) (F : List Nat) (sec byt : Int) (tex : ByteArray) (od : Bool) (af : Int) (w : World) (h : RDk w d S F) :
    Calls Try.prog 10 #[ptr d, .agg #[.int .i64 1, .int .i64 sec, .int .i64 byt, .string tex, .bool od, .int .i64 af]] w fun e w' => e = .returned (.tuple #[.string (S.read sec).1, .int .i64 (S.read sec).2]) ∧ RDkTo w w' d F S := by
  have HB := Lib.hid (h.boxed (.cells #[.int .i64 1, .int .i64 sec, .int .i64 byt, .string tex, .bool od, .int .i64 af] 34))
  have HC := Lib.hid (rread_b d S F sec _ HB.out)
  have HFIN : Hid (∀ w1, Below (w.alloc (.cells #[.int .i64 1, .int .i64 sec, .int .i64 byt, .string tex, .bool od, .int .i64 af] 34)).heap.size (w.alloc (.cells #[.int .i64 1, .int .i64 sec, .int .i64 byt, .string tex, .bool od, .int .i64 af] 34)) w1 → RDkTo w w1 d F S) := fun w1 hb => RDkTo.of_chg h (below_trans (below_alloc (Below.refl _ _) _) hb)
  clear h
  unfold ptr at *
  go_enter Try.func10, Try.ntmps10
  go_wp2_with fail
  refine HC.out.mono ?_
  rintro e w1 ⟨rfl, hb⟩
  have hfin := HFIN.out _ hb
  have HF := Lib.hid hfin
  clear hfin hb
  go_wp2
  go_ret2
  exact ⟨rfl, HF.out⟩

set_option maxHeartbeats 4000000 in
theorem want_sync (d : Nat) (S : DS) (F : List Nat) (sec byt : Int) (tex : ByteArray) (od : Bool) (af : Int) (w : World) (h : RDk w d S F) :
    Calls Try.prog 10 #[ptr d, .agg #[.int .i64 2, .int .i64 sec, .int .i64 byt, .string tex, .bool od, .int .i64 af]] w fun e w' => e = .returned (.tuple #[.string ByteArray.empty, .int .i64 S.sync.1]) ∧ RDkTo w w' d F S.sync.2 := by
  have HB := Lib.hid (h.boxed (.cells #[.int .i64 2, .int .i64 sec, .int .i64 byt, .string tex, .bool od, .int .i64 af] 34))
  have HC := Lib.hid (rsync_any d S F _ HB.out)
  clear h
  unfold ptr at *
  go_enter Try.func10, Try.ntmps10
  go_wp2_with fail
  refine HC.out.mono ?_
  rintro e w1 ⟨rfl, hto⟩
  have hfin := RDkTo.boxed _ hto
  have HF := Lib.hid hfin
  clear hfin hto
  go_wp2
  go_ret2
  exact ⟨rfl, HF.out⟩

set_option maxHeartbeats 4000000 in
theorem want_fail (d : Nat) (S : DS) (F : List Nat) (sec byt : Int) (tex : ByteArray) (od : Bool) (af : Int) (w : World) (h : RDk w d S F) :
    Calls Try.prog 10 #[ptr d, .agg #[.int .i64 3, .int .i64 sec, .int .i64 byt, .string tex, .bool od, .int .i64 af]] w fun e w' => e = .returned (.tuple #[.string ByteArray.empty, .int .i64 0]) ∧ RDkTo w w' d F (S.fail sec byt) := by
  have HB := Lib.hid (h.boxed (.cells #[.int .i64 3, .int .i64 sec, .int .i64 byt, .string tex, .bool od, .int .i64 af] 34))
  have HC := Lib.hid (rfail_any d S F sec byt _ HB.out)
  clear h
  unfold ptr at *
  go_enter Try.func10, Try.ntmps10
  go_wp2_with fail
  refine HC.out.mono ?_
  rintro e w1 ⟨rfl, hto⟩
  have hfin := RDkTo.boxed _ hto
  have HF := Lib.hid hfin
  clear hfin hto
  go_wp2
  go_ret2
  exact ⟨rfl, HF.out⟩

set_option maxHeartbeats 4000000 in
theorem want_start (d : Nat) (S : DS) (F : List Nat) (sec byt : Int) (tex : ByteArray) (od : Bool) (af : Int) (w : World) (h : RDk w d S F) :
    Calls Try.prog 10 #[ptr d, .agg #[.int .i64 4, .int .i64 sec, .int .i64 byt, .string tex, .bool od, .int .i64 af]] w fun e w' => e = .returned (.tuple #[.string ByteArray.empty, .int .i64 0]) ∧ RDkTo w w' d F S.start := by
  have HB := Lib.hid (h.boxed (.cells #[.int .i64 4, .int .i64 sec, .int .i64 byt, .string tex, .bool od, .int .i64 af] 34))
  have HC := Lib.hid (rstart_any d S F _ HB.out)
  clear h
  unfold ptr at *
  go_enter Try.func10, Try.ntmps10
  go_wp2_with fail
  refine HC.out.mono ?_
  rintro e w1 ⟨rfl, hto⟩
  have hfin := RDkTo.boxed _ hto
  have HF := Lib.hid hfin
  clear hfin hto
  go_wp2
  go_ret2
  exact ⟨rfl, HF.out⟩

set_option maxHeartbeats 4000000 in
theorem want_arm (d : Nat) (S : DS) (F : List Nat) (sec byt : Int) (tex : ByteArray) (od : Bool) (af : Int) (w : World) (h : RDk w d S F) (ha : af ≤ 9223372036854775807) :
    Calls Try.prog 10 #[ptr d, .agg #[.int .i64 5, .int .i64 sec, .int .i64 byt, .string tex, .bool od, .int .i64 af]] w fun e w' => e = .returned (.tuple #[.string ByteArray.empty, .int .i64 0]) ∧ RDkTo w w' d F (S.setArm af sec byt) := by
  have HB := Lib.hid (h.boxed (.cells #[.int .i64 5, .int .i64 sec, .int .i64 byt, .string tex, .bool od, .int .i64 af] 34))
  have HC := Lib.hid (rarm_any d S F af sec byt _ HB.out ha)
  clear h
  unfold ptr at *
  go_enter Try.func10, Try.ntmps10
  go_wp2_with fail
  refine HC.out.mono ?_
  rintro e w1 ⟨rfl, hto⟩
  have hfin := RDkTo.boxed _ hto
  have HF := Lib.hid hfin
  clear hfin hto
  go_wp2
  go_ret2
  exact ⟨rfl, HF.out⟩

set_option maxHeartbeats 4000000 in
theorem want_rot (d : Nat) (S : DS) (F : List Nat) (sec byt : Int) (tex : ByteArray) (od : Bool) (af : Int) (w : World) (h : RDk w d S F) :
    Calls Try.prog 10 #[ptr d, .agg #[.int .i64 6, .int .i64 sec, .int .i64 byt, .string tex, .bool od, .int .i64 af]] w fun e w' => e = .returned (.tuple #[.string ByteArray.empty, .int .i64 0]) ∧ RDkTo w w' d F (S.rot sec byt af) := by
  have HB := Lib.hid (h.boxed (.cells #[.int .i64 6, .int .i64 sec, .int .i64 byt, .string tex, .bool od, .int .i64 af] 34))
  have HC := Lib.hid (rrot_any d S F sec byt af _ HB.out)
  clear h
  unfold ptr at *
  go_enter Try.func10, Try.ntmps10
  go_wp2_with fail
  refine HC.out.mono ?_
  rintro e w1 ⟨rfl, hto⟩
  have hfin := RDkTo.boxed _ hto
  have HF := Lib.hid hfin
  clear hfin hto
  go_wp2
  go_ret2
  exact ⟨rfl, HF.out⟩

set_option maxHeartbeats 4000000 in
theorem want_raw (d : Nat) (S : DS) (F : List Nat) (sec byt : Int) (tex : ByteArray) (od : Bool) (af : Int) (w : World) (h : RDk w d S F) :
    Calls Try.prog 10 #[ptr d, .agg #[.int .i64 7, .int .i64 sec, .int .i64 byt, .string tex, .bool od, .int .i64 af]] w fun e w' => e = .returned (.tuple #[.string S.raw, .int .i64 0]) ∧ RDkTo w w' d F S := by
  have HB := Lib.hid (h.boxed (.cells #[.int .i64 7, .int .i64 sec, .int .i64 byt, .string tex, .bool od, .int .i64 af] 34))
  have HC := Lib.hid (rraw_any d S F _ HB.out)
  have HFIN : Hid (∀ w1, Below (w.alloc (.cells #[.int .i64 7, .int .i64 sec, .int .i64 byt, .string tex, .bool od, .int .i64 af] 34)).heap.size (w.alloc (.cells #[.int .i64 7, .int .i64 sec, .int .i64 byt, .string tex, .bool od, .int .i64 af] 34)) w1 → RDkTo w w1 d F S) := fun w1 hb => RDkTo.of_chg h (below_trans (below_alloc (Below.refl _ _) _) hb)
  clear h
  unfold ptr at *
  go_enter Try.func10, Try.ntmps10
  go_wp2_with fail
  refine HC.out.mono ?_
  rintro e w1 ⟨rfl, hb⟩
  have hfin := HFIN.out _ hb
  have HF := Lib.hid hfin
  clear hfin hb
  go_wp2
  go_ret2
  exact ⟨rfl, HF.out⟩

set_option maxHeartbeats 4000000 in
theorem want_none (d : Nat) (S : DS) (F : List Nat) (sec byt : Int) (tex : ByteArray) (od : Bool) (af : Int) (w : World) (h : RDk w d S F) (kind : Int) (k0 : kind ≠ 0) (k1 : kind ≠ 1) (k2 : kind ≠ 2) (k3 : kind ≠ 3) (k4 : kind ≠ 4) (k5 : kind ≠ 5) (k6 : kind ≠ 6) (k7 : kind ≠ 7) :
    Calls Try.prog 10 #[ptr d, .agg #[.int .i64 kind, .int .i64 sec, .int .i64 byt, .string tex, .bool od, .int .i64 af]] w fun e w' => e = .returned (.tuple #[.string ByteArray.empty, .int .i64 0]) ∧ RDkTo w w' d F S := by
  have HB := Lib.hid (h.boxed (.cells #[.int .i64 kind, .int .i64 sec, .int .i64 byt, .string tex, .bool od, .int .i64 af] 34))
  have HF : Hid (RDkTo w (w.alloc (.cells #[.int .i64 kind, .int .i64 sec, .int .i64 byt, .string tex, .bool od, .int .i64 af] 34)) d F S) := RDkTo.of_chg h (below_alloc (Below.refl _ _) _)
  clear h HB
  unfold ptr at *
  go_enter Try.func10, Try.ntmps10
  go_wp2
  go_ret2
  exact ⟨rfl, HF.out⟩

theorem want_any (d : Nat) (S : DS) (F : List Nat) (a : AC) (w : World) (h : RDk w d S F) (ht : a.text.size ≤ 100) (ha : a.after ≤ 9223372036854775807) (hf : S.q.length < 1000000) :
    Calls Try.prog 10 #[ptr d, a.val] w fun e w' => e = .returned (.tuple #[.string (S.act a).1.1, .int .i64 (S.act a).1.2]) ∧ RDkTo w w' d F (S.act a).2 := by
  obtain ⟨kind, sec, byt, tex, od, af⟩ := a
  simp only [AC.val] at *
  by_cases k0 : kind = 0
  · subst k0
    exact want_write d S F sec byt tex od af w h ht hf _ _ _ rfl rfl
  by_cases k1 : kind = 1
  · subst k1
    exact want_read d S F sec byt tex od af w h
  by_cases k2 : kind = 2
  · subst k2
    exact want_sync d S F sec byt tex od af w h
  by_cases k3 : kind = 3
  · subst k3
    exact want_fail d S F sec byt tex od af w h
  by_cases k4 : kind = 4
  · subst k4
    exact want_start d S F sec byt tex od af w h
  by_cases k5 : kind = 5
  · subst k5
    exact want_arm d S F sec byt tex od af w h ha
  by_cases k6 : kind = 6
  · subst k6
    exact want_rot d S F sec byt tex od af w h
  by_cases k7 : kind = 7
  · subst k7
    exact want_raw d S F sec byt tex od af w h
  · have he : S.act ⟨kind, sec, byt, tex, od, af⟩ = ((ByteArray.empty, 0), S) := by simp [DS.act, k0, k1, k2, k3, k4, k5, k6, k7]
    rw [he]
    exact want_none d S F sec byt tex od af w h kind k0 k1 k2 k3 k4 k5 k6 k7

end Go.Proofs.Ytdbmimmfpglahaa
