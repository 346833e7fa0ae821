/- Chapter 30: the law KeeperMatchesReference. -/
import Derived.Test.YtjfondfjdhjooaaGreatDoorCbL
namespace Go.Proofs.YtjfondfjdhjooaaGreatDoor
set_option linter.unusedVariables false
set_option linter.unusedSimpArgs false

section
open Go.RowKit
set_option maxRecDepth 100000 in
set_option maxHeartbeats 64000000 in
theorem kmr_walk (A : Option Addr) (c : Nat) (l : List Int) (salt : ByteArray) (need total : Int) (B : Option Addr) (d : Nat) (random : List Int) (i k : Int) (w : World) (hT : Tabs w) (hA : Ints w A l) (hB : Ints w B random) (hl : l.length ≤ 9223372036854775807) (hs : salt.size ≤ 9223372036854775807) (hd : random.length ≤ d) (hd2 : d ≤ 9223372036854775807) :
    Calls Tryz.prog 4 #[.slice A l.length c, .string salt, .int .i64 need, .int .i64 total, .slice B random.length d, .int .i64 i, .int .i64 k] w fun e w' => e = .returned (.bool true) ∧ Below w.heap.size w w' := by
  have HA : Hid (∀ W, Below w.heap.size w W → Ints W A l) := Lib.hid (fun W hW => hA.below hW)
  have HB : Hid (∀ W, Below w.heap.size w W → Ints W B random) := Lib.hid (fun W hW => hB.below hW)
  have HT : Hid (∀ W, Below w.heap.size w W → Tabs W) := Lib.hid (fun W hW => hT.below hW)
  clear hA hB hT
  go_enter Tryz.func4, Tryz.ntmps4
  go_wp2_with fail
  refine (khead_any w (HT.out w (Below.refl _ _))).mono ?_
  rintro e w1 ⟨rfl, hb⟩
  have HB1 := Lib.hid hb
  clear hb
  go_wp2_with fail
  refine (rfew30_any A c l salt B d random w1).mono ?_
  rintro e _ ⟨rfl, rfl⟩
  obtain ⟨bf, hbf⟩ : ∃ b, fw30 l salt random = b := ⟨_, rfl⟩
  rw [hbf]
  cases bf with
  | false =>
    clear hbf
    go_wp2
    go_ret
    exact ⟨rfl, HB1.out⟩
  | true =>
  have hfw := of_decide_eq_true hbf
  have hs2 : salt.size ≤ 400 → salt.size ≤ 200 := fun h => by have := hfw.2.1; omega
  have HC1 : Hid (∀ W, Below w.heap.size w W → _) := Lib.hid (fun W hW => kcommit_any A c l salt need total B d random W (HA.out W hW) (HB.out W hW) hl hs hd hd2 (HT.out W hW))
  have HC2 : Hid (∀ W, Below w.heap.size w W → _) := Lib.hid (fun W hW => rcommit_any A c l salt need total B d random W (HA.out W hW) (HB.out W hW) hl hs hd hd2 hs2)
  have HO1 : Hid (∀ W, Below w.heap.size w W → _) := Lib.hid (fun W hW => kopen_all A c l salt i W (HA.out W hW) hl hs (HT.out W hW))
  have HO2 : Hid (∀ W, Below w.heap.size w W → _) := Lib.hid (fun W hW => ropen_all A c l salt i W (HA.out W hW) hl hs hs2)
  have HK1 : Hid (∀ W, Below w.heap.size w W → _) := Lib.hid (fun W hW => kkeep_all A c l need total B d random i k W (HA.out W hW) (HB.out W hW) hl hd hd2 (HT.out W hW))
  have HK2 : Hid (∀ W, Below w.heap.size w W → _) := Lib.hid (fun W hW => rkeep_all A c l need total B d random i k W (HA.out W hW) (HB.out W hW) hl hd hd2)
  have hpo : (opV l salt i).p.length ≤ 9223372036854775807 := by
    unfold opV
    split
    · rename_i h
      have h1 := of_decide_eq_true h.2
      have h2 := plen_lt_n l.length i.toNat (by omega)
      show (pt (ksL l salt) i.toNat).length ≤ _
      rw [pt_len, ksL_length]
      omega
    · exact Nat.zero_le _
  have hpk : (kpV l need total random i k).p.length ≤ 9223372036854775807 := by
    unfold kpV
    split
    · rename_i h
      obtain ⟨n, m, rfl, rfl, hok⟩ := DivOk.of h.1
      have h1 := of_decide_eq_true h.2.1
      have h2 := of_decide_eq_true h.2.2
      obtain ⟨I, rfl⟩ : ∃ I : Nat, i = (I : Int) := ⟨i.toNat, by omega⟩
      obtain ⟨K, rfl⟩ : ∃ K : Nat, k = (K : Int) := ⟨k.toNat, by omega⟩
      have hlm : l.length * m ≤ 4200 := Nat.le_trans (Nat.mul_le_mul hok.few hok.m7) (by omega)
      have him : I * m + K < l.length * m := by
        have : (I + 1) * m ≤ l.length * m := Nat.mul_le_mul_right m (by omega)
        rw [Nat.add_mul] at this; omega
      have h3 := plen_lt_n (l.length * m) (I * m + K) (by omega)
      simp only [Int.toNat_natCast]
      rw [pt_len, khP_length]
      omega
    · exact Nat.zero_le _
  have HPO := Lib.hid hpo
  have HPK := Lib.hid hpk
  clear hbf hfw hs2 hpo hpk
  generalize opV l salt i = ov at *
  generalize opE l salt i = oe at *
  generalize kpV l need total random i k = kv at *
  generalize kpE l need total random i k = ke at *
  generalize cmR l salt need total random = cv at *
  obtain ⟨ce, hce⟩ : ∃ e : Int, (if dvB l salt need total random = true then (0 : Int) else 1) = e := ⟨_, rfl⟩
  rw [hce] at HC1 HC2
  clear hce
  go_wp2_with fail

  refine (HC1.out w1 HB1.out).mono ?_
  rintro e v2 ⟨rfl, hb⟩
  obtain ⟨w2, hw2⟩ : ∃ W, v2.alloc (.cells #[.string cv.1, .string cv.2] 29) = W := ⟨_, rfl⟩
  have HX2 : Hid (Below w1.heap.size w1 w2) := Lib.hid (by rw [← hw2]; exact below_alloc hb _)
  have HB2 := Lib.hid (below_trans HB1.out HX2.out)
  have HK_2 : Hid (Blk w2 v2.heap.size 29 #[.string cv.1, .string cv.2]) := Lib.hid (by rw [← hw2]; exact Blk.new v2 _ _ _ rfl)
  obtain ⟨g2, hg2⟩ : ∃ n, v2.heap.size = n := ⟨_, rfl⟩
  clear hb
  have HW2 := Lib.hid hw2
  have HG2 := Lib.hid hg2
  clear hw2 hg2
  go_wp2_with fail
  rw [HW2.out]
  refine (HC2.out w2 HB2.out).mono ?_
  rintro e v3 ⟨rfl, hb⟩
  obtain ⟨w3, hw3⟩ : ∃ W, v3.alloc (.cells #[.string cv.1, .string cv.2] 29) = W := ⟨_, rfl⟩
  have HX3 : Hid (Below w2.heap.size w2 w3) := Lib.hid (by rw [← hw3]; exact below_alloc hb _)
  have HB3 := Lib.hid (below_trans HB2.out HX3.out)
  have HK_3 : Hid (Blk w3 v3.heap.size 29 #[.string cv.1, .string cv.2]) := Lib.hid (by rw [← hw3]; exact Blk.new v3 _ _ _ rfl)
  obtain ⟨g3, hg3⟩ : ∃ n, v3.heap.size = n := ⟨_, rfl⟩
  clear hb
  have HW3 := Lib.hid hw3
  have HG3 := Lib.hid hg3
  clear hw3 hg3
  go_wp2_with fail
  rw [HW3.out]
  refine (HO1.out w3 HB3.out).mono ?_
  rintro e v4 ⟨A4, c4, rfl, hp, hb⟩
  obtain ⟨w4, hw4⟩ : ∃ W, v4.alloc (.cells #[.int .i64 ov.ix, .int .i64 ov.v, .string ov.salt, .slice A4 ov.p.length c4] 32) = W := ⟨_, rfl⟩
  have HX4 : Hid (Below w3.heap.size w3 w4) := Lib.hid (by rw [← hw4]; exact below_alloc hb _)
  have HB4 := Lib.hid (below_trans HB3.out HX4.out)
  have HK_4 : Hid (Blk w4 v4.heap.size 32 #[.int .i64 ov.ix, .int .i64 ov.v, .string ov.salt, .slice A4 ov.p.length c4]) := Lib.hid (by rw [← hw4]; exact Blk.new v4 _ _ _ rfl)
  obtain ⟨g4, hg4⟩ : ∃ n, v4.heap.size = n := ⟨_, rfl⟩
  clear hb
  have HP4 : Hid (Strs w4 A4 ov.p) := Lib.hid (by rw [← hw4]; exact hp.below (below_alloc (Below.refl _ _) _))
  clear hp
  have HW4 := Lib.hid hw4
  have HG4 := Lib.hid hg4
  clear hw4 hg4
  go_wp2_with fail
  rw [HW4.out]
  refine (HO2.out w4 HB4.out).mono ?_
  rintro e v5 ⟨A5, c5, rfl, hp, hb⟩
  obtain ⟨w5, hw5⟩ : ∃ W, v5.alloc (.cells #[.int .i64 ov.ix, .int .i64 ov.v, .string ov.salt, .slice A5 ov.p.length c5] 32) = W := ⟨_, rfl⟩
  have HX5 : Hid (Below w4.heap.size w4 w5) := Lib.hid (by rw [← hw5]; exact below_alloc hb _)
  have HB5 := Lib.hid (below_trans HB4.out HX5.out)
  have HK_5 : Hid (Blk w5 v5.heap.size 32 #[.int .i64 ov.ix, .int .i64 ov.v, .string ov.salt, .slice A5 ov.p.length c5]) := Lib.hid (by rw [← hw5]; exact Blk.new v5 _ _ _ rfl)
  obtain ⟨g5, hg5⟩ : ∃ n, v5.heap.size = n := ⟨_, rfl⟩
  clear hb
  have HP5 : Hid (Strs w5 A5 ov.p) := Lib.hid (by rw [← hw5]; exact hp.below (below_alloc (Below.refl _ _) _))
  clear hp
  have HW5 := Lib.hid hw5
  have HG5 := Lib.hid hg5
  clear hw5 hg5
  go_wp2_with fail
  rw [HW5.out]
  refine (HK1.out w5 HB5.out).mono ?_
  rintro e v6 ⟨A6, c6, rfl, hp, hb⟩
  obtain ⟨w6, hw6⟩ : ∃ W, v6.alloc (.cells #[.int .i64 kv.ix, .int .i64 kv.s.1, .int .i64 kv.s.2, .slice A6 kv.p.length c6] 50) = W := ⟨_, rfl⟩
  have HX6 : Hid (Below w5.heap.size w5 w6) := Lib.hid (by rw [← hw6]; exact below_alloc hb _)
  have HB6 := Lib.hid (below_trans HB5.out HX6.out)
  have HK_6 : Hid (Blk w6 v6.heap.size 50 #[.int .i64 kv.ix, .int .i64 kv.s.1, .int .i64 kv.s.2, .slice A6 kv.p.length c6]) := Lib.hid (by rw [← hw6]; exact Blk.new v6 _ _ _ rfl)
  obtain ⟨g6, hg6⟩ : ∃ n, v6.heap.size = n := ⟨_, rfl⟩
  clear hb
  have HP6 : Hid (Strs w6 A6 kv.p) := Lib.hid (by rw [← hw6]; exact hp.below (below_alloc (Below.refl _ _) _))
  clear hp
  have HW6 := Lib.hid hw6
  have HG6 := Lib.hid hg6
  clear hw6 hg6
  go_wp2_with fail
  rw [HW6.out]
  refine (HK2.out w6 HB6.out).mono ?_
  rintro e v7 ⟨A7, c7, rfl, hp, hb⟩
  obtain ⟨w7, hw7⟩ : ∃ W, v7.alloc (.cells #[.int .i64 kv.ix, .int .i64 kv.s.1, .int .i64 kv.s.2, .slice A7 kv.p.length c7] 50) = W := ⟨_, rfl⟩
  have HX7 : Hid (Below w6.heap.size w6 w7) := Lib.hid (by rw [← hw7]; exact below_alloc hb _)
  have HB7 := Lib.hid (below_trans HB6.out HX7.out)
  have HK_7 : Hid (Blk w7 v7.heap.size 50 #[.int .i64 kv.ix, .int .i64 kv.s.1, .int .i64 kv.s.2, .slice A7 kv.p.length c7]) := Lib.hid (by rw [← hw7]; exact Blk.new v7 _ _ _ rfl)
  obtain ⟨g7, hg7⟩ : ∃ n, v7.heap.size = n := ⟨_, rfl⟩
  clear hb
  have HP7 : Hid (Strs w7 A7 kv.p) := Lib.hid (by rw [← hw7]; exact hp.below (below_alloc (Below.refl _ _) _))
  clear hp
  have HW7 := Lib.hid hw7
  have HG7 := Lib.hid hg7
  clear hw7 hg7
  have HQ2 : Hid (Blk w7 _ _ _) := Lib.hid (((below_trans (below_trans (below_trans (below_trans HX3.out HX4.out) HX5.out) HX6.out) HX7.out).block _ HK_2.out.lt).trans HK_2.out)
  have HQ3 : Hid (Blk w7 _ _ _) := Lib.hid (((below_trans (below_trans (below_trans HX4.out HX5.out) HX6.out) HX7.out).block _ HK_3.out.lt).trans HK_3.out)
  have HQ4 : Hid (Blk w7 _ _ _) := Lib.hid (((below_trans (below_trans HX5.out HX6.out) HX7.out).block _ HK_4.out.lt).trans HK_4.out)
  have HQ5 : Hid (Blk w7 _ _ _) := Lib.hid (((below_trans HX6.out HX7.out).block _ HK_5.out.lt).trans HK_5.out)
  have HQ6 : Hid (Blk w7 _ _ _) := Lib.hid ((HX7.out.block _ HK_6.out.lt).trans HK_6.out)
  have HQ7 := HK_7
  have HS4 : Hid (Strs w7 A4 ov.p) := Lib.hid (HP4.out.below (below_trans (below_trans HX5.out HX6.out) HX7.out))
  have HS5 : Hid (Strs w7 A5 ov.p) := Lib.hid (HP5.out.below (below_trans HX6.out HX7.out))
  have HS6 : Hid (Strs w7 A6 kv.p) := Lib.hid (HP6.out.below HX7.out)
  have HS7 := HP7
  have hw7 := HW7.out
  subst hw7
  have q40 := HQ4.out.of_cell (i := 0) rfl
  have q41 := HQ4.out.of_cell (i := 1) rfl
  have q42 := HQ4.out.of_cell (i := 2) rfl
  have q43 := HQ4.out.of_cell (i := 3) rfl
  have q4l := HQ4.out.lt
  have q50 := HQ5.out.of_cell (i := 0) rfl
  have q51 := HQ5.out.of_cell (i := 1) rfl
  have q52 := HQ5.out.of_cell (i := 2) rfl
  have q53 := HQ5.out.of_cell (i := 3) rfl
  have q5l := HQ5.out.lt
  go_wp2_with fail
  clear q40 q41 q42 q43 q4l
  clear q50 q51 q52 q53 q5l
  refine (rsame A4 A5 c4 c5 ov.p ov.p _ HS4.out HS5.out HPO.out HPO.out).mono ?_
  rintro e w8 ⟨rfl, hb⟩
  rw [decide_eq_true (rfl : ov.p = ov.p)]
  have HB8 := Lib.hid (below_trans HB7.out hb)
  have HX8 := Lib.hid hb
  have HS6' := Lib.hid (HS6.out.below hb)
  have HS7' := Lib.hid (HS7.out.below hb)
  clear hb
  have HR2 : Hid (Blk w8 _ _ _) := Lib.hid ((HX8.out.block _ HQ2.out.lt).trans HQ2.out)
  have HR3 : Hid (Blk w8 _ _ _) := Lib.hid ((HX8.out.block _ HQ3.out.lt).trans HQ3.out)
  have HR6 : Hid (Blk w8 _ _ _) := Lib.hid ((HX8.out.block _ HQ6.out.lt).trans HQ6.out)
  have HR7 : Hid (Blk w8 _ _ _) := Lib.hid ((HX8.out.block _ HQ7.out.lt).trans HQ7.out)
  have q20 := HR2.out.of_cell (i := 0) rfl
  have q21 := HR2.out.of_cell (i := 1) rfl
  have q2l := HR2.out.lt
  have q30 := HR3.out.of_cell (i := 0) rfl
  have q31 := HR3.out.of_cell (i := 1) rfl
  have q3l := HR3.out.lt
  have q60 := HR6.out.of_cell (i := 0) rfl
  have q61 := HR6.out.of_cell (i := 1) rfl
  have q62 := HR6.out.of_cell (i := 2) rfl
  have q63 := HR6.out.of_cell (i := 3) rfl
  have q6l := HR6.out.lt
  have q70 := HR7.out.of_cell (i := 0) rfl
  have q71 := HR7.out.of_cell (i := 1) rfl
  have q72 := HR7.out.of_cell (i := 2) rfl
  have q73 := HR7.out.of_cell (i := 3) rfl
  have q7l := HR7.out.lt
  go_wp2_with fail
  clear q20 q21 q2l
  clear q30 q31 q3l
  clear q60 q61 q62 q63 q6l
  clear q70 q71 q72 q73 q7l
  refine (rsame A6 A7 c6 c7 kv.p kv.p w8 HS6'.out HS7'.out HPK.out HPK.out).mono ?_
  rintro e w9 ⟨rfl, hb⟩
  rw [decide_eq_true (rfl : kv.p = kv.p)]
  go_wp2
  go_ret
  exact ⟨rfl, below_trans HB8.out hb⟩
end

end Go.Proofs.YtjfondfjdhjooaaGreatDoor
