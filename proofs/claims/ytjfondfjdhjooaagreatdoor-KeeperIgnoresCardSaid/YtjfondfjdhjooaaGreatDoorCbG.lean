/- keeper: Commit, Open, Keep. keeper: Check, join. keeper: join. keeper: Draw. -/
import Derived.Test.YtjfondfjdhjooaaGreatDoorCbF
import Derived.Laws.CopyOwn
namespace Go.Proofs.YtjfondfjdhjooaaGreatDoor
set_option linter.unusedVariables false
set_option linter.unusedSimpArgs false

section
open Go.RowKit

/-- What Commit returns. -/
def cmR (l : List Int) (salt : ByteArray) (need total : Int) (random : List Int) : ByteArray × ByteArray :=
  if dvB l salt need total random then (rt (ksL l salt), rt (khP l need.toNat total.toNat random l.length)) else (⟨#[]⟩, ⟨#[]⟩)
theorem Blk.rowK {w : World} {b : Nat} {t : TypeId} {old : Array Value} (h : Blk w b t old) (cells : Array Value) : Blk (w.setRow b cells) b t cells := setRow_heap w b old cells t _ h
theorem size_cm : (Tryz.prog.info? 29).map (·.size) = some 2 := by kernel_rfl
theorem size_og : (Tryz.prog.info? 32).map (·.size) = some 4 := by kernel_rfl
theorem size_kp : (Tryz.prog.info? 50).map (·.size) = some 4 := by kernel_rfl
set_option maxRecDepth 100000 in
set_option maxHeartbeats 8000000 in
theorem kcommit_any (A : Option Addr) (c : Nat) (l : List Int) (salt : ByteArray) (need total : Int) (B : Option Addr) (d : Nat) (random : List Int) (w : World) (hA : Ints w A l) (hB : Ints w B random) (hl : l.length ≤ 9223372036854775807) (hs : salt.size ≤ 9223372036854775807) (hd : random.length ≤ d) (hd2 : d ≤ 9223372036854775807) (hT : Tabs w) :
    Calls Tryz.prog 17 #[.slice A l.length c, .string salt, .int .i64 need, .int .i64 total, .slice B random.length d] w fun e w' =>
      e = .returned (.tuple #[.agg #[.string (cmR l salt need total random).1, .string (cmR l salt need total random).2], .int .i64 (if dvB l salt need total random then 0 else 1)]) ∧ Below w.heap.size w w' := by
  have HT : Hid (∀ W, Below w.heap.size w W → Tabs W) := Lib.hid (fun W hW => hT.below hW)
  have HDV : Hid (∀ W, Below w.heap.size w W → _) := Lib.hid (fun W hW => kdval_any A c l salt need total B d random W (hA.below hW) (hB.below hW) hl hs (by omega))
  cases hv : dvB l salt need total random with
  | false =>
    have hR : cmR l salt need total random = (⟨#[]⟩, ⟨#[]⟩) := by unfold cmR; rw [hv]; rfl
    rw [hR]
    rw [hv] at HDV
    clear hv hR hA hB
    go_enter Tryz.func17, Tryz.ntmps17
    go_wp2_with fail
    refine (HDV.out _ (below_alloc (below_alloc (Below.refl _ _) _) _)).mono ?_
    rintro e w1 ⟨rfl, hb⟩
    have HB1 := Lib.hid (below_trans (below_alloc (below_alloc (Below.refl _ _) _) _) hb)
    have HBK : Hid (Blk w1 w.heap.size 29 #[.string ⟨#[]⟩, .string ⟨#[]⟩]) := Lib.hid ((hb.block _ (by simp; omega)).trans ((Blk.new w _ _ _ rfl).alloc _))
    clear hb
    go_wp2_with (refine wpList_store_row rfl 29 (.tmp 10) (.tmp 27) rfl w.heap.size #[.string ⟨#[]⟩, .string ⟨#[]⟩] rfl rfl 29 #[.string ⟨#[]⟩, .string ⟨#[]⟩] HBK.out size_cm rfl (by simp [Value.oneCell']) ?_)
    have hbk := Blk.rowK HBK.out #[.string ⟨#[]⟩, .string ⟨#[]⟩]
    have hbel := below_setRow HB1.out (Nat.le_refl _) #[.string ⟨#[]⟩, .string ⟨#[]⟩]
    generalize w1.setRow w.heap.size _ = w2 at *
    have cc0 := hbk.of_cell (i := 0) rfl
    have cc1 := hbk.of_cell (i := 1) rfl
    have hlt := hbk.lt
    clear hbk
    go_wp2
    exact bodyPost_ret (v := .tuple #[.agg #[.string ⟨#[]⟩, .string ⟨#[]⟩], .int .i64 1]) (by simp [results, Tryz.results17, go_sem, cc0, cc1, hlt]) rfl ⟨rfl, hbel⟩
  | true =>
    obtain ⟨n, m, rfl, rfl, hok⟩ := DivOk.of hv
    have hsd : sdOk l salt = true := by simp only [dvB, Bool.and_eq_true] at hv; exact hv.1
    have hR : cmR l salt n m random = (rt (ksL l salt), rt (khP l n m random l.length)) := by unfold cmR; rw [hv]; rfl
    rw [hR, if_pos rfl]
    rw [hv] at HDV
    have hl6 := hok.few
    have hm7 := hok.m7
    have hlm : l.length * m ≤ 4200 := Nat.le_trans (Nat.mul_le_mul hl6 hm7) (by omega)
    have HLV : Hid (∀ W, Below w.heap.size w W → _) := Lib.hid (fun W hW => kleaves_any A c l salt W (hA.below hW) hsd (hT.below hW))
    have HKV : Hid (∀ W, Below w.heap.size w W → _) := Lib.hid (fun W hW => kkept_any A c l salt n m B d random W (hA.below hW) (hB.below hW) hok hd hd2 (hT.below hW))
    have HR1 : Hid (∀ (Z : Option Addr) (cz : Nat) W, Strs W Z (ksL l salt) → l.length ≤ cz → Below w.heap.size w W → Calls Tryz.prog 43 #[.slice Z l.length cz] W fun e w' => e = .returned (.tuple #[.string (rt (ksL l salt)), .int .i64 0]) ∧ Below W.heap.size W w') := Lib.hid (fun Z cz W hZ hc hW => by
      have := root_any Z cz (ksL l salt) W (by rw [ksL_length]; omega) (by rw [ksL_length]; exact hc) hZ (ksL_sm l salt) (hT.below hW)
      rw [ksL_D, if_pos rfl, if_pos rfl, ksL_length] at this
      exact this)
    have HR2 : Hid (∀ (Z : Option Addr) (cz : Nat) W, Strs W Z (khP l n m random l.length) → l.length * m ≤ cz → Below w.heap.size w W → Calls Tryz.prog 43 #[.slice Z (l.length * m) cz] W fun e w' => e = .returned (.tuple #[.string (rt (khP l n m random l.length)), .int .i64 0]) ∧ Below W.heap.size W w') := Lib.hid (fun Z cz W hZ hc hW => by
      have := root_any Z cz (khP l n m random l.length) W (by rw [khP_length]; omega) (by rw [khP_length]; exact hc) hZ (khP_sm l n m random _) (hT.below hW)
      rw [khP_D, if_pos rfl, if_pos rfl, khP_length] at this
      exact this)
    have HL1 := Lib.hid (ksL_length l salt)
    have HL2 := Lib.hid (khP_length l n m random l.length)
    generalize rt (ksL l salt) = RA at *
    generalize rt (khP l n m random l.length) = RB at *
    generalize ksL l salt = LA at *
    generalize khP l n m random l.length = LB at *
    clear hv hR hA hB hok hsd hT
    obtain ⟨w0, hw0⟩ : ∃ w0, (w.alloc (.cells #[.string ⟨#[]⟩, .string ⟨#[]⟩] 29)).alloc (.cells #[.slice A l.length c, .string salt, .int .i64 n, .int .i64 m, .slice B random.length d] 88) = w0 := ⟨_, rfl⟩
    have HB0 : Hid (Below w.heap.size w w0) := Lib.hid (by rw [← hw0]; exact below_alloc (below_alloc (Below.refl _ _) _) _)
    have HKD : Hid (∀ W, Below w0.heap.size w0 W → Blk W (w.heap.size + 1) 88 #[.slice A l.length c, .string salt, .int .i64 n, .int .i64 m, .slice B random.length d] ∧ Blk W w.heap.size 29 #[.string ⟨#[]⟩, .string ⟨#[]⟩]) := Lib.hid (fun W hW => by
      have h1 : Blk w0 (w.heap.size + 1) 88 #[.slice A l.length c, .string salt, .int .i64 n, .int .i64 m, .slice B random.length d] := by rw [← hw0]; exact Blk.new _ _ _ _ (by simp)
      have h2 : Blk w0 w.heap.size 29 #[.string ⟨#[]⟩, .string ⟨#[]⟩] := by rw [← hw0]; exact (Blk.new w _ _ _ rfl).alloc _
      exact ⟨(hW.block _ h1.lt).trans h1, (hW.block _ h2.lt).trans h2⟩)
    have HDC : Hid (∀ W, Below w0.heap.size w0 W → W.cell? ⟨w.heap.size + 1, 0, none⟩ = some (.slice A l.length c) ∧ W.cell? ⟨w.heap.size + 1, 1, none⟩ = some (.string salt) ∧ W.cell? ⟨w.heap.size + 1, 2, none⟩ = some (.int .i64 n) ∧ W.cell? ⟨w.heap.size + 1, 3, none⟩ = some (.int .i64 m) ∧ W.cell? ⟨w.heap.size + 1, 4, none⟩ = some (.slice B random.length d) ∧ w.heap.size + 1 < W.heap.size) := Lib.hid (fun W hW => by
      have hb := (HKD.out W hW).1
      exact ⟨hb.of_cell (i := 0) rfl, hb.of_cell (i := 1) rfl, hb.of_cell (i := 2) rfl, hb.of_cell (i := 3) rfl, hb.of_cell (i := 4) rfl, hb.lt⟩)
    have HW0 := Lib.hid hw0
    clear hw0
    go_enter Tryz.func17, Tryz.ntmps17
    go_wp2_with fail
    have hw0 := HW0.out
    rw [hw0]
    clear hw0
    refine (HDV.out _ HB0.out).mono ?_
    rintro e w1 ⟨rfl, hb⟩
    have HX1 := Lib.hid hb
    clear hb
    obtain ⟨z0, z1, z2, z3, z4, zl⟩ := HDC.out w1 HX1.out
    go_wp2_with fail
    clear z0 z1 z2 z3 z4 zl
    refine (HLV.out w1 (below_trans HB0.out HX1.out)).mono ?_
    rintro e w2 ⟨v2, rfl, ho, hb⟩
    have HX2 := Lib.hid (below_trans HX1.out hb)
    obtain ⟨A2, c2, rfl, hc2, -, hr2⟩ := Rd.of_own ho
    have HS2 : Hid (Strs w2 A2 LA) := Lib.hid (by unfold Strs; rw [HL1.out]; exact hr2)
    clear ho hb hr2
    go_wp2_with fail
    refine (HR1.out A2 c2 w2 HS2.out hc2 (below_trans HB0.out HX2.out)).mono ?_
    rintro e w3 ⟨rfl, hb⟩
    have HX3 := Lib.hid (below_trans HX2.out hb)
    clear hb
    obtain ⟨z0, z1, z2, z3, z4, zl⟩ := HDC.out w3 HX3.out
    go_wp2_with fail
    clear z0 z1 z2 z3 z4 zl
    refine (HKV.out w3 (below_trans HB0.out HX3.out)).mono ?_
    rintro e w4 ⟨v4, rfl, ho, hb⟩
    have HX4 := Lib.hid (below_trans HX3.out hb)
    obtain ⟨A4, c4, rfl, hc4, -, hr4⟩ := Rd.of_own ho
    have HS4 : Hid (Strs w4 A4 LB) := Lib.hid (by unfold Strs; rw [HL2.out]; exact hr4)
    clear ho hb hr4
    go_wp2_with fail
    refine (HR2.out A4 c4 w4 HS4.out hc4 (below_trans HB0.out HX4.out)).mono ?_
    rintro e w5 ⟨rfl, hb⟩
    have HX5 := Lib.hid (below_trans HX4.out hb)
    have HBK := Lib.hid (HKD.out w5 HX5.out).2
    have HB5 := Lib.hid (below_trans HB0.out HX5.out)
    clear hb
    go_wp2_with (refine wpList_store_row rfl 29 (.tmp 10) (.tmp 43) rfl w.heap.size #[.string RA, .string RB] rfl rfl 29 #[.string ⟨#[]⟩, .string ⟨#[]⟩] HBK.out size_cm rfl (by simp [Value.oneCell']) ?_)
    have hbk := Blk.rowK HBK.out #[.string RA, .string RB]
    have hbel := below_setRow HB5.out (Nat.le_refl _) #[.string RA, .string RB]
    generalize w5.setRow w.heap.size _ = w6 at *
    have cc0 := hbk.of_cell (i := 0) rfl
    have cc1 := hbk.of_cell (i := 1) rfl
    have hlt := hbk.lt
    clear hbk
    go_wp2
    exact bodyPost_ret (v := .tuple #[.agg #[.string RA, .string RB], .int .i64 0]) (by simp [results, Tryz.results17, go_sem, cc0, cc1, hlt]) rfl ⟨rfl, hbel⟩
set_option maxRecDepth 100000 in
set_option maxHeartbeats 8000000 in
theorem kopen_bad (A : Option Addr) (c : Nat) (l : List Int) (salt : ByteArray) (i : Int) (w : World) (hA : Ints w A l) (hl : l.length ≤ 9223372036854775807) (hs : salt.size ≤ 9223372036854775807) (hbad : sdOk l salt = false ∨ wiB i 0 ((l.length : Int) - 1) = false) :
    Calls Tryz.prog 19 #[.slice A l.length c, .string salt, .int .i64 i] w fun e w' => e = .returned (.tuple #[.agg #[.int .i64 0, .int .i64 0, .string ⟨#[]⟩, .slice none 0 0], .int .i64 1]) ∧ Below w.heap.size w w' := by
  have HSV : Hid (∀ W, Below w.heap.size w W → _) := Lib.hid (fun W hW => ksval_any A c l salt W (hA.below hW) hl hs)
  obtain ⟨b1, hb1⟩ : ∃ b, sdOk l salt = b := ⟨_, rfl⟩
  obtain ⟨b2, hb2⟩ : ∃ b, wiB i 0 ((l.length : Int) - 1) = b := ⟨_, rfl⟩
  rw [hb1] at HSV
  rw [hb1, hb2] at hbad
  have HW2 := Lib.hid hb2
  have HBAD := Lib.hid hbad
  clear hA hb1 hb2 hbad
  cases b1
  case false =>
    go_enter Tryz.func19, Tryz.ntmps19
    go_wp2_with fail
    refine (HSV.out _ (below_alloc (below_alloc (Below.refl _ _) _) _)).mono ?_
    rintro e w1 ⟨rfl, hb⟩
    have HB1 := Lib.hid (below_trans (below_alloc (below_alloc (Below.refl _ _) _) _) hb)
    have HBK : Hid (Blk w1 w.heap.size 32 #[.int .i64 0, .int .i64 0, .string ⟨#[]⟩, .slice none 0 0]) := Lib.hid ((hb.block _ (by simp; omega)).trans ((Blk.new w _ _ _ rfl).alloc _))
    clear hb
    go_wp2_with (refine wpList_store_row rfl 32 (.tmp 6) (.tmp 25) rfl w.heap.size #[.int .i64 0, .int .i64 0, .string ⟨#[]⟩, .slice none 0 0] rfl rfl 32 #[.int .i64 0, .int .i64 0, .string ⟨#[]⟩, .slice none 0 0] HBK.out size_og rfl (by simp [Value.oneCell']) ?_)
    have hbk := Blk.rowK HBK.out #[.int .i64 0, .int .i64 0, .string ⟨#[]⟩, .slice none 0 0]
    have hbel := below_setRow HB1.out (Nat.le_refl _) #[.int .i64 0, .int .i64 0, .string ⟨#[]⟩, .slice none 0 0]
    generalize w1.setRow w.heap.size _ = w2 at *
    have cc0 := hbk.of_cell (i := 0) rfl
    have cc1 := hbk.of_cell (i := 1) rfl
    have cc2 := hbk.of_cell (i := 2) rfl
    have cc3 := hbk.of_cell (i := 3) rfl
    have hlt := hbk.lt
    clear hbk
    go_wp2
    exact bodyPost_ret (v := .tuple #[.agg #[.int .i64 0, .int .i64 0, .string ⟨#[]⟩, .slice none 0 0], .int .i64 1]) (by simp [results, Tryz.results19, go_sem, cc0, cc1, cc2, cc3, hlt]) rfl ⟨rfl, hbel⟩
  case true =>
    obtain rfl : b2 = false := by have := HBAD.out; simpa using this
    go_enter Tryz.func19, Tryz.ntmps19
    go_wp2_with fail
    refine (HSV.out _ (below_alloc (below_alloc (Below.refl _ _) _) _)).mono ?_
    rintro e w1 ⟨rfl, hb⟩
    have HB1 := Lib.hid (below_trans (below_alloc (below_alloc (Below.refl _ _) _) _) hb)
    have HBK : Hid (Blk w1 w.heap.size 32 #[.int .i64 0, .int .i64 0, .string ⟨#[]⟩, .slice none 0 0]) := Lib.hid ((hb.block _ (by simp; omega)).trans ((Blk.new w _ _ _ rfl).alloc _))
    clear hb
    go_wp2_with fail
    refine (kwithin_any _ _ _ _).mono ?_
    rintro e _ ⟨rfl, rfl⟩
    rw [HW2.out]
    go_wp2_with (refine wpList_store_row rfl 32 (.tmp 6) (.tmp 25) rfl w.heap.size #[.int .i64 0, .int .i64 0, .string ⟨#[]⟩, .slice none 0 0] rfl rfl 32 #[.int .i64 0, .int .i64 0, .string ⟨#[]⟩, .slice none 0 0] HBK.out size_og rfl (by simp [Value.oneCell']) ?_)
    have hbk := Blk.rowK HBK.out #[.int .i64 0, .int .i64 0, .string ⟨#[]⟩, .slice none 0 0]
    have hbel := below_setRow HB1.out (Nat.le_refl _) #[.int .i64 0, .int .i64 0, .string ⟨#[]⟩, .slice none 0 0]
    generalize w1.setRow w.heap.size _ = w2 at *
    have cc0 := hbk.of_cell (i := 0) rfl
    have cc1 := hbk.of_cell (i := 1) rfl
    have cc2 := hbk.of_cell (i := 2) rfl
    have cc3 := hbk.of_cell (i := 3) rfl
    have hlt := hbk.lt
    clear hbk
    go_wp2
    exact bodyPost_ret (v := .tuple #[.agg #[.int .i64 0, .int .i64 0, .string ⟨#[]⟩, .slice none 0 0], .int .i64 1]) (by simp [results, Tryz.results19, go_sem, cc0, cc1, cc2, cc3, hlt]) rfl ⟨rfl, hbel⟩
set_option maxRecDepth 100000 in
set_option maxHeartbeats 8000000 in
theorem kopen_ok (A : Option Addr) (c : Nat) (l : List Int) (salt : ByteArray) (i : Nat) (v : Int) (w : World) (hA : Ints w A l) (hs : salt.size ≤ 9223372036854775807) (hok : sdOk l salt = true) (hv : l[i]? = some v) (hT : Tabs w) :
    Calls Tryz.prog 19 #[.slice A l.length c, .string salt, .int .i64 i] w fun e w' => ∃ A' c', e = .returned (.tuple #[.agg #[.int .i64 i, .int .i64 v, .string (kslt salt i), .slice A' (pt (ksL l salt) i).length c'], .int .i64 0]) ∧ (pt (ksL l salt) i).length ≤ c' ∧ PathIn w' A' (pt (ksL l salt) i) ∧ Below w.heap.size w w' := by
  have hk := hok
  simp only [sdOk, Bool.and_eq_true, decide_eq_true_eq] at hk
  obtain ⟨hsv, hl1, hl6, hs4⟩ := hk
  have hi : i < l.length := (List.getElem?_eq_some_iff.1 hv).1
  have HT : Hid (∀ W, Below w.heap.size w W → Tabs W) := Lib.hid (fun W hW => hT.below hW)
  have HSV : Hid (∀ W, Below w.heap.size w W → _) := Lib.hid (fun W hW => ksval_any A c l salt W (hA.below hW) (by omega) hs)
  rw [hok] at HSV
  have HWI : Hid (wiB (i : Int) 0 ((l.length : Int) - 1) = true) := Lib.hid (decide_eq_true (by omega))
  have HLV : Hid (∀ W, Below w.heap.size w W → _) := Lib.hid (fun W hW => kleaves_any A c l salt W (hA.below hW) hok (hT.below hW))
  have HPT : Hid (∀ (Z : Option Addr) (cz : Nat) W, Strs W Z (ksL l salt) → l.length ≤ cz → Below w.heap.size w W → Calls Tryz.prog 53 #[.slice Z l.length cz, .int .i64 i] W fun e w' => ∃ A' c', e = .returned (.tuple #[.slice A' (pt (ksL l salt) i).length c', .int .i64 0]) ∧ (pt (ksL l salt) i).length ≤ c' ∧ PathIn w' A' (pt (ksL l salt) i) ∧ (∀ a, A' = some a → W.heap.size ≤ a.block) ∧ Below W.heap.size W w') := Lib.hid (fun Z cz W hZ hc hW => by
    have := tpath_any Z cz (ksL l salt) i W (by rw [ksL_length]; omega) (by rw [ksL_length]; exact hc) hZ (ksL_sm l salt) (hT.below hW) (ksL_D l salt) (by omega) (by rw [ksL_length]; omega)
    rw [Int.toNat_natCast, ksL_length] at this
    exact this.mono fun _ _ ⟨A', c', h1, h2, h3, h4, h5⟩ => ⟨A', c', h1, h2, ⟨h3, fun a ha => (h4 a ha).2.2⟩, fun a ha => (h4 a ha).1, h5⟩)
  have HA : Hid (∀ W, Below w.heap.size w W → Ints W A l) := Lib.hid (fun W hW => hA.below hW)
  have HL1 := Lib.hid (ksL_length l salt)
  have HV := Lib.hid hv
  generalize pt (ksL l salt) i = PT at *
  generalize ksL l salt = LA at *
  obtain ⟨bA, oA, rfl, hcA⟩ : ∃ b o, A = some ⟨b, o, none⟩ ∧ w.cell? ⟨b, o + i, none⟩ = some (.int .i64 v) := hA.at_ hv
  have HCA := Lib.hid hcA
  clear hsv hA hok hv hT hcA
  obtain ⟨w0, hw0⟩ : ∃ w0, (w.alloc (.cells #[.int .i64 0, .int .i64 0, .string ⟨#[]⟩, .slice none 0 0] 32)).alloc (.cells #[.slice (some ⟨bA, oA, none⟩) l.length c, .string salt] 86) = w0 := ⟨_, rfl⟩
  have HB0 : Hid (Below w.heap.size w w0) := Lib.hid (by rw [← hw0]; exact below_alloc (below_alloc (Below.refl _ _) _) _)
  have HK0 : Hid (Blk w0 (w.heap.size + 1) 86 #[.slice (some ⟨bA, oA, none⟩) l.length c, .string salt] ∧ Blk w0 w.heap.size 32 #[.int .i64 0, .int .i64 0, .string ⟨#[]⟩, .slice none 0 0] ∧ w0.heap.size = w.heap.size + 2) := Lib.hid (by
    rw [← hw0]
    exact ⟨Blk.new _ _ _ _ (by simp), (Blk.new w _ _ _ rfl).alloc _, by simp⟩)
  have HDC : Hid (∀ W, Chg [w.heap.size] w0 W → W.cell? ⟨w.heap.size + 1, 0, none⟩ = some (.slice (some ⟨bA, oA, none⟩) l.length c) ∧ W.cell? ⟨w.heap.size + 1, 1, none⟩ = some (.string salt) ∧ w.heap.size + 1 < W.heap.size) := Lib.hid (fun W hW => by
    have hb := HK0.out.1.chg hW (by simp)
    exact ⟨hb.of_cell (i := 0) rfl, hb.of_cell (i := 1) rfl, hb.lt⟩)
  have HW0 := Lib.hid hw0
  clear hw0
  go_enter Tryz.func19, Tryz.ntmps19
  go_wp2_with fail
  have hw0 := HW0.out
  rw [hw0]
  clear hw0
  refine (HSV.out _ HB0.out).mono ?_
  rintro e w1 ⟨rfl, hb⟩
  have HX1 := Lib.hid hb
  clear hb
  go_wp2_with fail
  refine (kwithin_any _ _ _ _).mono ?_
  rintro e _ ⟨rfl, rfl⟩
  rw [HWI.out]
  obtain ⟨z0, z1, zl⟩ := HDC.out w1 (Chg.of_below HX1.out _)
  go_wp2_with fail
  clear z0 z1 zl
  refine (HLV.out w1 (below_trans HB0.out HX1.out)).mono ?_
  rintro e w2 ⟨v2, rfl, ho, hb⟩
  have HX2 := Lib.hid (below_trans HX1.out hb)
  obtain ⟨A2, c2, rfl, hc2, -, hr2⟩ := Rd.of_own ho
  have HS2 : Hid (Strs w2 A2 LA) := Lib.hid (by unfold Strs; rw [HL1.out]; exact hr2)
  clear ho hb hr2
  go_wp2_with fail
  refine (HPT.out A2 c2 w2 HS2.out hc2 (below_trans HB0.out HX2.out)).mono ?_
  rintro e w3 ⟨A3, c3, rfl, hc3, hS3, hA3, hb⟩
  have HX3 := Lib.hid (below_trans HX2.out hb)
  have HS3 := Lib.hid hS3
  have HA3 : Hid (∀ a, A3 = some a → a.block ∉ [w.heap.size]) := Lib.hid (fun a ha h => by
    have h1 := hA3 a ha
    have h2 := HX2.out.size
    have h3 := HK0.out.2.2
    simp only [List.mem_cons, List.not_mem_nil, or_false] at h
    omega)
  clear hb hS3 hA3
  go_wp2_with fail
  refine wp_region_held_drew (S := fun W => Chg [w.heap.size] w0 W) (by kernel_rfl) ((Chg.of_below HX3.out _).drew) (fun hS0 => ?_)
  refine wpAnyH_take (i := 0) (v := ?_) rfl (by kernel_rfl) (by kernel_rfl) (by kernel_rfl) (fun _ _ _ h => h) (Or.inl ⟨by kernel_rfl, ?hy⟩) hS0 ?rest
  case hy => (intro W hSw; clear hSw; go_simp; with_reducible rfl)
  case rest =>
  refine wpAnyH_take (i := 1) (v := ?_) rfl (by kernel_rfl) (by kernel_rfl) (by kernel_rfl) (fun _ _ _ h => h) (Or.inl ⟨by kernel_rfl, ?hy⟩) hS0 ?rest
  case hy => (intro W hSw; clear hSw; go_simp; with_reducible rfl)
  case rest =>
  refine wpAnyH_take (i := 2) (v := ?_) rfl (by kernel_rfl) (by kernel_rfl) (by kernel_rfl) (fun _ _ _ h => h) (Or.inl ⟨by kernel_rfl, ?hy⟩) hS0 ?rest
  case hy => (intro W hSw; clear hSw; go_simp; with_reducible rfl)
  case rest =>
  refine wpAnyH_take (i := 3) (v := ?_) rfl (by kernel_rfl) (by kernel_rfl) (by kernel_rfl) (fun _ _ _ h => h) (Or.inl ⟨by kernel_rfl, ?hy⟩) hS0 ?rest
  case hy => (intro W hSw; clear hSw; go_simp; with_reducible rfl)
  case rest =>
  refine wpAnyH_take (i := 4) (v := ?_) rfl (by kernel_rfl) (by kernel_rfl) (by kernel_rfl) (fun _ _ _ h => h) (Or.inl ⟨by kernel_rfl, ?hy⟩) hS0 ?rest
  case hy => (intro W hSw; have z := hSw.cell (fun hm => by have h1 := lt_of_cell HCA.out; simp only [List.mem_cons, List.not_mem_nil, or_false] at hm; omega) (kept_cell HB0.out HCA.out); have zl := lt_of_cell z; clear hSw; go_simp; with_reducible rfl)
  case rest =>
  refine wpAnyH_take (i := 5) (v := ?_) rfl (by kernel_rfl) (by kernel_rfl) (by kernel_rfl) (fun _ _ _ h => h) (Or.inl ⟨by kernel_rfl, ?hy⟩) hS0 ?rest
  case hy => (intro W hSw; obtain ⟨z0, z1, zl⟩ := HDC.out W hSw; clear hSw; go_simp; with_reducible rfl)
  case rest =>
  try go_simp
  refine wpAnyH_take (i := 6) (v := ?_) rfl (by kernel_rfl) (by kernel_rfl) (by kernel_rfl) (fun _ _ _ h => h) (Or.inl ⟨by kernel_rfl, ?hy⟩) hS0 ?rest
  case hy => (intro W hSw; clear hSw; go_simp; with_reducible rfl)
  case rest =>
  refine wpAnyH_take (i := 8) (v := ?_) rfl (by kernel_rfl) (by kernel_rfl) (by kernel_rfl) (fun _ _ _ h => h) (Or.inl ⟨by kernel_rfl, ?hy⟩) hS0 ?rest
  case hy => (intro W hSw; clear hSw; go_simp; with_reducible rfl)
  case rest =>
  refine wpAnyH_ready (rs := [7]) (by kernel_rfl) (by simp) ?_
  refine AllReadyH.cons rfl (fun K hK => ?_) (AllReadyH.nil)
  go_simp
  refine (ksalted_any _ salt i _ hs4 (by omega) (HT.out _ (HB0.out.trans (hS0.below (fun k hk => by simp only [List.mem_cons, List.not_mem_nil, or_false] at hk; omega) (by have := HK0.out.2.2; omega))))).mono ?_
  rintro e w4 ⟨rfl, hb⟩
  have HC4 : Hid (Chg [w.heap.size] w0 w4) := Lib.hid (hS0.trans (Chg.of_below hb []) (by simp))
  have HS4 := Lib.hid ((show PathIn (World.drew w3) A3 PT from HS3.out).below hb)
  have HBK : Hid (Blk w4 w.heap.size 32 #[.int .i64 0, .int .i64 0, .string ⟨#[]⟩, .slice none 0 0]) := Lib.hid ((hb.block _ (show w.heap.size < (World.drew w3).heap.size from by have := HX3.out.size; have := HK0.out.2.2; show _ < w3.heap.size; omega)).trans (show Blk (World.drew w3) w.heap.size 32 _ from (HX3.out.block _ (by have := HK0.out.2.2; omega)).trans HK0.out.2.1))
  go_simp
  refine hK.out _ _ HC4.out (fun hS1 => ?_)
  clear hK K hb
  refine wpAnyH_take (i := 9) (v := ?_) rfl (by kernel_rfl) (by kernel_rfl) (by kernel_rfl) (fun _ _ _ h => h) (Or.inl ⟨by kernel_rfl, ?hy⟩) hS1 ?rest
  case hy => (intro W hSw; clear hSw; go_simp; with_reducible rfl)
  case rest =>
  refine wpAnyH_ready (rs := [10]) (by kernel_rfl) (by simp) ?_
  refine AllReadyH.cons rfl (fun K hK => ?_) (AllReadyH.nil)
  have f0 := HBK.out.of_cell (i := 0) rfl
  have f1 := HBK.out.of_cell (i := 1) rfl
  have f2 := HBK.out.of_cell (i := 2) rfl
  have f3 := HBK.out.of_cell (i := 3) rfl
  have g0 := HBK.out.frozen 0
  have g1 := HBK.out.frozen 1
  have g2 := HBK.out.frozen 2
  have g3 := HBK.out.frozen 3
  have gl := HBK.out.lt
  have hbk2 := (((HBK.out.set 0 (.int .i64 i)).set 1 (.int .i64 v)).set 2 (.string (kslt salt i))).set 3 (.slice A3 PT.length c3)
  have HBK2 := Lib.hid hbk2
  clear hbk2
  go_simp
  refine hK.out _ _ ((((HC4.out.setCell (.inl (by simp)) _).setCell (.inl (by simp)) _).setCell (.inl (by simp)) _).setCell (.inl (by simp)) _) (fun hS2 => ?_)
  clear hK K f0 f1 f2 f3 g0 g1 g2 g3 gl
  refine wpAnyH_take (i := 11) (v := ?_) rfl (by kernel_rfl) (by kernel_rfl) (by kernel_rfl) (fun _ _ _ h => h) (Or.inl ⟨by kernel_rfl, ?hy⟩) hS2 ?rest
  case hy => (intro W hSw; clear hSw; go_simp; with_reducible rfl)
  case rest =>
  refine wpAnyH_done (by kernel_rfl) ?_ _
  have HCF := Lib.hid hS2
  clear hS2
  have HSF := Lib.hid (HS4.out.chg (F := [w.heap.size]) ((((((Chg.refl [w.heap.size] w4).setCell (p := ⟨w.heap.size, 0, none⟩) (.inl (by simp)) (.int .i64 i)).setCell (p := ⟨w.heap.size, 1, none⟩) (.inl (by simp)) (.int .i64 v)).setCell (p := ⟨w.heap.size, 2, none⟩) (.inl (by simp)) (.string (kslt salt i))).setCell (p := ⟨w.heap.size, 3, none⟩) (.inl (by simp)) (.slice A3 PT.length c3))) HA3.out)
  generalize (((w4.setCell ⟨w.heap.size, 0, none⟩ (.int .i64 i)).setCell ⟨w.heap.size, 1, none⟩ (.int .i64 v)).setCell ⟨w.heap.size, 2, none⟩ (.string (kslt salt i))).setCell ⟨w.heap.size, 3, none⟩ (.slice A3 PT.length c3) = w6 at *
  have hbk := HBK2.out
  have cc0 := hbk.of_cell (i := 0) rfl
  have cc1 := hbk.of_cell (i := 1) rfl
  have cc2 := hbk.of_cell (i := 2) rfl
  have cc3 := hbk.of_cell (i := 3) rfl
  have hlt := hbk.lt
  clear hbk
  go_wp2
  exact bodyPost_ret (v := .tuple #[.agg #[.int .i64 i, .int .i64 v, .string (kslt salt i), .slice A3 PT.length c3], .int .i64 0]) (by simp [results, Tryz.results19, go_sem, cc0, cc1, cc2, cc3, hlt]) rfl ⟨_, _, rfl, hc3, HSF.out, HB0.out.trans (HCF.out.below (fun k hk => by simp only [List.mem_cons, List.not_mem_nil, or_false] at hk; omega) (by have := HK0.out.2.2; omega))⟩
set_option maxRecDepth 100000 in
set_option maxHeartbeats 8000000 in
theorem kkeep_bad (A : Option Addr) (c : Nat) (l : List Int) (need total : Int) (B : Option Addr) (d : Nat) (random : List Int) (i k : Int) (w : World) (hA : Ints w A l) (hB : Ints w B random) (hl : l.length ≤ 9223372036854775807) (hr : random.length ≤ 9223372036854775807) (hbad : dvB l ⟨#[]⟩ need total random = false ∨ wiB i 0 ((l.length : Int) - 1) = false ∨ wiB k 0 (total - 1) = false) :
    Calls Tryz.prog 21 #[.slice A l.length c, .int .i64 need, .int .i64 total, .slice B random.length d, .int .i64 i, .int .i64 k] w fun e w' => e = .returned (.tuple #[.agg #[.int .i64 0, .int .i64 0, .int .i64 0, .slice none 0 0], .int .i64 1]) ∧ Below w.heap.size w w' := by
  have HDV : Hid (∀ W, Below w.heap.size w W → _) := Lib.hid (fun W hW => kdval_any A c l ⟨#[]⟩ need total B d random W (hA.below hW) (hB.below hW) hl (by decide) hr)
  have HTT : Hid (dvB l ⟨#[]⟩ need total random = true → 1 ≤ total ∧ total ≤ 7) := Lib.hid (fun h => by
    obtain ⟨n, m, rfl, rfl, hok⟩ := DivOk.of h
    have := hok.one; have := hok.le; have := hok.m7; omega)
  obtain ⟨b1, hb1⟩ : ∃ b, dvB l ⟨#[]⟩ need total random = b := ⟨_, rfl⟩
  obtain ⟨b2, hb2⟩ : ∃ b, wiB i 0 ((l.length : Int) - 1) = b := ⟨_, rfl⟩
  obtain ⟨b3, hb3⟩ : ∃ b, wiB k 0 (total - 1) = b := ⟨_, rfl⟩
  rw [hb1] at HDV HTT
  rw [hb1, hb2, hb3] at hbad
  have HW2 := Lib.hid hb2
  have HW3 := Lib.hid hb3
  have HBAD := Lib.hid hbad
  clear hA hB hb1 hb2 hb3 hbad
  cases b1
  case false =>
    go_enter Tryz.func21, Tryz.ntmps21
    go_wp2_with fail
    refine (HDV.out _ (below_alloc (below_alloc (Below.refl _ _) _) _)).mono ?_
    rintro e w1 ⟨rfl, hb⟩
    have HB1 := Lib.hid (below_trans (below_alloc (below_alloc (Below.refl _ _) _) _) hb)
    have HBK : Hid (Blk w1 w.heap.size 50 #[.int .i64 0, .int .i64 0, .int .i64 0, .slice none 0 0]) := Lib.hid ((hb.block _ (by simp; omega)).trans ((Blk.new w _ _ _ rfl).alloc _))
    clear hb
    go_wp2_with (refine wpList_store_row rfl 50 (.tmp 12) (.tmp 41) rfl w.heap.size #[.int .i64 0, .int .i64 0, .int .i64 0, .slice none 0 0] rfl rfl 50 #[.int .i64 0, .int .i64 0, .int .i64 0, .slice none 0 0] HBK.out size_kp rfl (by simp [Value.oneCell']) ?_)
    have hbk := Blk.rowK HBK.out #[.int .i64 0, .int .i64 0, .int .i64 0, .slice none 0 0]
    have hbel := below_setRow HB1.out (Nat.le_refl _) #[.int .i64 0, .int .i64 0, .int .i64 0, .slice none 0 0]
    generalize w1.setRow w.heap.size _ = w2 at *
    have cc0 := hbk.of_cell (i := 0) rfl
    have cc1 := hbk.of_cell (i := 1) rfl
    have cc2 := hbk.of_cell (i := 2) rfl
    have cc3 := hbk.of_cell (i := 3) rfl
    have hlt := hbk.lt
    clear hbk
    go_wp2
    exact bodyPost_ret (v := .tuple #[.agg #[.int .i64 0, .int .i64 0, .int .i64 0, .slice none 0 0], .int .i64 1]) (by simp [results, Tryz.results21, go_sem, cc0, cc1, cc2, cc3, hlt]) rfl ⟨rfl, hbel⟩
  case true =>
  obtain ⟨ht1, ht7⟩ := HTT.out (by trivial)
  cases b2
  case false =>
    go_enter Tryz.func21, Tryz.ntmps21
    go_wp2_with fail
    refine (HDV.out _ (below_alloc (below_alloc (Below.refl _ _) _) _)).mono ?_
    rintro e w1 ⟨rfl, hb⟩
    have HB1 := Lib.hid (below_trans (below_alloc (below_alloc (Below.refl _ _) _) _) hb)
    have HBK : Hid (Blk w1 w.heap.size 50 #[.int .i64 0, .int .i64 0, .int .i64 0, .slice none 0 0]) := Lib.hid ((hb.block _ (by simp; omega)).trans ((Blk.new w _ _ _ rfl).alloc _))
    clear hb
    go_wp2_with fail
    refine (kwithin_any _ _ _ _).mono ?_
    rintro e _ ⟨rfl, rfl⟩
    rw [HW2.out]
    go_wp2_with (refine wpList_store_row rfl 50 (.tmp 12) (.tmp 41) rfl w.heap.size #[.int .i64 0, .int .i64 0, .int .i64 0, .slice none 0 0] rfl rfl 50 #[.int .i64 0, .int .i64 0, .int .i64 0, .slice none 0 0] HBK.out size_kp rfl (by simp [Value.oneCell']) ?_)
    have hbk := Blk.rowK HBK.out #[.int .i64 0, .int .i64 0, .int .i64 0, .slice none 0 0]
    have hbel := below_setRow HB1.out (Nat.le_refl _) #[.int .i64 0, .int .i64 0, .int .i64 0, .slice none 0 0]
    generalize w1.setRow w.heap.size _ = w2 at *
    have cc0 := hbk.of_cell (i := 0) rfl
    have cc1 := hbk.of_cell (i := 1) rfl
    have cc2 := hbk.of_cell (i := 2) rfl
    have cc3 := hbk.of_cell (i := 3) rfl
    have hlt := hbk.lt
    clear hbk
    go_wp2
    exact bodyPost_ret (v := .tuple #[.agg #[.int .i64 0, .int .i64 0, .int .i64 0, .slice none 0 0], .int .i64 1]) (by simp [results, Tryz.results21, go_sem, cc0, cc1, cc2, cc3, hlt]) rfl ⟨rfl, hbel⟩
  case true =>
  obtain rfl : b3 = false := by have := HBAD.out; simpa using this
  go_enter Tryz.func21, Tryz.ntmps21
  go_wp2_with fail
  refine (HDV.out _ (below_alloc (below_alloc (Below.refl _ _) _) _)).mono ?_
  rintro e w1 ⟨rfl, hb⟩
  have HB1 := Lib.hid (below_trans (below_alloc (below_alloc (Below.refl _ _) _) _) hb)
  have HBK : Hid (Blk w1 w.heap.size 50 #[.int .i64 0, .int .i64 0, .int .i64 0, .slice none 0 0]) := Lib.hid ((hb.block _ (by simp; omega)).trans ((Blk.new w _ _ _ rfl).alloc _))
  clear hb
  go_wp2_with fail
  refine (kwithin_any _ _ _ _).mono ?_
  rintro e _ ⟨rfl, rfl⟩
  rw [HW2.out]
  go_wp2_with fail
  refine (kwithin_any _ _ _ _).mono ?_
  rintro e _ ⟨rfl, rfl⟩
  rw [HW3.out]
  go_wp2_with (refine wpList_store_row rfl 50 (.tmp 12) (.tmp 41) rfl w.heap.size #[.int .i64 0, .int .i64 0, .int .i64 0, .slice none 0 0] rfl rfl 50 #[.int .i64 0, .int .i64 0, .int .i64 0, .slice none 0 0] HBK.out size_kp rfl (by simp [Value.oneCell']) ?_)
  have hbk := Blk.rowK HBK.out #[.int .i64 0, .int .i64 0, .int .i64 0, .slice none 0 0]
  have hbel := below_setRow HB1.out (Nat.le_refl _) #[.int .i64 0, .int .i64 0, .int .i64 0, .slice none 0 0]
  generalize w1.setRow w.heap.size _ = w2 at *
  have cc0 := hbk.of_cell (i := 0) rfl
  have cc1 := hbk.of_cell (i := 1) rfl
  have cc2 := hbk.of_cell (i := 2) rfl
  have cc3 := hbk.of_cell (i := 3) rfl
  have hlt := hbk.lt
  clear hbk
  go_wp2
  exact bodyPost_ret (v := .tuple #[.agg #[.int .i64 0, .int .i64 0, .int .i64 0, .slice none 0 0], .int .i64 1]) (by simp [results, Tryz.results21, go_sem, cc0, cc1, cc2, cc3, hlt]) rfl ⟨rfl, hbel⟩
set_option maxRecDepth 100000 in
set_option maxHeartbeats 8000000 in
theorem kkeep_ok (A : Option Addr) (c : Nat) (l : List Int) (n m : Nat) (B : Option Addr) (d : Nat) (random : List Int) (i k : Nat) (w : World) (hA : Ints w A l) (hB : Ints w B random) (hd : random.length ≤ d) (hd2 : d ≤ 9223372036854775807) (hdv : dvB l ⟨#[]⟩ (n : Int) (m : Int) random = true) (hi : i < l.length) (hk : k < m) (hT : Tabs w) :
    Calls Tryz.prog 21 #[.slice A l.length c, .int .i64 n, .int .i64 m, .slice B random.length d, .int .i64 i, .int .i64 k] w fun e w' => ∃ A' c', e = .returned (.tuple #[.agg #[.int .i64 i, .int .i64 ((k : Int) + 1), .int .i64 (evp (kpoly l n random i) ((k : Int) + 1)), .slice A' (pt (khP l n m random l.length) (i * m + k)).length c'], .int .i64 0]) ∧ (pt (khP l n m random l.length) (i * m + k)).length ≤ c' ∧ PathIn w' A' (pt (khP l n m random l.length) (i * m + k)) ∧ Below w.heap.size w w' := by
  obtain ⟨n', m', hn', hm', hok⟩ := DivOk.of hdv
  obtain rfl : n = n' := by omega
  obtain rfl : m = m' := by omega
  have hl6 := hok.few
  have hm7 := hok.m7
  have hlm : l.length * m ≤ 4200 := Nat.le_trans (Nat.mul_le_mul hl6 hm7) (by omega)
  have him : i * m + k < l.length * m := by
    have : (i + 1) * m ≤ l.length * m := Nat.mul_le_mul_right m hi
    rw [Nat.add_mul] at this; omega
  have HT : Hid (∀ W, Below w.heap.size w W → Tabs W) := Lib.hid (fun W hW => hT.below hW)
  have HDV : Hid (∀ W, Below w.heap.size w W → _) := Lib.hid (fun W hW => kdval_any A c l ⟨#[]⟩ n m B d random W (hA.below hW) (hB.below hW) (by omega) (by decide) (by omega))
  rw [hdv] at HDV
  have HW2 : Hid (wiB (i : Int) 0 ((l.length : Int) - 1) = true) := Lib.hid (decide_eq_true (by omega))
  have HW3 : Hid (wiB (k : Int) 0 ((m : Int) - 1) = true) := Lib.hid (decide_eq_true (by omega))
  have HKV : Hid (∀ W, Below w.heap.size w W → _) := Lib.hid (fun W hW => kkept_any A c l ⟨#[]⟩ n m B d random W (hA.below hW) (hB.below hW) hok hd hd2 (hT.below hW))
  have HOF : Hid (∀ W, Below w.heap.size w W → _) := Lib.hid (fun W hW => kof_any A c l ⟨#[]⟩ n m B d random i W (hA.below hW) (hB.below hW) hok hd hd2 hi)
  have HPT : Hid (∀ (Z : Option Addr) (cz q : Nat) W, q = i * m + k → Strs W Z (khP l n m random l.length) → l.length * m ≤ cz → Below w.heap.size w W → Calls Tryz.prog 53 #[.slice Z (l.length * m) cz, .int .i64 (q : Int)] W fun e w' => ∃ A' c', e = .returned (.tuple #[.slice A' (pt (khP l n m random l.length) (i * m + k)).length c', .int .i64 0]) ∧ (pt (khP l n m random l.length) (i * m + k)).length ≤ c' ∧ PathIn w' A' (pt (khP l n m random l.length) (i * m + k)) ∧ (∀ a, A' = some a → W.heap.size ≤ a.block) ∧ Below W.heap.size W w') := Lib.hid (fun Z cz q W hq hZ hc hW => by
    subst hq
    have := tpath_any Z cz (khP l n m random l.length) ((i * m + k : Nat) : Int) W (by rw [khP_length]; omega) (by rw [khP_length]; exact hc) hZ (khP_sm l n m random _) (hT.below hW) (khP_D l n m random _) (by omega) (by rw [khP_length]; omega)
    rw [Int.toNat_natCast, khP_length] at this
    exact this.mono fun _ _ ⟨A', c', h1, h2, h3, h4, h5⟩ => ⟨A', c', h1, h2, ⟨h3, fun a ha => (h4 a ha).2.2⟩, fun a ha => (h4 a ha).1, h5⟩)
  have HL2 := Lib.hid (khP_length l n m random l.length)
  have HOG := Lib.hid (kof_get l n m random i k hk)
  have HOL := Lib.hid (kof_length l n m random i)
  obtain ⟨q, hq⟩ : ∃ q, i * m + k = q := ⟨_, rfl⟩
  obtain ⟨q0, hq0⟩ : ∃ q, i * m = q := ⟨_, rfl⟩
  have e1 : (i : Int) * (m : Int) = (q0 : Int) := by rw [← Int.natCast_mul, hq0]
  have e2 : (q0 : Int) + (k : Int) = (q : Int) := by omega
  have HE := Lib.hid (And.intro e1 e2)
  have HQ := Lib.hid hq
  have hq4 : q ≤ 4200 := by omega
  have hq04 : q0 ≤ 4200 := by omega
  generalize pt (khP l n m random l.length) (i * m + k) = PT at *
  generalize khP l n m random l.length = LB at *
  generalize kof l n m random i = SH at *
  generalize evp (kpoly l n random i) ((k : Int) + 1) = y at *
  obtain ⟨w0, hw0⟩ : ∃ w0, (w.alloc (.cells #[.int .i64 0, .int .i64 0, .int .i64 0, .slice none 0 0] 50)).alloc (.cells #[.slice A l.length c, .string ⟨#[]⟩, .int .i64 n, .int .i64 m, .slice B random.length d] 88) = w0 := ⟨_, rfl⟩
  have HB0 : Hid (Below w.heap.size w w0) := Lib.hid (by rw [← hw0]; exact below_alloc (below_alloc (Below.refl _ _) _) _)
  have HK0 : Hid (Blk w0 (w.heap.size + 1) 88 #[.slice A l.length c, .string ⟨#[]⟩, .int .i64 n, .int .i64 m, .slice B random.length d] ∧ Blk w0 w.heap.size 50 #[.int .i64 0, .int .i64 0, .int .i64 0, .slice none 0 0] ∧ w0.heap.size = w.heap.size + 2) := Lib.hid (by
    rw [← hw0]
    exact ⟨Blk.new _ _ _ _ (by simp), (Blk.new w _ _ _ rfl).alloc _, by simp⟩)
  have HDC : Hid (∀ W, Below w0.heap.size w0 W → W.cell? ⟨w.heap.size + 1, 0, none⟩ = some (.slice A l.length c) ∧ W.cell? ⟨w.heap.size + 1, 1, none⟩ = some (.string ⟨#[]⟩) ∧ W.cell? ⟨w.heap.size + 1, 2, none⟩ = some (.int .i64 n) ∧ W.cell? ⟨w.heap.size + 1, 3, none⟩ = some (.int .i64 m) ∧ W.cell? ⟨w.heap.size + 1, 4, none⟩ = some (.slice B random.length d) ∧ w.heap.size + 1 < W.heap.size) := Lib.hid (fun W hW => by
    have hb : Blk W (w.heap.size + 1) 88 _ := (hW.block _ HK0.out.1.lt).trans HK0.out.1
    exact ⟨hb.of_cell (i := 0) rfl, hb.of_cell (i := 1) rfl, hb.of_cell (i := 2) rfl, hb.of_cell (i := 3) rfl, hb.of_cell (i := 4) rfl, hb.lt⟩)
  have HW0 := Lib.hid hw0
  clear hw0 hA hB hT hok hdv hn' hm' hq hq0 e1 e2 him hlm
  go_enter Tryz.func21, Tryz.ntmps21
  go_wp2_with fail
  have hw0 := HW0.out
  rw [hw0]
  clear hw0
  refine (HDV.out _ HB0.out).mono ?_
  rintro e w1 ⟨rfl, hb⟩
  have HX1 := Lib.hid hb
  clear hb
  go_wp2_with fail
  refine (kwithin_any _ _ _ _).mono ?_
  rintro e _ ⟨rfl, rfl⟩
  rw [HW2.out]
  go_wp2_with fail
  refine (kwithin_any _ _ _ _).mono ?_
  rintro e _ ⟨rfl, rfl⟩
  rw [HW3.out]
  obtain ⟨z0, z1, z2, z3, z4, zl⟩ := HDC.out w1 HX1.out
  go_wp2_with fail
  clear z0 z1 z2 z3 z4 zl
  refine (HKV.out w1 (below_trans HB0.out HX1.out)).mono ?_
  rintro e w2 ⟨v2, rfl, ho, hb⟩
  have HX2 := Lib.hid (below_trans HX1.out hb)
  obtain ⟨A2, c2, rfl, hc2, -, hr2⟩ := Rd.of_own ho
  have HS2 : Hid (Strs w2 A2 LB) := Lib.hid (by unfold Strs; rw [HL2.out]; exact hr2)
  clear ho hb hr2
  obtain ⟨e1, e2⟩ := HE.out
  go_wp2_with fail
  clear e1 e2
  refine (HPT.out A2 c2 q w2 HQ.out.symm HS2.out hc2 (below_trans HB0.out HX2.out)).mono ?_
  rintro e w3 ⟨A3, c3, rfl, hc3, hS3, hA3, hb⟩
  have HX3 := Lib.hid (below_trans HX2.out hb)
  have HS3 := Lib.hid hS3
  have HA3 : Hid (∀ a, A3 = some a → a.block ∉ [w.heap.size]) := Lib.hid (fun a ha h => by
    have h1 := hA3 a ha
    have h2 := HX2.out.size
    have h3 := HK0.out.2.2
    simp only [List.mem_cons, List.not_mem_nil, or_false] at h
    omega)
  clear hb hS3 hA3
  obtain ⟨z0, z1, z2, z3, z4, zl⟩ := HDC.out w3 HX3.out
  go_wp2_with fail
  clear z0 z1 z2 z3 z4 zl
  refine (HOF.out w3 (below_trans HB0.out HX3.out)).mono ?_
  rintro e w4 ⟨v4, rfl, ho, hb⟩
  have HX4 := Lib.hid (below_trans HX3.out hb)
  have HS4 := Lib.hid (HS3.out.below hb)
  obtain ⟨A4, c4, rfl, -, -, hr4⟩ := Rd.of_own ho
  have hpr : Prs w4 A4 SH := by unfold Prs; rw [HOL.out]; exact hr4
  obtain ⟨bS, oS, rfl, q1, q2⟩ := hpr.at_ HOG.out
  simp only at q1 q2
  have ql := lt_of_cell q1
  have HBK : Hid (Blk w4 w.heap.size 50 #[.int .i64 0, .int .i64 0, .int .i64 0, .slice none 0 0]) := Lib.hid ((HX4.out.block _ (by have := HK0.out.2.2; omega)).trans HK0.out.2.1)
  have HB4 := Lib.hid (below_trans HB0.out HX4.out)
  clear ho hb hr4 hpr
  go_wp2_with (refine wpList_store_row rfl 50 (.tmp 12) (.tmp 61) rfl w.heap.size #[.int .i64 i, .int .i64 ((k : Int) + 1), .int .i64 y, .slice A3 PT.length c3] rfl rfl 50 #[.int .i64 0, .int .i64 0, .int .i64 0, .slice none 0 0] HBK.out size_kp rfl (by simp [Value.oneCell']) ?_)
  have hbk := Blk.rowK HBK.out #[.int .i64 i, .int .i64 ((k : Int) + 1), .int .i64 y, .slice A3 PT.length c3]
  have hbel := below_setRow HB4.out (Nat.le_refl _) #[.int .i64 i, .int .i64 ((k : Int) + 1), .int .i64 y, .slice A3 PT.length c3]
  have HSF : Hid (PathIn (w4.setRow w.heap.size #[.int .i64 i, .int .i64 ((k : Int) + 1), .int .i64 y, .slice A3 PT.length c3]) A3 PT) := Lib.hid (HS4.out.chg (F := [w.heap.size]) ⟨rfl, rfl, rfl, by simp [World.setRow], fun k _ hn => setRow_other w4 w.heap.size k _ (by simpa using hn)⟩ HA3.out)
  generalize w4.setRow w.heap.size _ = w5 at *
  clear q1 q2 ql
  have cc0 := hbk.of_cell (i := 0) rfl
  have cc1 := hbk.of_cell (i := 1) rfl
  have cc2 := hbk.of_cell (i := 2) rfl
  have cc3 := hbk.of_cell (i := 3) rfl
  have hlt := hbk.lt
  clear hbk
  go_wp2
  exact bodyPost_ret (v := .tuple #[.agg #[.int .i64 i, .int .i64 ((k : Int) + 1), .int .i64 y, .slice A3 PT.length c3], .int .i64 0]) (by simp [results, Tryz.results21, go_sem, cc0, cc1, cc2, cc3, hlt]) rfl ⟨_, _, rfl, hc3, HSF.out, hbel⟩
end

section
open Go.RowKit Go.Maps Go.ChangeShapes

set_option maxRecDepth 100000 in
theorem Seen.lookB {w : World} {B n : Nat} {xs : List Int} (h : Seen w B n xs) (x : Int) (hx : elemB x = true) :
    (Instr.lookup 134 (.map (some B)) (.int .i64 x) false).run Tryz.prog w = .ok (.bool (decide (x ∈ xs))) w := by
  obtain ⟨D, h1, h2, h3⟩ := h
  obtain ⟨v, ps, hr, hv⟩ := h1.lookup intKeyed Tryz.underlying134 (zeroBool w) (plainElem_bool Tryz.underlying4 false) (keyOf_int_mk Tryz.underlying3 (wf_elem hx))
  rw [h3 x] at hv
  have : v = .bool (decide (x ∈ xs)) := by
    unfold plainElem at hv
    rw [Tryz.underlying4] at hv
    cases v <;> simp at hv
    rw [hv.1]
  rw [hr, this]

/-- What an opening asks of memory to be checked. -/
structure OgFit (w : World) (o : Og) : Prop where
  p : Strs w o.A o.p
  pl : o.p.length ≤ 1000000
  ps : ∀ s, s ∈ o.p → s.size ≤ 1000000000
  salt : o.salt.size ≤ 1000000000
  ix : i64ok o.ix
  v : i64ok o.v
theorem OgFit.below {w w' : World} {o : Og} (h : OgFit w o) (hb : Below w.heap.size w w') : OgFit w' o := ⟨h.p.below hb, h.pl, h.ps, h.salt, h.ix, h.v⟩
structure KpFit (w : World) (k : Kp) : Prop where
  p : Strs w k.A k.p
  pl : k.p.length ≤ 1000000
  ps : ∀ s, s ∈ k.p → s.size ≤ 1000000000
  ix : i64ok k.ix
  x : i64ok k.s.1
  y : i64ok k.s.2
theorem KpFit.below {w w' : World} {o : Kp} (h : KpFit w o) (hb : Below w.heap.size w w') : KpFit w' o := ⟨h.p.below hb, h.pl, h.ps, h.ix, h.x, h.y⟩
set_option maxRecDepth 100000 in
set_option maxHeartbeats 8000000 in
theorem kcheck_any (cm : ByteArray × ByteArray) (n : Int) (o : Og) (w : World) (hO : OgFit w o) (hn : i64ok n) (hT : Tabs w) :
    Calls Tryz.prog 27 #[.agg #[.string cm.1, .string cm.2], .int .i64 n, .agg #[.int .i64 o.ix, .int .i64 o.v, .string o.salt, .slice o.A o.p.length o.c]] w fun e w' => e = .returned (.bool (ckB cm.1 n o.ix o.v o.salt o.p)) ∧ Below w.heap.size w w' := by
  obtain ⟨w0, hw0⟩ : ∃ w0, (w.alloc (.cells #[.string cm.1, .string cm.2] 29)).alloc (.cells #[.int .i64 o.ix, .int .i64 o.v, .string o.salt, .slice o.A o.p.length o.c] 32) = w0 := ⟨_, rfl⟩
  have HB0 : Hid (Below w.heap.size w w0) := Lib.hid (by rw [← hw0]; exact below_alloc (below_alloc (Below.refl _ _) _) _)
  have HK : Hid (∀ W, Below w0.heap.size w0 W → W.cell? ⟨w.heap.size, 0, none⟩ = some (.string cm.1) ∧ W.cell? ⟨w.heap.size + 1, 0, none⟩ = some (.int .i64 o.ix) ∧ W.cell? ⟨w.heap.size + 1, 1, none⟩ = some (.int .i64 o.v) ∧ W.cell? ⟨w.heap.size + 1, 2, none⟩ = some (.string o.salt) ∧ W.cell? ⟨w.heap.size + 1, 3, none⟩ = some (.slice o.A o.p.length o.c) ∧ w.heap.size + 1 < W.heap.size) := Lib.hid (fun W hW => by
    have h1 : Blk w0 (w.heap.size + 1) 32 #[.int .i64 o.ix, .int .i64 o.v, .string o.salt, .slice o.A o.p.length o.c] := by rw [← hw0]; exact Blk.new _ _ _ _ (by simp)
    have h2 : Blk w0 w.heap.size 29 #[.string cm.1, .string cm.2] := by rw [← hw0]; exact (Blk.new w _ _ _ rfl).alloc _
    have h0 := kept_cell hW (h1.of_cell (i := 0) rfl)
    exact ⟨kept_cell hW (h2.of_cell (i := 0) rfl), h0, kept_cell hW (h1.of_cell (i := 1) rfl), kept_cell hW (h1.of_cell (i := 2) rfl), kept_cell hW (h1.of_cell (i := 3) rfl), lt_of_cell h0⟩)
  have HT : Hid (∀ W, Below w.heap.size w W → Tabs W) := Lib.hid (fun W hW => hT.below hW)
  obtain ⟨nlo, nhi⟩ := hn
  obtain ⟨r, hr⟩ : ∃ r, ckB cm.1 n o.ix o.v o.salt o.p = r := ⟨_, rfl⟩
  have HN1 : Hid (wiB n 1 600 = false → r = false) := Lib.hid (fun h => by
    have h := of_decide_eq_false h
    rw [← hr]; unfold ckB; rw [decide_eq_false (by omega)]; rfl)
  have HN2 : Hid (wiB o.ix 0 (n - 1) = false → r = false) := Lib.hid (fun h => by
    have h := of_decide_eq_false h
    rw [← hr]; unfold ckB; rw [decide_eq_false (by omega)]; rfl)
  have HN3 : Hid (wiB o.v 0 719 = false → r = false) := Lib.hid (fun h => by
    have h := of_decide_eq_false h
    rw [← hr]; unfold ckB; rw [decide_eq_false (by omega)]; rfl)
  have HN4 : Hid (isD o.salt = false → r = false) := Lib.hid (fun h => by rw [← hr]; unfold ckB; rw [h]; simp)
  have HY : Hid (wiB n 1 600 = true → wiB o.ix 0 (n - 1) = true → wiB o.v 0 719 = true → isD o.salt = true → r = chkB cm.1 n o.ix (ksLf o.ix.toNat o.v.toNat o.salt) o.p) := Lib.hid (fun h1 h2 h3 h4 => by
    have h1 := of_decide_eq_true h1
    have h2 := of_decide_eq_true h2
    have h3 := of_decide_eq_true h3
    rw [← hr]; unfold ckB; rw [decide_eq_true (by omega), h4]; rfl)
  have HIS : Hid (∀ W : World, _) := Lib.hid (fun W => is_any o.salt W hO.salt)
  have HLF : Hid (∀ (i v : Nat) W, i ≤ 1000000 → v ≤ 1000000 → isD o.salt = true → Below w.heap.size w W → _) := Lib.hid (fun i v W hi hv hd hW => kleaf_any i v o.salt W hi hv (by have := isD_16 hd; omega) (hT.below hW))
  have HTC : Hid (∀ (m i : Int) (lf : ByteArray) W, lf.size ≤ 1000000000 → Below w.heap.size w W → _) := Lib.hid (fun m i lf W hlf hW => tcheck_any cm.1 m i lf o.A o.c o.p W (hT.below hW) (hO.p.below hW) hO.pl hlf hO.ps)
  rw [hr]
  obtain ⟨b1, hb1⟩ : ∃ b, wiB n 1 600 = b := ⟨_, rfl⟩
  obtain ⟨b2, hb2⟩ : ∃ b, wiB o.ix 0 (n - 1) = b := ⟨_, rfl⟩
  obtain ⟨b3, hb3⟩ : ∃ b, wiB o.v 0 719 = b := ⟨_, rfl⟩
  obtain ⟨b4, hb4⟩ : ∃ b, isD o.salt = b := ⟨_, rfl⟩
  rw [hb1] at HN1 HY
  rw [hb2] at HN2 HY
  rw [hb3] at HN3 HY
  rw [hb4] at HN4 HY HIS HLF
  have H1 := Lib.hid hb1
  have H2 := Lib.hid hb2
  have H3 := Lib.hid hb3
  have HW0 := Lib.hid hw0
  clear hO hT hr hb1 hb2 hb3 hb4 hw0
  go_enter Tryz.func27, Tryz.ntmps27
  go_wp2_with fail
  have hw0 := HW0.out
  rw [hw0]
  clear hw0
  have HB1 := HB0
  obtain ⟨z0, z1, z2, z3, z4, zl⟩ := HK.out w0 (Below.refl _ _)
  refine (kwithin_any _ _ _ _).mono ?_
  rintro e _ ⟨rfl, rfl⟩
  rw [H1.out]
  cases b1
  case false =>
    have hrf := HN1.out (by trivial)
    subst hrf
    go_wp2
    go_ret
    exact ⟨rfl, HB1.out⟩
  case true =>
  have hn1 := of_decide_eq_true H1.out
  obtain ⟨hn1, hn6⟩ := hn1
  go_wp2_with fail
  refine (kwithin_any _ _ _ _).mono ?_
  rintro e _ ⟨rfl, rfl⟩
  rw [H2.out]
  cases b2
  case false =>
    have hrf := HN2.out (by trivial)
    subst hrf
    go_wp2
    go_ret
    exact ⟨rfl, HB1.out⟩
  case true =>
  have hi1 := of_decide_eq_true H2.out
  obtain ⟨hi0, hi1⟩ := hi1
  go_wp2_with fail
  refine (kwithin_any _ _ _ _).mono ?_
  rintro e _ ⟨rfl, rfl⟩
  rw [H3.out]
  cases b3
  case false =>
    have hrf := HN3.out (by trivial)
    subst hrf
    go_wp2
    go_ret
    exact ⟨rfl, HB1.out⟩
  case true =>
  have hv1 := of_decide_eq_true H3.out
  obtain ⟨hv0, hv1⟩ := hv1
  go_wp2_with fail
  refine (HIS.out w0).mono ?_
  rintro e w1 ⟨rfl, hb⟩
  have HX1 := Lib.hid hb
  clear HB1
  have HB1 := Lib.hid (below_trans HB0.out hb)
  clear hb
  cases b4
  case false =>
    have hrf := HN4.out (by trivial)
    subst hrf
    go_wp2
    go_ret
    exact ⟨rfl, HB1.out⟩
  case true =>
  have hre := HY.out (by trivial) (by trivial) (by trivial) (by trivial)
  clear z0 z1 z2 z3 z4 zl
  have HLC : Hid (∀ W, Below w1.heap.size w1 W → Calls Tryz.prog 66 #[.int .i64 o.ix, .int .i64 o.v, .string o.salt] W fun e w' => e = .returned (.string (ksLf o.ix.toNat o.v.toNat o.salt)) ∧ Below w1.heap.size w1 w') := Lib.hid (fun W hW => by
    have := HLF.out o.ix.toNat o.v.toNat W (by omega) (by omega) (by trivial) (below_trans HB1.out hW)
    rw [show ((o.ix.toNat : Nat) : Int) = o.ix by omega, show ((o.v.toNat : Nat) : Int) = o.v by omega] at this
    exact this.mono fun _ _ ⟨he, hb⟩ => ⟨he, below_trans hW hb⟩)
  have HCC : Hid (∀ W, Below w1.heap.size w1 W → Calls Tryz.prog 65 #[.string cm.1, .int .i64 n, .int .i64 o.ix, .string (ksLf o.ix.toNat o.v.toNat o.salt), .slice o.A o.p.length o.c] W fun e w' => e = .returned (.bool r) ∧ Below w1.heap.size w1 w') := Lib.hid (fun W hW => by
    have := HTC.out n o.ix (ksLf o.ix.toNat o.v.toNat o.salt) W (by show (dg _).size ≤ _; rw [dg_size]; omega) (below_trans HB1.out hW)
    rw [← hre] at this
    exact this.mono fun _ _ ⟨he, hb⟩ => ⟨he, below_trans hW hb⟩)
  generalize ksLf o.ix.toNat o.v.toNat o.salt = LFV at *
  clear hre
  go_wp2_with fail
  refine wp_region_belowC (by kernel_rfl) (by kernel_rfl) (fun WQ HQS HQN => ?_)
  refine HQS.go (fun K hK => ?_)
  go_simp
  apply Exists.intro
  refine ⟨fun W hW => ?_, hK _ ?_⟩
  · (try go_simp)
    exact rfl
  clear hK K
  refine HQS.go (fun K hK => ?_)
  go_simp
  apply Exists.intro
  refine ⟨fun W hW => ?_, hK _ ?_⟩
  · obtain ⟨z0, z1, z2, z3, z4, zl⟩ := HK.out W (below_trans HX1.out hW)
    go_simp
    exact rfl
  clear hK K
  refine HQS.go (fun K hK => ?_)
  go_simp
  apply Exists.intro
  refine ⟨fun W hW => ?_, hK _ ?_⟩
  · (try go_simp)
    exact rfl
  clear hK K
  refine HQS.go (fun K hK => ?_)
  go_simp
  apply Exists.intro
  refine ⟨fun W hW => ?_, hK _ ?_⟩
  · (try go_simp)
    exact rfl
  clear hK K
  refine HQS.go (fun K hK => ?_)
  go_simp
  apply Exists.intro
  refine ⟨fun W hW => ?_, hK _ ?_⟩
  · obtain ⟨z0, z1, z2, z3, z4, zl⟩ := HK.out W (below_trans HX1.out hW)
    go_simp
    exact rfl
  clear hK K
  refine HQS.go (fun K hK => ?_)
  go_simp
  apply Exists.intro
  refine ⟨fun W hW => ?_, hK _ ?_⟩
  · (try go_simp)
    exact rfl
  clear hK K
  refine HQS.go (fun K hK => ?_)
  go_simp
  apply Exists.intro
  refine ⟨fun W hW => ?_, hK _ ?_⟩
  · obtain ⟨z0, z1, z2, z3, z4, zl⟩ := HK.out W (below_trans HX1.out hW)
    go_simp
    exact rfl
  clear hK K
  refine HQS.go (fun K hK => ?_)
  go_simp
  apply Exists.intro
  refine ⟨fun W hW => ?_, hK _ ?_⟩
  · (try go_simp)
    exact rfl
  clear hK K
  refine HQS.go (fun K hK => ?_)
  go_simp
  apply Exists.intro
  refine ⟨fun W hW => ?_, hK _ ?_⟩
  · obtain ⟨z0, z1, z2, z3, z4, zl⟩ := HK.out W (below_trans HX1.out hW)
    go_simp
    exact rfl
  clear hK K
  refine HQS.go (fun K hK => ?_)
  go_simp
  apply Exists.intro
  refine ⟨fun W hW => ?_, hK _ ?_⟩
  · (try go_simp)
    exact rfl
  clear hK K
  refine HQS.go (fun K hK => ?_)
  go_simp
  apply Exists.intro
  refine ⟨fun W hW => ?_, hK _ ?_⟩
  · obtain ⟨z0, z1, z2, z3, z4, zl⟩ := HK.out W (below_trans HX1.out hW)
    go_simp
    exact rfl
  clear hK K
  refine HQS.go (fun K hK => ?_)
  go_simp
  apply Exists.intro
  refine ⟨fun W hW => ?_, hK _ ?_⟩
  · exact HLC.out W hW
  clear hK K
  refine HQS.go (fun K hK => ?_)
  go_simp
  apply Exists.intro
  refine ⟨fun W hW => ?_, hK _ ?_⟩
  · (try go_simp)
    exact rfl
  clear hK K
  refine HQS.go (fun K hK => ?_)
  go_simp
  apply Exists.intro
  refine ⟨fun W hW => ?_, hK _ ?_⟩
  · obtain ⟨z0, z1, z2, z3, z4, zl⟩ := HK.out W (below_trans HX1.out hW)
    go_simp
    exact rfl
  clear hK K
  refine HQS.go (fun K hK => ?_)
  go_simp
  apply Exists.intro
  refine ⟨fun W hW => ?_, hK _ ?_⟩
  · exact HCC.out W hW
  clear hK K
  refine HQS.go (fun K hK => ?_)
  go_simp
  apply Exists.intro
  refine ⟨fun W hW => ?_, hK _ ?_⟩
  · (try go_simp)
    exact rfl
  clear hK K
  refine HQN.go ?_
  intro W hW
  have H8 := Lib.hid (below_trans HB1.out hW)
  clear hW
  go_wp2
  go_ret
  exact ⟨rfl, H8.out⟩
end

section
open Go.RowKit Go.Maps

theorem Seen.below {w w' : World} {B n : Nat} {xs : List Int} (h : Seen w B n xs) (hb : Below w.heap.size w w') : Seen w' B n xs := by
  obtain ⟨D, h1, h3⟩ := h
  have hlt := h1.lt
  obtain ⟨es, clock, h1, h2⟩ := h1
  exact ⟨D, ⟨es, clock, (hb.block B hlt).trans h1, h2⟩, h3⟩
theorem jst_no {root : ByteArray} {n kp i : Int} {S : List (Int × Int)} {k : Kp} (h : kgood root n kp i k = false) : jst root n kp i S k = S := by unfold jst; rw [h]; rfl
theorem jst_dup {root : ByteArray} {n kp i : Int} {S : List (Int × Int)} {k : Kp} (h : decide (k.s.1 ∈ S.map (·.1)) = true) : jst root n kp i S k = S := by
  unfold jst
  have : (S.map (·.1)).contains k.s.1 = true := by simpa using h
  rw [this]; simp
theorem jst_new {root : ByteArray} {n kp i : Int} {S : List (Int × Int)} {k : Kp} (hg : kgood root n kp i k = true) (h : decide (k.s.1 ∈ S.map (·.1)) = false) : jst root n kp i S k = S ++ [k.s] := by
  unfold jst
  have : (S.map (·.1)).contains k.s.1 = false := by simpa using h
  rw [this, hg]; rfl
/-- What a row of kept shares asks of memory. -/
structure KwFit (w : World) (a : Kw) : Prop where
  row : RowOf kpC 4 w a.A a.l
  each : ∀ k, k ∈ a.l → KpFit w k
  len : a.l.length ≤ 1000
theorem KwFit.below {w w' : World} {a : Kw} (h : KwFit w a) (hb : Below w.heap.size w w') : KwFit w' a := ⟨h.row.below hb, fun k hk => (h.each k hk).below hb, h.len⟩
theorem kp_cells {w : World} {a : Kw} (h : RowOf kpC 4 w a.A a.l) {j : Nat} {k : Kp} (hj : a.l[j]? = some k) : ∃ b off, a.A = some ⟨b, off, none⟩ ∧ w.cell? ⟨b, off + j * 4, none⟩ = some (.int .i64 k.ix) ∧ w.cell? ⟨b, off + j * 4 + 1, none⟩ = some (.int .i64 k.s.1) ∧ w.cell? ⟨b, off + j * 4 + 2, none⟩ = some (.int .i64 k.s.2) ∧ w.cell? ⟨b, off + j * 4 + 3, none⟩ = some (.slice k.A k.p.length k.c) := by
  obtain ⟨b, off, he, hc⟩ := h.at_ kpC_len hj
  exact ⟨b, off, he, by have := hc 0 _ rfl; simpa using this, hc 1 _ rfl, hc 2 _ rfl, hc 3 _ rfl⟩

set_option maxRecDepth 100000 in
set_option maxHeartbeats 16000000 in
theorem kjoin_any (cm : ByteArray × ByteArray) (n kp i : Nat) (a : Kw) (need : Int) (w : World) (hw : KwFit w a) (hn : n ≤ 600) (hkp : kp ≤ 9) (hi : i < n) (hneed : i64ok need) (hT : Tabs w) :
    Calls Tryz.prog 62 #[.agg #[.string cm.1, .string cm.2], .int .i64 n, .int .i64 kp, .int .i64 i, .slice a.A a.l.length a.c, .int .i64 need] w fun e w' => e = .returned (.tuple #[.int .i64 (kjn cm.2 n kp i a.l need).1, .int .i64 (kjn cm.2 n kp i a.l need).2]) ∧ Below w.heap.size w w' := by
  obtain ⟨KJ, hKJ⟩ : ∃ KJ, kjn cm.2 n kp i a.l need = KJ := ⟨_, rfl⟩
  rw [hKJ]
  have HKJ := Lib.hid hKJ
  clear hKJ
  obtain ⟨w0, hw0⟩ : ∃ w0, (w.alloc (.cells #[.string cm.1, .string cm.2] 29)).alloc (.map #[] 0) = w0 := ⟨_, rfl⟩
  have hmm := @run_makeMap Tryz.prog
  have HB0 : Hid (Below w.heap.size w w0) := Lib.hid (by rw [← hw0]; exact below_alloc (below_alloc (Below.refl _ _) _) _)
  have hs0 : w0.heap.size = w.heap.size + 2 := by rw [← hw0]; simp
  have HS0 : Hid (Seen w0 (w.heap.size + 1) 0 []) := Lib.hid (by
    rw [← hw0]
    have := Seen.made (w.alloc (.cells #[.string cm.1, .string cm.2] 29))
    have e : (w.alloc (.cells #[.string cm.1, .string cm.2] 29)).heap.size = w.heap.size + 1 := by simp
    rw [e] at this
    exact this)
  have HCM : Hid (∀ W, Below (w.heap.size + 1) w0 W → W.cell? ⟨w.heap.size, 1, none⟩ = some (.string cm.2)) := Lib.hid (fun W hW => by
    have h1 : Blk w0 w.heap.size 29 #[.string cm.1, .string cm.2] := by rw [← hw0]; exact (Blk.new w _ _ _ rfl).alloc _
    exact below_cell hW (by omega) (h1.of_cell (i := 1) rfl))
  have HBW : Hid (∀ W, Below (w.heap.size + 1) w0 W → Below w.heap.size w W) := Lib.hid (fun W hW => HB0.out.trans (hW.mono (by omega)))
  have HT : Hid (∀ W, Below w.heap.size w W → Tabs W) := Lib.hid (fun W hW => hT.below hW)
  have HW : Hid (∀ W, Below w.heap.size w W → KwFit W a) := Lib.hid (fun W hW => hw.below hW)
  have hal := hw.len
  have HJ0 : Hid (jfd cm.2 n kp i (a.l.take 0) = []) := Lib.hid rfl
  have HJS : Hid (∀ (j : Nat) (k : Kp), a.l[j]? = some k → jfd cm.2 n kp i (a.l.take (j + 1)) = jst cm.2 n kp i (jfd cm.2 n kp i (a.l.take j)) k) := Lib.hid (fun j k h => jfd_snoc cm.2 n kp i h)
  have HJL : Hid (∀ (j : Nat) (k : Kp), (jst cm.2 n kp i (jfd cm.2 n kp i (a.l.take j)) k).length ≤ (jfd cm.2 n kp i (a.l.take j)).length + 1) := Lib.hid (fun j k => (jst_sub cm.2 n kp i _ k).1)
  obtain ⟨i0, hi0, hz0, hz1, hz2⟩ := info_parts info_share
  have HI := Lib.hid (And.intro hi0 (And.intro hz0 (And.intro hz1 hz2)))
  have HW0 := Lib.hid hw0
  clear hw0 hT hw hi0 hz0 hz1 hz2
  go_enter Tryz.func62, Tryz.ntmps62
  go_wp2_with fail
  have hw0 := HW0.out
  rw [hw0]
  clear hw0
  have HO0 : Hid (w0.ownsRow (w.heap.size + 2) 48 2 (.slice none 0 0) (jfd cm.2 n kp i (a.l.take 0)).length (flat2 (jfd cm.2 n kp i (a.l.take 0)))) := Lib.hid (by rw [HJ0.out]; exact World.ownsRow_nil _ _ _ _)
  have HSE0 : Hid (Seen w0 (w.heap.size + 1) (jfd cm.2 n kp i (a.l.take 0)).length ((jfd cm.2 n kp i (a.l.take 0)).map (·.1))) := Lib.hid (by rw [HJ0.out]; exact HS0.out)
  clear hmm
  go_loopw [15, 17, 18, 24] (fun u15 _ _ u24 wr => ∃ j : Nat, j ≤ a.l.length ∧ u24 = .int .i64 j ∧ w.heap.size + 2 ≤ wr.heap.size ∧ Below (w.heap.size + 1) w0 wr ∧ Seen wr (w.heap.size + 1) (jfd cm.2 n kp i (a.l.take j)).length ((jfd cm.2 n kp i (a.l.take j)).map (·.1)) ∧ wr.ownsRow (w.heap.size + 2) 48 2 u15 (jfd cm.2 n kp i (a.l.take j)).length (flat2 (jfd cm.2 n kp i (a.l.take j))) ∧ (jfd cm.2 n kp i (a.l.take j)).length ≤ j) (fun _ _ _ u24 _ => a.l.length - (intOf u24).toNat)
  case atStart => exact ⟨0, Nat.zero_le _, rfl, by omega, Below.refl _ _, HSE0.out, HO0.out, by rw [HJ0.out]; simp⟩
  case round =>
  obtain ⟨j, hj, rfl, hz2, hb, hse, ho, hjl⟩ := hrel
  have HBj := Lib.hid hb
  have HSj := Lib.hid hse
  have HOj := Lib.hid ho
  clear hb hse ho
  by_cases hlt : j < a.l.length
  case neg =>
    obtain rfl : j = a.l.length := by omega
    have HFE : Hid (jfd cm.2 n kp i (a.l.take a.l.length) = jfd cm.2 n kp i a.l) := Lib.hid (by rw [List.take_of_length_le (Nat.le_refl _)])
    have ho := HOj.out
    rw [HFE.out] at ho
    rw [HFE.out] at hjl
    have HKJ1 : Hid (((jfd cm.2 n kp i a.l).length : Int) < need → KJ = (0, 25)) := Lib.hid (fun h => by rw [← HKJ.out]; exact kjn_few h)
    have HKJ2 : Hid (¬ ((jfd cm.2 n kp i a.l).length : Int) < need → KJ = if (joinF (jfd cm.2 n kp i a.l) need).2 ≠ 0 ∨ 720 ≤ (joinF (jfd cm.2 n kp i a.l) need).1 then (0, 24) else ((joinF (jfd cm.2 n kp i a.l) need).1, 0)) := Lib.hid (fun h => by rw [← HKJ.out]; unfold kjn; rw [if_neg h])
    clear HKJ
    generalize jfd cm.2 n kp i a.l = FD at *
    obtain ⟨AF, cF, rfl, hcF, -, hrF⟩ := Rd.of_own ho
    have HPF : Hid (Prs wr AF FD) := Lib.hid hrF
    clear ho hrF HJS HJL HJ0 HO0 HSE0 HSj HOj
    by_cases hfew : (FD.length : Int) < need
    case pos =>
      have HE := Lib.hid (HKJ1.out hfew)
      go_wp2
      go_ret2
      rw [HE.out]
      exact ⟨rfl, HBW.out _ HBj.out⟩
    case neg =>
    have HE := Lib.hid (HKJ2.out hfew)
    have HJN := Lib.hid (join_full AF cF FD need wr HPF.out (by omega) hcF)
    obtain ⟨x, hx⟩ : ∃ x, (joinF FD need).1 = x := ⟨_, rfl⟩
    obtain ⟨er, her⟩ : ∃ x, (joinF FD need).2 = x := ⟨_, rfl⟩
    rw [hx, her] at HE HJN
    clear hx her
    go_wp2_with fail
    refine HJN.out.mono ?_
    rintro e w1 ⟨rfl, hb⟩
    have HB1 := Lib.hid (below_trans (HBW.out _ HBj.out) hb)
    clear hb
    by_cases he0 : er = 0
    case pos =>
      subst he0
      by_cases hx7 : 720 ≤ x
      case pos =>
        go_wp2
        go_ret2
        rw [HE.out, if_pos (.inr hx7)]
        exact ⟨rfl, HB1.out⟩
      case neg =>
        go_wp2
        go_ret2
        rw [HE.out, if_neg (by omega)]
        exact ⟨rfl, HB1.out⟩
    case neg =>
      have hb1 : (er == 0) = false := by simpa using he0
      have hb2 : (er != 0) = true := by simpa using he0
      go_wp2
      go_ret2
      rw [HE.out, if_pos (.inl he0)]
      exact ⟨rfl, HB1.out⟩
  case pos =>
  obtain ⟨k, hk⟩ := get_some a.l j hlt
  have hfit := HW.out wr (HBW.out _ HBj.out)
  have hkf := hfit.each k (List.mem_of_getElem? hk)
  obtain ⟨bA, oA, hAe, q0, q1, q2, q3⟩ := kp_cells hfit.row hk
  have ql := lt_of_cell q0
  have HAE := Lib.hid hAe
  have HKF := Lib.hid hkf
  have HJK := Lib.hid (HJS.out j k hk)
  have HJKL := Lib.hid (HJL.out j k)
  have hix := hkf.ix
  have hxr := hkf.x
  have hyr := hkf.y
  unfold i64ok at hix hxr hyr
  rw [hAe]
  clear hfit hkf hk hAe
  obtain ⟨S1, hS1D⟩ : ∃ S1, jfd cm.2 n kp i (a.l.take (j + 1)) = S1 := ⟨_, rfl⟩
  rw [hS1D] at HJK
  have HS1D := Lib.hid hS1D
  clear hS1D
  generalize jfd cm.2 n kp i (a.l.take j) = S0 at *
  have HNX : Hid (jst cm.2 n kp i S0 k = S0 → ∀ W, Below (w.heap.size + 1) w0 W → Seen W (w.heap.size + 1) S0.length (S0.map (·.1)) → ∀ v, W.ownsRow (w.heap.size + 2) 48 2 v S0.length (flat2 S0) → Below (w.heap.size + 1) w0 W ∧ Seen W (w.heap.size + 1) S1.length (S1.map (·.1)) ∧ W.ownsRow (w.heap.size + 2) 48 2 v S1.length (flat2 S1) ∧ S1.length ≤ j + 1) := Lib.hid (fun h W hW hs v ho => by
    rw [HJK.out, h]; exact ⟨hW, hs, ho, by omega⟩)
  have HSA := Lib.hid (HSj.out.grown (World.grownBy_alloc wr (.cells #[.int .i64 k.ix, .int .i64 k.s.1, .int .i64 k.s.2, .slice k.A k.p.length k.c] 50) none) (by simp))
  have HOA := Lib.hid (HOj.out.alloc (.cells #[.int .i64 k.ix, .int .i64 k.s.1, .int .i64 k.s.2, .slice k.A k.p.length k.c] 50))
  have HBA : Hid (Below (w.heap.size + 1) w0 (wr.alloc (.cells #[.int .i64 k.ix, .int .i64 k.s.1, .int .i64 k.s.2, .slice k.A k.p.length k.c] 50))) := Lib.hid (HBj.out.alloc (by have := HBj.out.size; omega) _)
  by_cases c1 : k.ix = (i : Int)
  case neg =>
    have hnx := HNX.out (jst_no (by unfold kgood; rw [decide_eq_false c1]; rfl)) _ HBA.out HSA.out _ HOA.out
    have HN := Lib.hid hnx
    have hb1 : (k.ix == (i : Int)) = false := by simpa using c1
    have hb2 : (k.ix != (i : Int)) = true := by simpa using c1
    clear hnx c1
    go_wp2
    go_roundw
    case rel =>
      refine ⟨j + 1, by omega, by go_num, by simp; omega, HN.out.1, ?_⟩
      rw [HS1D.out]
      exact HN.out.2
    case measure => simp [intOf]; omega
  case pos =>
  have hb1 : (k.ix == (i : Int)) = true := by simpa using c1
  have hb2 : (k.ix != (i : Int)) = false := by simpa using c1
  have HC1 := Lib.hid c1
  clear c1
  obtain ⟨b2, hb2'⟩ : ∃ b, wiB k.s.1 1 kp = b := ⟨_, rfl⟩
  obtain ⟨b3, hb3'⟩ : ∃ b, wiB k.s.2 0 2147483646 = b := ⟨_, rfl⟩
  have H2 := Lib.hid hb2'
  have H3 := Lib.hid hb3'
  clear hb2' hb3'
  go_wp2_with fail
  refine (kwithin_any _ _ _ _).mono ?_
  rintro e _ ⟨rfl, rfl⟩
  rw [H2.out]
  cases b2
  case false =>
    have h2 := of_decide_eq_false H2.out
    have hnx := HNX.out (jst_no (by unfold kgood; rw [decide_eq_false h2]; simp)) _ HBA.out HSA.out _ HOA.out
    have HN := Lib.hid hnx
    clear hnx h2
    go_wp2
    go_roundw
    case rel =>
      refine ⟨j + 1, by omega, by go_num, by simp; omega, HN.out.1, ?_⟩
      rw [HS1D.out]
      exact HN.out.2
    case measure => simp [intOf]; omega
  case true =>
  have h2 := of_decide_eq_true H2.out
  obtain ⟨hx1, hx2⟩ := h2
  go_wp2_with fail
  refine (kwithin_any _ _ _ _).mono ?_
  rintro e _ ⟨rfl, rfl⟩
  rw [H3.out]
  cases b3
  case false =>
    have h3 := of_decide_eq_false H3.out
    have hnx := HNX.out (jst_no (by unfold kgood; rw [show elemB k.s.2 = false by simp [elemB]; omega]; simp)) _ HBA.out HSA.out _ HOA.out
    have HN := Lib.hid hnx
    clear hnx h3
    go_wp2
    go_roundw
    case rel =>
      refine ⟨j + 1, by omega, by go_num, by simp; omega, HN.out.1, ?_⟩
      rw [HS1D.out]
      exact HN.out.2
    case measure => simp [intOf]; omega
  case true =>
  have h3 := of_decide_eq_true H3.out
  obtain ⟨hy1, hy2⟩ := h3
  have hex : elemB k.s.1 = true := by rw [elemB_iff]; omega
  have hey : elemB k.s.2 = true := by rw [elemB_iff]; omega
  have hlook := HSA.out.lookB k.s.1 hex
  obtain ⟨b4, hb4⟩ : ∃ b, decide (k.s.1 ∈ S0.map (·.1)) = b := ⟨_, rfl⟩
  rw [hb4] at hlook
  have H4 := Lib.hid hb4
  have HEX := Lib.hid hex
  have HEY := Lib.hid hey
  clear hb4 hex hey
  cases b4
  case true =>
    have hnx := HNX.out (jst_dup H4.out) _ HBA.out HSA.out _ HOA.out
    have HN := Lib.hid hnx
    clear hnx
    go_wp2
    go_roundw
    case rel =>
      refine ⟨j + 1, by omega, by go_num, by simp; omega, HN.out.1, ?_⟩
      rw [HS1D.out]
      exact HN.out.2
    case measure => simp [intOf]; omega
  case false =>
  obtain ⟨kv, hkv⟩ : ∃ b, kvB cm.2 n kp i k.s k.p = b := ⟨_, rfl⟩
  have hkg : kgood cm.2 n kp i k = kv := by
    unfold kgood; rw [hkv, decide_eq_true HC1.out, HEY.out, decide_eq_true ⟨hx1, hx2⟩]; rfl
  have HKG := Lib.hid hkg
  have HKVE := Lib.hid hkv
  clear hkg hkv
  obtain ⟨X, hX⟩ : ∃ X : Nat, k.s.1 = (X : Int) := ⟨k.s.1.toNat, by omega⟩
  obtain ⟨N1, hN1⟩ : ∃ N1, n * kp = N1 := ⟨_, rfl⟩
  obtain ⟨N2, hN2⟩ : ∃ N2, i * kp = N2 := ⟨_, rfl⟩
  have hN1l : N1 ≤ 5400 := by rw [← hN1]; exact Nat.mul_le_mul hn hkp
  have hN2l : N2 ≤ 5400 := by rw [← hN2]; exact Nat.le_trans (Nat.mul_le_mul (show i ≤ 600 by omega) hkp) (by omega)
  obtain ⟨N3, hN3⟩ : ∃ N3 : Nat, N2 + X - 1 = N3 := ⟨_, rfl⟩
  have e1 : IntKind.i64.wrap ((n : Int) * (kp : Int)) = (N1 : Int) := by rw [← Int.natCast_mul, hN1, IntWalk.i64_in _ (by omega)]
  have e2 : IntKind.i64.wrap ((i : Int) * (kp : Int)) = (N2 : Int) := by rw [← Int.natCast_mul, hN2, IntWalk.i64_in _ (by omega)]
  obtain ⟨N4, hN4⟩ : ∃ N4 : Nat, N2 + X = N4 := ⟨_, rfl⟩
  have e3 : IntKind.i64.wrap ((N2 : Int) + k.s.1) = (N4 : Int) := by rw [IntWalk.i64_in _ (by omega)]; omega
  have e4 : IntKind.i64.wrap ((N4 : Int) - 1) = (N3 : Int) := by rw [IntWalk.i64_in _ (by omega)]; omega
  obtain ⟨wa, hwa⟩ : ∃ wa, wr.alloc (.cells #[.int .i64 k.ix, .int .i64 k.s.1, .int .i64 k.s.2, .slice k.A k.p.length k.c] 50) = wa := ⟨_, rfl⟩
  have HKC : Hid (∀ W, Below wa.heap.size wa W → W.cell? ⟨wr.heap.size, 0, none⟩ = some (.int .i64 k.ix) ∧ W.cell? ⟨wr.heap.size, 1, none⟩ = some (.int .i64 k.s.1) ∧ W.cell? ⟨wr.heap.size, 2, none⟩ = some (.int .i64 k.s.2) ∧ W.cell? ⟨wr.heap.size, 3, none⟩ = some (.slice k.A k.p.length k.c) ∧ wr.heap.size < W.heap.size) := Lib.hid (fun W hW => by
    have h1 : Blk wa wr.heap.size 50 #[.int .i64 k.ix, .int .i64 k.s.1, .int .i64 k.s.2, .slice k.A k.p.length k.c] := by rw [← hwa]; exact Blk.new _ _ _ _ rfl
    have h0 := kept_cell hW (h1.of_cell (i := 0) rfl)
    exact ⟨h0, kept_cell hW (h1.of_cell (i := 1) rfl), kept_cell hW (h1.of_cell (i := 2) rfl), kept_cell hW (h1.of_cell (i := 3) rfl), lt_of_cell h0⟩)
  rw [hwa] at HSA HOA HBA
  have HWX : Hid (∀ W, Below wa.heap.size wa W → Below (w.heap.size + 1) w0 W) := Lib.hid (fun W hW => HBA.out.trans (hW.mono (by have := HBA.out.size; omega)))
  have HSL : Hid (∀ W, Below wa.heap.size wa W → Calls Tryz.prog 90 #[.int .i64 i, .agg #[.int .i64 k.s.1, .int .i64 k.s.2]] W fun e w' => e = .returned (.string (khLf i k.s)) ∧ Below wa.heap.size wa w') := Lib.hid (fun W hW => (kshl_any i k.s W (by omega) (by omega) (by omega) (HT.out W (HBW.out W (HWX.out W hW)))).mono fun _ _ ⟨he, hb⟩ => ⟨he, below_trans hW hb⟩)
  have HTC : Hid (∀ W, Below wa.heap.size wa W → Calls Tryz.prog 65 #[.string cm.2, .int .i64 N1, .int .i64 N3, .string (khLf i k.s), .slice k.A k.p.length k.c] W fun e w' => e = .returned (.bool kv) ∧ Below wa.heap.size wa w') := Lib.hid (fun W hW => by
    have hW2 := HBW.out W (HWX.out W hW)
    have hWr := hwa ▸ hW
    have := tcheck_any cm.2 N1 N3 (khLf i k.s) k.A k.c k.p W (HT.out W hW2) ((HKF.out.below (below_alloc (Below.refl _ _) _)).below hWr).p HKF.out.pl (by show (dg _).size ≤ _; rw [dg_size]; omega) HKF.out.ps
    have hk := HKVE.out
    unfold kvB at hk
    rw [← Int.natCast_mul, ← Int.natCast_mul, hN1, hN2, show (N2 : Int) + k.s.1 - 1 = (N3 : Int) by omega, Int.toNat_natCast] at hk
    rw [hk] at this
    exact this.mono fun _ _ ⟨he, hb⟩ => ⟨he, below_trans hW hb⟩)
  have HWA := Lib.hid hwa
  have HXE := Lib.hid hX
  have HE := Lib.hid (And.intro e1 (And.intro e2 (And.intro e3 e4)))
  clear hX hN3 hN4
  generalize khLf i k.s = LFV at *
  clear e1 e2 e3 e4 hN1 hN2 hwa
  go_wp2_with fail
  have hwa := HWA.out
  rw [hwa]
  clear hwa hlook q0 q1 q2 q3 ql
  obtain ⟨e1, e2, e3, e4⟩ := HE.out
  refine wp_region_belowC (by kernel_rfl) (by kernel_rfl) (fun WQ HQS HQN => ?_)
  refine HQS.go (fun K hK => ?_)
  go_simp
  apply Exists.intro
  refine ⟨fun W hW => ?_, hK _ ?_⟩
  · (try go_simp)
    exact rfl
  clear hK K
  refine HQS.go (fun K hK => ?_)
  go_simp
  apply Exists.intro
  refine ⟨fun W hW => ?_, hK _ ?_⟩
  · have z := HCM.out W (HWX.out W hW)
    have zl := lt_of_cell z
    go_simp
    exact rfl
  clear hK K
  refine HQS.go (fun K hK => ?_)
  go_simp
  apply Exists.intro
  refine ⟨fun W hW => ?_, hK _ ?_⟩
  · (try go_simp)
    exact rfl
  clear hK K
  refine HQS.go (fun K hK => ?_)
  go_simp
  apply Exists.intro
  refine ⟨fun W hW => ?_, hK _ ?_⟩
  · (try go_simp)
    exact rfl
  clear hK K
  refine HQS.go (fun K hK => ?_)
  go_simp
  apply Exists.intro
  refine ⟨fun W hW => ?_, hK _ ?_⟩
  · (try go_simp)
    exact rfl
  clear hK K
  refine HQS.go (fun K hK => ?_)
  go_simp
  apply Exists.intro
  refine ⟨fun W hW => ?_, hK _ ?_⟩
  · (try go_simp)
    exact rfl
  clear hK K
  refine HQS.go (fun K hK => ?_)
  go_simp
  apply Exists.intro
  refine ⟨fun W hW => ?_, hK _ ?_⟩
  · (try go_simp)
    exact rfl
  clear hK K
  refine HQS.go (fun K hK => ?_)
  go_simp
  apply Exists.intro
  refine ⟨fun W hW => ?_, hK _ ?_⟩
  · (try go_simp)
    exact rfl
  clear hK K
  refine HQS.go (fun K hK => ?_)
  go_simp
  apply Exists.intro
  refine ⟨fun W hW => ?_, hK _ ?_⟩
  · (try go_simp)
    exact rfl
  clear hK K
  refine HQS.go (fun K hK => ?_)
  go_simp
  apply Exists.intro
  refine ⟨fun W hW => ?_, hK _ ?_⟩
  · (try go_simp)
    exact rfl
  clear hK K
  refine HQS.go (fun K hK => ?_)
  go_simp
  apply Exists.intro
  refine ⟨fun W hW => ?_, hK _ ?_⟩
  · (try go_simp)
    exact rfl
  clear hK K
  refine HQS.go (fun K hK => ?_)
  go_simp
  apply Exists.intro
  refine ⟨fun W hW => ?_, hK _ ?_⟩
  · (try go_simp)
    exact rfl
  clear hK K
  refine HQS.go (fun K hK => ?_)
  go_simp
  apply Exists.intro
  refine ⟨fun W hW => ?_, hK _ ?_⟩
  · (try go_simp)
    exact rfl
  clear hK K
  refine HQS.go (fun K hK => ?_)
  go_simp
  apply Exists.intro
  refine ⟨fun W hW => ?_, hK _ ?_⟩
  · obtain ⟨z0, z1, z2, z3, zl⟩ := HKC.out W hW
    go_simp
    exact rfl
  clear hK K
  refine HQS.go (fun K hK => ?_)
  go_simp
  apply Exists.intro
  refine ⟨fun W hW => ?_, hK _ ?_⟩
  · exact HSL.out W hW
  clear hK K
  refine HQS.go (fun K hK => ?_)
  go_simp
  apply Exists.intro
  refine ⟨fun W hW => ?_, hK _ ?_⟩
  · (try go_simp)
    exact rfl
  clear hK K
  refine HQS.go (fun K hK => ?_)
  go_simp
  apply Exists.intro
  refine ⟨fun W hW => ?_, hK _ ?_⟩
  · obtain ⟨z0, z1, z2, z3, zl⟩ := HKC.out W hW
    go_simp
    exact rfl
  clear hK K
  refine HQS.go (fun K hK => ?_)
  go_simp
  apply Exists.intro
  refine ⟨fun W hW => ?_, hK _ ?_⟩
  · exact HTC.out W hW
  clear hK K
  refine HQN.go ?_
  intro wb hb
  clear e1 e2 e3 e4
  have HBb := Lib.hid (HWX.out _ hb)
  have HSb := Lib.hid (HSA.out.below hb)
  have HOb := Lib.hid (row_below HOA.out hb)
  have HKb := Lib.hid (HKC.out _ hb)
  clear hb
  cases kv
  case false =>
    have hnx := HNX.out (jst_no HKG.out) _ HBb.out HSb.out _ HOb.out
    have HN := Lib.hid hnx
    clear hnx
    go_wp2
    go_roundw
    case rel =>
      refine ⟨j + 1, by omega, by go_num, by have := HKb.out.2.2.2.2; omega, HN.out.1, ?_⟩
      rw [HS1D.out]
      exact HN.out.2
    case measure => simp [intOf]; omega
  case true =>
  have HNW := Lib.hid (jst_new HKG.out H4.out)
  have hjl2 : S0.length < 1000 := by omega
  obtain ⟨wc, hput, hSc, hgc⟩ := HSb.out.put k.s.1 HEX.out hjl2
  have HBc : Hid (Below (w.heap.size + 1) w0 wc) := Lib.hid (HBb.out.grown hgc (by have := HBb.out.size; omega) (by simp))
  have HOc := Lib.hid (HOb.out.kept hgc (.inr (by intro he; have := (HOb.out.lt _ he).1; omega)))
  have HSc := Lib.hid hSc
  obtain ⟨z0, z1, z2, z3, zl⟩ := HKb.out
  have z1c := (World.cell?_of_block (w := wb) (w' := wc) (a := ⟨wr.heap.size, 1, none⟩) (hgc.block wr.heap.size zl (by simp; omega))).trans z1
  have z2c := (World.cell?_of_block (w := wb) (w' := wc) (a := ⟨wr.heap.size, 2, none⟩) (hgc.block wr.heap.size zl (by simp; omega))).trans z2
  have zlc := lt_of_cell z1c
  clear hSc hgc z0 z1 z2 z3 zl
  go_wp2_with (at_builtin; refine wpList_app _ rfl (.tmp 73) (.tmp 76) 100 100 rfl (w.heap.size + 2) 48 48 i0 _ 2 16 Tryz.underlying100 Tryz.underlying100 HI.out.1 HI.out.2.1 HI.out.2.2.1 HI.out.2.2.2 rfl (by omega) _ S0.length _ rfl (HOc.out.alloc _) _ 1 1 [.int .i64 k.s.1, .int .i64 k.s.2] rfl (Rd_new wc #[.int .i64 k.s.1, .int .i64 k.s.2] _ 2 1 _ rfl rfl) (by simp [Value.oneCell']) (by simp only [maxLen]; omega) (by omega) (by have := HBc.out.size; simp; omega) ?_)
  intro v1 wd hownd hgd
  have hS1 : S1 = S0 ++ [k.s] := by rw [HJK.out, HNW.out]
  have e5 : flat2 S0 ++ [.int .i64 k.s.1, .int .i64 k.s.2] = flat2 S1 := by rw [hS1, flat2_append]; rfl
  have e6 : S0.length + 1 = S1.length := by rw [hS1]; simp
  have e7 : S0.map (·.1) ++ [k.s.1] = S1.map (·.1) := by rw [hS1]; simp
  have HSd := Lib.hid ((HSc.out.grown (World.grownBy_alloc wc (.cells #[.int .i64 k.s.1, .int .i64 k.s.2] 48) none) (by simp)).grown hgd (by intro he; have := (HOc.out.lt _ he.symm).1; omega))
  have HBd : Hid (Below (w.heap.size + 1) w0 wd) := Lib.hid ((HBc.out.alloc (by have := HBc.out.size; omega) _).grown hgd (by have := HBc.out.size; simp; omega) (fun j hj => by have := (HOc.out.lt j hj).1; omega))
  have HZd : Hid (wr.heap.size < wd.heap.size) := Lib.hid (by have h1 := hgd.size; have h2 := zlc; simp at h1; omega)
  rw [e5, e6] at hownd
  rw [e6, e7] at HSd
  have HOd := Lib.hid hownd
  have hS1l : S1.length ≤ j + 1 := by omega
  clear hownd hgd hS1 e5 e6 e7 z1c z2c zlc hput
  go_wp2
  go_roundw
  case rel =>
    refine ⟨j + 1, by omega, by go_num, by have := HZd.out; omega, HBd.out, ?_⟩
    rw [HS1D.out]
    exact ⟨HSd.out, HOd.out, hS1l⟩
  case measure => simp [intOf]; omega
end

section
open Go.RowKit Go.Maps

theorem joinF_range (l : List (Int × Int)) (need : Int) : 0 ≤ (joinF l need).1 := by
  unfold joinF
  split
  · exact Int.le_refl 0
  split
  · exact Int.le_refl 0
  · next hv =>
    split
    · exact Int.le_refl 0
    split
    · exact Int.le_refl 0
    split
    · exact Int.le_refl 0
    · refine (nv_range 0 (l.take need.toNat) (fun p hp => ?_) _ _).1
      have hv' : l.all validB = true := by simpa using hv
      have := (validB_iff p).1 (List.all_eq_true.1 hv' p (List.mem_of_mem_take hp))
      exact ⟨by rw [elemB_iff]; omega, this.2.2⟩
theorem kjn_range (root : ByteArray) (n kp i : Int) (l : List Kp) (need : Int) : 0 ≤ (kjn root n kp i l need).1 ∧ (kjn root n kp i l need).1 < 720 := by
  unfold kjn
  split
  · exact ⟨Int.le_refl 0, by simp⟩
  split
  · exact ⟨Int.le_refl 0, by simp⟩
  · next h => exact ⟨joinF_range _ _, by simp only; omega⟩
theorem kone_range (c : ByteArray × ByteArray) (n kp i : Int) (o : Og) (l : List Kp) (need : Int) : 0 ≤ (kone c n kp i o l need).1 ∧ (kone c n kp i o l need).1 < 720 := by
  unfold kone
  split
  · next h =>
    have := h.2
    simp only [ckB, Bool.and_eq_true, decide_eq_true_eq] at this
    exact ⟨by simp only; omega, by simp only; omega⟩
  · exact kjn_range _ _ _ _ _ _
theorem ksum_range (rs : List (Int × Int × Bool)) (k : Nat) : 0 ≤ ksum rs k ∧ ksum rs k < 720 := by
  cases k with
  | zero => exact ⟨Int.le_refl 0, by simp [ksum]⟩
  | succ k => unfold ksum; omega
theorem ksum_succ {rs : List (Int × Int × Bool)} {k : Nat} {v e : Int} {f : Bool} (h : rs[k]? = some (v, e, f)) : ksum rs (k + 1) = (ksum rs k + v) % 720 := by rw [ksum, h]; rfl
theorem kwh_succ {rs : List (Int × Int × Bool)} {k : Nat} {v e : Int} {f : Bool} (h : rs[k]? = some (v, e, f)) : kwh rs (k + 1) = kwh rs k ++ (if f then [(k : Int)] else []) := by rw [kwh, h]; rfl
theorem kwh_len (rs : List (Int × Int × Bool)) (k : Nat) : (kwh rs k).length ≤ k := by
  induction k with
  | zero => exact Nat.le_refl _
  | succ k ih => rw [kwh, List.length_append]; split <;> simp <;> omega
theorem kall_ok {rs : List (Int × Int × Bool)} (h : ∀ (k : Nat) (r : Int × Int × Bool), rs[k]? = some r → r.2.1 = 0) : kall rs = (ksum rs rs.length, kwh rs rs.length, 0) := by
  unfold kall
  have : rs.find? (fun r => r.2.1 != 0) = none := by
    rw [List.find?_eq_none]
    intro r hr
    obtain ⟨k, hk⟩ := List.getElem?_of_mem hr
    simp [h k r hk]
  rw [this]
theorem kall_err {rs : List (Int × Int × Bool)} {k : Nat} {r : Int × Int × Bool} (h : ∀ (j : Nat) (r : Int × Int × Bool), j < k → rs[j]? = some r → r.2.1 = 0) (hk : rs[k]? = some r) (hr : r.2.1 ≠ 0) : kall rs = (0, [], r.2.1) := by
  unfold kall
  have e : rs = rs.take k ++ r :: rs.drop (k + 1) := by
    obtain ⟨hl, rfl⟩ := List.getElem?_eq_some_iff.1 hk
    rw [← List.drop_eq_getElem_cons hl, List.take_append_drop]
  have h1 : (rs.take k).find? (fun r => r.2.1 != 0) = none := by
    rw [List.find?_eq_none]
    intro q hq
    obtain ⟨j, hj⟩ := List.getElem?_of_mem hq
    rw [List.getElem?_take] at hj
    split at hj
    · next hlt => simp [h j q hlt hj]
    · cases hj
  have : rs.find? (fun r => r.2.1 != 0) = some r := by
    rw [e, List.find?_append, h1]
    simp [hr]
  rw [this]
theorem krs_get {cs : List (ByteArray × ByteArray)} {n i : Int} {os : List Og} {ks : List (List Kp)} {need : Int} {k : Nat} {c : ByteArray × ByteArray} {o : Og} {l : List Kp} (hc : cs[k]? = some c) (ho : os[k]? = some o) (hl : ks[k]? = some l) :
    (krs cs n i os ks need)[k]? = some (kone c n (cs.length : Int) i o l need) := by
  have h1 : (List.zip os ks)[k]? = some (o, l) := List.getElem?_zip_eq_some.2 ⟨ho, hl⟩
  have h2 : (List.zip cs (List.zip os ks))[k]? = some (c, (o, l)) := List.getElem?_zip_eq_some.2 ⟨hc, h1⟩
  unfold krs
  rw [List.getElem?_map, h2]; rfl
theorem krs_len {cs : List (ByteArray × ByteArray)} {n i : Int} {os : List Og} {ks : List (List Kp)} {need : Int} (h1 : os.length = cs.length) (h2 : ks.length = cs.length) : (krs cs n i os ks need).length = cs.length := by
  simp [krs, h1, h2]

theorem og_cells {w : World} {A : Option Addr} {l : List Og} (h : RowOf ogC 4 w A l) {j : Nat} {o : Og} (hj : l[j]? = some o) : ∃ b off, A = some ⟨b, off, none⟩ ∧ w.cell? ⟨b, off + j * 4, none⟩ = some (.int .i64 o.ix) ∧ w.cell? ⟨b, off + j * 4 + 1, none⟩ = some (.int .i64 o.v) ∧ w.cell? ⟨b, off + j * 4 + 2, none⟩ = some (.string o.salt) ∧ w.cell? ⟨b, off + j * 4 + 3, none⟩ = some (.slice o.A o.p.length o.c) := by
  obtain ⟨b, off, he, hc⟩ := h.at_ ogC_len hj
  exact ⟨b, off, he, by have := hc 0 _ rfl; simpa using this, hc 1 _ rfl, hc 2 _ rfl, hc 3 _ rfl⟩
theorem cm_cells {w : World} {A : Option Addr} {l : List (ByteArray × ByteArray)} (h : RowOf cmC 2 w A l) {j : Nat} {o : ByteArray × ByteArray} (hj : l[j]? = some o) : ∃ b off, A = some ⟨b, off, none⟩ ∧ w.cell? ⟨b, off + j * 2, none⟩ = some (.string o.1) ∧ w.cell? ⟨b, off + j * 2 + 1, none⟩ = some (.string o.2) := by
  obtain ⟨b, off, he, hc⟩ := h.at_ cmC_len hj
  exact ⟨b, off, he, by have := hc 0 _ rfl; simpa using this, hc 1 _ rfl⟩
theorem kw_cells {w : World} {A : Option Addr} {l : List Kw} (h : RowOf kwC 1 w A l) {j : Nat} {o : Kw} (hj : l[j]? = some o) : ∃ b off, A = some ⟨b, off, none⟩ ∧ w.cell? ⟨b, off + j, none⟩ = some (.slice o.A o.l.length o.c) := by
  obtain ⟨b, off, he, hc⟩ := h.at_ kwC_len hj
  exact ⟨b, off, he, by have := hc 0 _ rfl; simpa using this⟩

/-- What Draw asks of memory. -/
structure DrFit (w : World) (CA : Option Addr) (cs : List (ByteArray × ByteArray)) (OA : Option Addr) (os : List Og) (KA : Option Addr) (ks : List Kw) : Prop where
  c : RowOf cmC 2 w CA cs
  o : RowOf ogC 4 w OA os
  k : RowOf kwC 1 w KA ks
  og : ∀ o, o ∈ os → OgFit w o
  kw : ∀ k, k ∈ ks → KwFit w k
  cl : cs.length ≤ 9223372036854775807
  ol : os.length ≤ 9223372036854775807
  kl : ks.length ≤ 9223372036854775807
theorem DrFit.below {w w' : World} {CA OA KA : Option Addr} {cs : List (ByteArray × ByteArray)} {os : List Og} {ks : List Kw} (h : DrFit w CA cs OA os KA ks) (hb : Below w.heap.size w w') : DrFit w' CA cs OA os KA ks :=
  ⟨h.c.below hb, h.o.below hb, h.k.below hb, fun o ho => (h.og o ho).below hb, fun k hk => (h.kw k hk).below hb, h.cl, h.ol, h.kl⟩

set_option maxRecDepth 100000 in
set_option maxHeartbeats 16000000 in
theorem kdraw_bad (CA : Option Addr) (cc : Nat) (cs : List (ByteArray × ByteArray)) (n i : Int) (OA : Option Addr) (oc : Nat) (os : List Og) (KA : Option Addr) (kc : Nat) (ks : List Kw) (need : Int) (w : World) (hl1 : cs.length ≤ 9223372036854775807) (hl2 : os.length ≤ 9223372036854775807) (hl3 : ks.length ≤ 9223372036854775807) (hn : i64ok n)
    (hbad : ¬ (1 ≤ cs.length ∧ cs.length ≤ 7 ∧ 1 ≤ n ∧ n ≤ 600 ∧ 0 ≤ i ∧ i ≤ n - 1 ∧ 1 ≤ need ∧ need ≤ cs.length ∧ os.length = cs.length ∧ ks.length = cs.length)) :
    Calls Tryz.prog 25 #[.slice CA cs.length cc, .int .i64 n, .int .i64 i, .slice OA os.length oc, .slice KA ks.length kc, .int .i64 need] w fun e w' => e = .returned (.tuple #[.int .i64 0, .slice none 0 0, .int .i64 1]) ∧ w = w' := by
  obtain ⟨nlo, nhi⟩ := hn
  obtain ⟨b1, hb1⟩ : ∃ b, wiB cs.length 1 7 = b := ⟨_, rfl⟩
  obtain ⟨b2, hb2⟩ : ∃ b, wiB n 1 600 = b := ⟨_, rfl⟩
  obtain ⟨b3, hb3⟩ : ∃ b, wiB i 0 (n - 1) = b := ⟨_, rfl⟩
  obtain ⟨b4, hb4⟩ : ∃ b, wiB need 1 cs.length = b := ⟨_, rfl⟩
  have HBAD : Hid (b1 = true → b2 = true → b3 = true → b4 = true → ¬ (os.length = cs.length ∧ ks.length = cs.length)) := Lib.hid (fun h1 h2 h3 h4 h5 => by
    rw [h1] at hb1; rw [h2] at hb2; rw [h3] at hb3; rw [h4] at hb4
    have g1 := of_decide_eq_true hb1
    have g2 := of_decide_eq_true hb2
    have g3 := of_decide_eq_true hb3
    have g4 := of_decide_eq_true hb4
    exact hbad (by omega))
  have H1 := Lib.hid hb1
  have H2 := Lib.hid hb2
  have H3 := Lib.hid hb3
  have H4 := Lib.hid hb4
  clear hb1 hb2 hb3 hb4 hbad
  go_enter Tryz.func25, Tryz.ntmps25
  go_wp2_with fail
  refine (kwithin_any _ _ _ _).mono ?_
  rintro e _ ⟨rfl, rfl⟩
  rw [H1.out]
  cases b1
  case false =>
    go_wp2
    go_ret3
    exact ⟨rfl, rfl⟩
  case true =>
  go_wp2_with fail
  refine (kwithin_any _ _ _ _).mono ?_
  rintro e _ ⟨rfl, rfl⟩
  rw [H2.out]
  cases b2
  case false =>
    go_wp2
    go_ret3
    exact ⟨rfl, rfl⟩
  case true =>
  have h2 := of_decide_eq_true H2.out
  obtain ⟨h21, h22⟩ := h2
  go_wp2_with fail
  refine (kwithin_any _ _ _ _).mono ?_
  rintro e _ ⟨rfl, rfl⟩
  rw [H3.out]
  cases b3
  case false =>
    go_wp2
    go_ret3
    exact ⟨rfl, rfl⟩
  case true =>
  go_wp2_with fail
  refine (kwithin_any _ _ _ _).mono ?_
  rintro e _ ⟨rfl, rfl⟩
  rw [H4.out]
  cases b4
  case false =>
    go_wp2
    go_ret3
    exact ⟨rfl, rfl⟩
  case true =>
  have hb := HBAD.out (by trivial) (by trivial) (by trivial) (by trivial)
  by_cases ho : os.length = cs.length
  case neg =>
    have h1 : ((os.length : Int) == (cs.length : Int)) = false := by simp; omega
    have h2 : ((os.length : Int) != (cs.length : Int)) = true := by simp; omega
    clear ho hb
    go_wp2
    go_ret3
    exact ⟨rfl, rfl⟩
  case pos =>
  have h1 : ((os.length : Int) == (cs.length : Int)) = true := by simp; omega
  have h2 : ((os.length : Int) != (cs.length : Int)) = false := by simp; omega
  have h3 : ((ks.length : Int) == (cs.length : Int)) = false := by simp; omega
  have h4 : ((ks.length : Int) != (cs.length : Int)) = true := by simp; omega
  clear ho hb
  go_wp2
  go_ret3
  exact ⟨rfl, rfl⟩
set_option maxRecDepth 100000 in
set_option maxHeartbeats 16000000 in
theorem kdraw_ok (CA : Option Addr) (cc : Nat) (cs : List (ByteArray × ByteArray)) (n i : Nat) (OA : Option Addr) (oc : Nat) (os : List Og) (KA : Option Addr) (kc : Nat) (ks : List Kw) (need : Nat) (w : World) (hf : DrFit w CA cs OA os KA ks) (h1 : 1 ≤ cs.length) (h7 : cs.length ≤ 7) (hn6 : n ≤ 600) (hin : i < n) (hn1 : 1 ≤ need) (hnc : need ≤ cs.length) (hol : os.length = cs.length) (hkl : ks.length = cs.length) (hT : Tabs w) :
    Calls Tryz.prog 25 #[.slice CA cs.length cc, .int .i64 n, .int .i64 i, .slice OA os.length oc, .slice KA ks.length kc, .int .i64 need] w fun e w' => ∃ v, e = .returned (.tuple #[.int .i64 (kall (krs cs n i os (ks.map (·.l)) need)).1, v, .int .i64 (kall (krs cs n i os (ks.map (·.l)) need)).2.2]) ∧ w'.ownsRow w.heap.size 3 1 v (kall (krs cs n i os (ks.map (·.l)) need)).2.1.length ((kall (krs cs n i os (ks.map (·.l)) need)).2.1.map (Value.int .i64)) ∧ Below w.heap.size w w' := by
  have HF : Hid (∀ W, Below w.heap.size w W → DrFit W CA cs OA os KA ks) := Lib.hid (fun W hW => hf.below hW)
  have HT : Hid (∀ W, Below w.heap.size w W → Tabs W) := Lib.hid (fun W hW => hT.below hW)
  obtain ⟨rs, hrs⟩ : ∃ rs, krs cs n i os (ks.map (·.l)) need = rs := ⟨_, rfl⟩
  have HRG : Hid (∀ (k : Nat) (c : ByteArray × ByteArray) (o : Og) (a : Kw), cs[k]? = some c → os[k]? = some o → ks[k]? = some a → rs[k]? = some (kone c n (cs.length : Int) i o a.l need)) := Lib.hid (fun k c o a hc ho ha => by
    rw [← hrs]; exact krs_get hc ho (by rw [List.getElem?_map, ha]; rfl))
  have HRL : Hid (rs.length = cs.length) := Lib.hid (by rw [← hrs]; exact krs_len hol (by rw [List.length_map]; exact hkl))
  rw [hrs]
  clear hrs
  obtain ⟨KA1, hKA1⟩ : ∃ x, kall rs = x := ⟨_, rfl⟩
  rw [hKA1]
  have HKE := Lib.hid hKA1
  have HSR : Hid (∀ k, 0 ≤ ksum rs k ∧ ksum rs k < 720) := Lib.hid (fun k => ksum_range rs k)
  have HWL : Hid (∀ k, (kwh rs k).length ≤ k) := Lib.hid (fun k => kwh_len rs k)
  obtain ⟨i0, hi0, hz0, hz1, hz2⟩ := info_parts info_int
  have HI := Lib.hid (And.intro hi0 (And.intro hz0 (And.intro hz1 hz2)))
  have HO0 : Hid (w.ownsRow w.heap.size 3 1 (.slice none 0 0) (kwh rs 0).length ((kwh rs 0).map (Value.int .i64))) := Lib.hid (World.ownsRow_nil _ _ _ _)
  have HS0 : Hid (ksum rs 0 = 0) := Lib.hid rfl
  have hw1 : wiB (cs.length : Int) 1 7 = true := decide_eq_true (by omega)
  have hw2 : wiB (n : Int) 1 600 = true := decide_eq_true (by omega)
  have hw3 : wiB (i : Int) 0 ((n : Int) - 1) = true := decide_eq_true (by omega)
  have hw4 : wiB (need : Int) 1 cs.length = true := decide_eq_true (by omega)
  have H1 := Lib.hid hw1
  have H2 := Lib.hid hw2
  have H3 := Lib.hid hw3
  have H4 := Lib.hid hw4
  have HOL := Lib.hid hol
  have HKL := Lib.hid hkl
  have hb1 : ((cs.length : Int) == (cs.length : Int)) = true := by simp
  have hb2 : ((cs.length : Int) != (cs.length : Int)) = false := by simp
  clear hf hT hi0 hz0 hz1 hz2 hw1 hw2 hw3 hw4 hKA1
  rw [hol, hkl]
  clear hol hkl
  go_enter Tryz.func25, Tryz.ntmps25
  go_wp2_with fail
  refine (kwithin_any _ _ _ _).mono ?_
  rintro e _ ⟨rfl, rfl⟩
  rw [H1.out]
  go_wp2_with fail
  refine (kwithin_any _ _ _ _).mono ?_
  rintro e _ ⟨rfl, rfl⟩
  rw [H2.out]
  go_wp2_with fail
  refine (kwithin_any _ _ _ _).mono ?_
  rintro e _ ⟨rfl, rfl⟩
  rw [H3.out]
  go_wp2_with fail
  refine (kwithin_any _ _ _ _).mono ?_
  rintro e _ ⟨rfl, rfl⟩
  rw [H4.out]
  go_wp2_with fail
  go_loopw [15, 16, 17, 18, 19, 20, 60] (fun u15 u16 _ _ _ _ u60 wr => ∃ k : Nat, k ≤ cs.length ∧ u60 = .int .i64 k ∧ Below w.heap.size w wr ∧ u15 = .int .i64 (ksum rs k) ∧ wr.ownsRow w.heap.size 3 1 u16 (kwh rs k).length ((kwh rs k).map (Value.int .i64)) ∧ (∀ (j : Nat) (r : Int × Int × Bool), j < k → rs[j]? = some r → r.2.1 = 0)) (fun _ _ _ _ _ _ u60 _ => cs.length - (intOf u60).toNat)
  case atStart => exact ⟨0, Nat.zero_le _, rfl, Below.refl _ _, rfl, HO0.out, fun j r hj => by omega⟩
  case round =>
  obtain ⟨k, hk, rfl, hb, rfl, ho, her⟩ := hrel
  have HBk := Lib.hid hb
  have HOk := Lib.hid ho
  have HER := Lib.hid her
  obtain ⟨hsr0, hsr1⟩ := HSR.out k
  have hwl := HWL.out k
  clear hb ho her
  by_cases hlt : k < cs.length
  case neg =>
    obtain rfl : k = cs.length := by omega
    have hke : KA1 = (ksum rs cs.length, kwh rs cs.length, 0) := by
      rw [← HKE.out, kall_ok (fun j r hj => HER.out j r (by have := (List.getElem?_eq_some_iff.1 hj).1; rw [HRL.out] at this; exact this) hj), HRL.out]
    have HE := Lib.hid hke
    clear hke
    go_wp2
    go_ret3
    rw [HE.out]
    exact ⟨_, rfl, HOk.out, HBk.out⟩
  case pos =>
  have hfit := HF.out wr HBk.out
  obtain ⟨c, hc⟩ := get_some cs k hlt
  obtain ⟨o, hoo⟩ := get_some os k (by rw [HOL.out]; exact hlt)
  obtain ⟨a, ha⟩ := get_some ks k (by rw [HKL.out]; exact hlt)
  have hrk := HRG.out k c o a hc hoo ha
  have hof := hfit.og o (List.mem_of_getElem? hoo)
  have haf := hfit.kw a (List.mem_of_getElem? ha)
  have hkr := kone_range c n (cs.length : Int) i o a.l need
  have hoix := hof.ix
  have hov := hof.v
  unfold i64ok at hoix hov
  obtain ⟨bO, oO, hOe, o0, o1, o2, o3⟩ := og_cells hfit.o hoo
  have ol_ := lt_of_cell o0
  have HCC : Hid (∀ W, Below w.heap.size w W → ∃ b off, CA = some ⟨b, off, none⟩ ∧ W.cell? ⟨b, off + k * 2, none⟩ = some (.string c.1) ∧ W.cell? ⟨b, off + k * 2 + 1, none⟩ = some (.string c.2) ∧ b < W.heap.size) := Lib.hid (fun W hW => by
    obtain ⟨b, off, he, c0, c1⟩ := cm_cells (HF.out W hW).c hc
    exact ⟨b, off, he, c0, c1, lt_of_cell c0⟩)
  have HKW : Hid (∀ W, Below w.heap.size w W → ∃ b off, KA = some ⟨b, off, none⟩ ∧ W.cell? ⟨b, off + k, none⟩ = some (.slice a.A a.l.length a.c) ∧ b < W.heap.size) := Lib.hid (fun W hW => by
    obtain ⟨b, off, he, c0⟩ := kw_cells (HF.out W hW).k ha
    exact ⟨b, off, he, c0, lt_of_cell c0⟩)
  obtain ⟨bC, oC, hCe, -, -, -⟩ := HCC.out w (Below.refl _ _)
  obtain ⟨bK, oK, hKe, -, -⟩ := HKW.out w (Below.refl _ _)
  have HRK := Lib.hid hrk
  have HOF : Hid (∀ W, Below w.heap.size w W → OgFit W o) := Lib.hid (fun W hW => (HF.out W hW).og o (List.mem_of_getElem? hoo))
  have HAF : Hid (∀ W, Below w.heap.size w W → KwFit W a) := Lib.hid (fun W hW => (HF.out W hW).kw a (List.mem_of_getElem? ha))
  subst hOe hCe hKe
  clear hfit hc hoo ha hrk hof haf
  obtain ⟨wa, hwa⟩ : ∃ wa, wr.alloc (.cells #[.int .i64 o.ix, .int .i64 o.v, .string o.salt, .slice o.A o.p.length o.c] 32) = wa := ⟨_, rfl⟩
  have HBa : Hid (Below w.heap.size w wa) := Lib.hid (by rw [← hwa]; exact below_alloc HBk.out _)
  have HOa := Lib.hid (HOk.out.alloc (.cells #[.int .i64 o.ix, .int .i64 o.v, .string o.salt, .slice o.A o.p.length o.c] 32))
  rw [hwa] at HOa
  have HOC : Hid (∀ W, Below wa.heap.size wa W → W.cell? ⟨wr.heap.size, 0, none⟩ = some (.int .i64 o.ix) ∧ W.cell? ⟨wr.heap.size, 1, none⟩ = some (.int .i64 o.v) ∧ W.cell? ⟨wr.heap.size, 2, none⟩ = some (.string o.salt) ∧ W.cell? ⟨wr.heap.size, 3, none⟩ = some (.slice o.A o.p.length o.c) ∧ wr.heap.size < W.heap.size) := Lib.hid (fun W hW => by
    have h1 : Blk wa wr.heap.size 32 #[.int .i64 o.ix, .int .i64 o.v, .string o.salt, .slice o.A o.p.length o.c] := by rw [← hwa]; exact Blk.new _ _ _ _ rfl
    have h0 := kept_cell hW (h1.of_cell (i := 0) rfl)
    exact ⟨h0, kept_cell hW (h1.of_cell (i := 1) rfl), kept_cell hW (h1.of_cell (i := 2) rfl), kept_cell hW (h1.of_cell (i := 3) rfl), lt_of_cell h0⟩)
  have HCK : Hid (∀ W, Below wa.heap.size wa W → Calls Tryz.prog 27 #[.agg #[.string c.1, .string c.2], .int .i64 n, .agg #[.int .i64 o.ix, .int .i64 o.v, .string o.salt, .slice o.A o.p.length o.c]] W fun e w' => e = .returned (.bool (ckB c.1 n o.ix o.v o.salt o.p)) ∧ Below wa.heap.size wa w') := Lib.hid (fun W hW => by
    have hW2 := below_trans HBa.out hW
    exact (kcheck_any c n o W (HOF.out W hW2) ⟨by omega, by omega⟩ (HT.out W hW2)).mono fun _ _ ⟨he, hb⟩ => ⟨he, below_trans hW hb⟩)
  have HJN : Hid (∀ W, Below w.heap.size w W → Calls Tryz.prog 62 #[.agg #[.string c.1, .string c.2], .int .i64 n, .int .i64 cs.length, .int .i64 i, .slice a.A a.l.length a.c, .int .i64 need] W fun e w' => e = .returned (.tuple #[.int .i64 (kjn c.2 n (cs.length : Int) i a.l need).1, .int .i64 (kjn c.2 n (cs.length : Int) i a.l need).2]) ∧ Below W.heap.size W w') := Lib.hid (fun W hW => kjoin_any c n cs.length i a need W (HAF.out W hW) hn6 (by omega) hin ⟨by omega, by omega⟩ (HT.out W hW))
  have HWA := Lib.hid hwa
  clear hwa
  obtain ⟨ck, hck⟩ : ∃ b, ckB c.1 n o.ix o.v o.salt o.p = b := ⟨_, rfl⟩
  rw [hck] at HCK
  have HKO1 : Hid (o.ix = (i : Int) → ck = true → kone c n (cs.length : Int) i o a.l need = (o.v, 0, false)) := Lib.hid (fun h1 h2 => by unfold kone; rw [if_pos ⟨h1, by rw [hck]; exact h2⟩])
  have HKO2 : Hid (¬ (o.ix = (i : Int) ∧ ck = true) → kone c n (cs.length : Int) i o a.l need = ((kjn c.2 n (cs.length : Int) i a.l need).1, (kjn c.2 n (cs.length : Int) i a.l need).2, true)) := Lib.hid (fun h => by unfold kone; rw [if_neg (by rw [hck]; exact h)])
  clear hck
  generalize kone c n (cs.length : Int) i o a.l need = KO at *
  generalize kjn c.2 n (cs.length : Int) i a.l need = KN at *
  go_wp2_with fail
  have hwa := HWA.out
  rw [hwa]
  clear hwa o0 o1 o2 o3 ol_
  by_cases c1 : o.ix = (i : Int)
  case neg =>
    have c1' : ¬ o.ix = (i : Int) := c1
    have d1 : (o.ix == (i : Int)) = false := by simpa using c1
    have d2 : (o.ix != (i : Int)) = true := by simpa using c1
    clear c1
    refine wp_region_belowC (by kernel_rfl) (by kernel_rfl) (fun WQ HQS HQN => ?_)
    refine HQS.go (fun K hK => ?_)
    go_simp
    apply Exists.intro
    refine ⟨fun W hW => ?_, hK _ ?_⟩
    · (try go_simp)
      exact rfl
    clear hK K
    refine HQS.go (fun K hK => ?_)
    go_simp
    apply Exists.intro
    refine ⟨fun W hW => ?_, hK _ ?_⟩
    · obtain ⟨z0, z1, z2, z3, zl⟩ := HOC.out W hW
      go_simp
      exact rfl
    clear hK K
    refine HQS.go (fun K hK => ?_)
    go_simp
    apply Exists.intro
    refine ⟨fun W hW => ?_, hK _ ?_⟩
    · (try go_simp)
      exact rfl
    clear hK K
    refine HQS.go (fun K hK => ?_)
    go_simp
    apply Exists.intro
    refine ⟨fun W hW => ?_, hK _ ?_⟩
    · (try go_simp)
      exact rfl
    clear hK K
    refine HQS.go (fun K hK => ?_)
    go_simp
    apply Exists.intro
    refine ⟨fun W hW => ?_, hK _ ?_⟩
    · (try go_simp)
      exact rfl
    clear hK K
    refine HQS.go (fun K hK => ?_)
    go_simp
    refine hK _ ?_
    clear hK K
    refine HQS.go (fun K hK => ?_)
    go_simp
    refine hK _ ?_
    clear hK K
    refine HQS.go (fun K hK => ?_)
    go_simp
    refine hK _ ?_
    clear hK K
    refine HQS.go (fun K hK => ?_)
    go_simp
    refine hK _ ?_
    clear hK K
    refine HQS.go (fun K hK => ?_)
    go_simp
    refine hK _ ?_
    clear hK K
    refine HQS.go (fun K hK => ?_)
    go_simp
    refine hK _ ?_
    clear hK K
    refine HQS.go (fun K hK => ?_)
    go_simp
    refine hK _ ?_
    clear hK K
    refine HQS.go (fun K hK => ?_)
    go_simp
    refine hK _ ?_
    clear hK K
    refine HQS.go (fun K hK => ?_)
    go_simp
    apply Exists.intro
    refine ⟨fun W hW => ?_, hK _ ?_⟩
    · (try go_simp)
      exact rfl
    clear hK K
    refine HQN.go ?_
    intro wb hb
    have HBb := Lib.hid (below_trans HBa.out hb)
    have HOb := Lib.hid (row_below HOa.out hb)
    clear hb
    have hk2 := HKO2.out (by first | exact fun h => absurd h.1 c1' | exact fun h => absurd h.2 (by simp))
    have HK2 := Lib.hid hk2
    clear hk2
    go_wp2_with fail
    refine wp_region_belowC (by kernel_rfl) (by kernel_rfl) (fun WQ HQS HQN => ?_)
    refine HQS.go (fun K hK => ?_)
    go_simp
    apply Exists.intro
    refine ⟨fun W hW => ?_, hK _ ?_⟩
    · (try go_simp)
      exact rfl
    clear hK K
    refine HQS.go (fun K hK => ?_)
    go_simp
    apply Exists.intro
    refine ⟨fun W hW => ?_, hK _ ?_⟩
    · (try go_simp)
      exact rfl
    clear hK K
    refine HQS.go (fun K hK => ?_)
    go_simp
    apply Exists.intro
    refine ⟨fun W hW => ?_, hK _ ?_⟩
    · (try go_simp)
      exact rfl
    clear hK K
    refine HQS.go (fun K hK => ?_)
    go_simp
    apply Exists.intro
    refine ⟨fun W hW => ?_, hK _ ?_⟩
    · obtain ⟨b_, f_, he_, y0, y1, yl⟩ := HCC.out W (below_trans HBb.out hW)
      cases he_
      go_simp
      exact rfl
    clear hK K
    refine HQS.go (fun K hK => ?_)
    go_simp
    apply Exists.intro
    refine ⟨fun W hW => ?_, hK _ ?_⟩
    · (try go_simp)
      exact rfl
    clear hK K
    refine HQS.go (fun K hK => ?_)
    go_simp
    apply Exists.intro
    refine ⟨fun W hW => ?_, hK _ ?_⟩
    · (try go_simp)
      exact rfl
    clear hK K
    refine HQS.go (fun K hK => ?_)
    go_simp
    apply Exists.intro
    refine ⟨fun W hW => ?_, hK _ ?_⟩
    · (try go_simp)
      exact rfl
    clear hK K
    refine HQS.go (fun K hK => ?_)
    go_simp
    apply Exists.intro
    refine ⟨fun W hW => ?_, hK _ ?_⟩
    · (try go_simp)
      exact rfl
    clear hK K
    refine HQS.go (fun K hK => ?_)
    go_simp
    apply Exists.intro
    refine ⟨fun W hW => ?_, hK _ ?_⟩
    · (try go_simp)
      exact rfl
    clear hK K
    refine HQS.go (fun K hK => ?_)
    go_simp
    apply Exists.intro
    refine ⟨fun W hW => ?_, hK _ ?_⟩
    · (try go_simp)
      exact rfl
    clear hK K
    refine HQS.go (fun K hK => ?_)
    go_simp
    apply Exists.intro
    refine ⟨fun W hW => ?_, hK _ ?_⟩
    · (try go_simp)
      exact rfl
    clear hK K
    refine HQS.go (fun K hK => ?_)
    go_simp
    apply Exists.intro
    refine ⟨fun W hW => ?_, hK _ ?_⟩
    · obtain ⟨b_, f_, he_, y0, yl⟩ := HKW.out W (below_trans HBb.out hW)
      cases he_
      go_simp
      exact rfl
    clear hK K
    refine HQS.go (fun K hK => ?_)
    go_simp
    apply Exists.intro
    refine ⟨fun W hW => ?_, hK _ ?_⟩
    · (try go_simp)
      exact rfl
    clear hK K
    refine HQS.go (fun K hK => ?_)
    go_simp
    apply Exists.intro
    refine ⟨fun W hW => ?_, hK _ ?_⟩
    · exact (HJN.out W (below_trans HBb.out hW)).mono fun _ _ ⟨he, hb⟩ => ⟨he, below_trans hW hb⟩
    clear hK K
    refine HQS.go (fun K hK => ?_)
    go_simp
    apply Exists.intro
    refine ⟨fun W hW => ?_, hK _ ?_⟩
    · (try go_simp)
      exact rfl
    clear hK K
    refine HQS.go (fun K hK => ?_)
    go_simp
    apply Exists.intro
    refine ⟨fun W hW => ?_, hK _ ?_⟩
    · (try go_simp)
      exact rfl
    clear hK K
    refine HQS.go (fun K hK => ?_)
    go_simp
    apply Exists.intro
    refine ⟨fun W hW => ?_, hK _ ?_⟩
    · (try go_simp)
      exact rfl
    clear hK K
    refine HQS.go (fun K hK => ?_)
    go_simp
    apply Exists.intro
    refine ⟨fun W hW => ?_, hK _ ?_⟩
    · (try go_simp)
      exact rfl
    clear hK K
    refine HQS.go (fun K hK => ?_)
    go_simp
    apply Exists.intro
    refine ⟨fun W hW => ?_, hK _ ?_⟩
    · (try go_simp)
      exact rfl
    clear hK K
    refine HQN.go ?_
    intro wc hb
    have HBc := Lib.hid (below_trans HBb.out hb)
    have HOc := Lib.hid (row_below HOb.out hb)
    clear hb
    obtain ⟨x, er⟩ := KN
    simp only at HK2
    have hr2 := HRK.out
    rw [HK2.out] at hr2 hkr
    have HR2 := Lib.hid hr2
    obtain ⟨hx0, hx1⟩ := hkr
    simp only at hx0 hx1
    clear hr2
    by_cases he0 : er = 0
    case neg =>
      have hke : KA1 = (0, [], er) := by rw [← HKE.out]; exact kall_err HER.out HR2.out he0
      have HE := Lib.hid hke
      have hb3 : (er == 0) = false := by simpa using he0
      have hb4 : (er != 0) = true := by simpa using he0
      clear hke
      go_wp2
      go_ret3
      rw [HE.out]
      exact ⟨_, rfl, World.ownsRow_nil _ _ _ _, HBc.out⟩
    case pos =>
    subst he0
    have hks := ksum_succ HR2.out
    have hkw := kwh_succ HR2.out
    rw [if_pos rfl] at hkw
    have HKS := Lib.hid hks
    have HKW2 := Lib.hid hkw
    have hsz := HBc.out.size
    clear hks hkw
    generalize ksum rs k = sk at *
    generalize hwk : kwh rs k = wk at *
    go_wp2_with (at_builtin; refine wpList_app _ rfl (.tmp 101) (.tmp 103) 23 23 rfl w.heap.size 3 3 i0 _ 1 8 Tryz.underlying23 Tryz.underlying23 HI.out.1 HI.out.2.1 HI.out.2.2.1 HI.out.2.2.2 rfl (by omega) _ wk.length _ rfl (HOc.out.alloc _) _ 1 1 [.int .i64 k] rfl (Rd_new wc #[.int .i64 k] _ 1 1 _ rfl rfl) (by simp [Value.oneCell']) (by simp only [maxLen]; omega) (by omega) (by simp; omega) ?_)
    intro v1 wd hownd hgd
    have e5 : wk.map (Value.int .i64) ++ [.int .i64 (k : Int)] = (kwh rs (k + 1)).map (Value.int .i64) := by rw [HKW2.out, List.map_append]; rfl
    have e6 : wk.length + 1 = (kwh rs (k + 1)).length := by rw [HKW2.out]; simp
    rw [e5, e6] at hownd
    have HBd : Hid (Below w.heap.size w wd) := Lib.hid ((below_alloc HBc.out _).grown hgd (by simp; omega) (fun j hj => (HOc.out.lt j hj).1))
    have HOd := Lib.hid hownd
    clear hownd hgd e5 e6 hwk
    go_wp2
    go_roundw
    case rel =>
      refine ⟨k + 1, by omega, by go_num, HBd.out, by rw [HKS.out], HOd.out, fun j r hj hr => ?_⟩
      by_cases hjk : j < k
      · exact HER.out j r hjk hr
      · obtain rfl : j = k := by omega
        rw [HR2.out] at hr
        rw [← Option.some.inj hr]
    case measure => simp [intOf]; omega
  case pos =>
  have d1 : (o.ix == (i : Int)) = true := by simpa using c1
  have d2 : (o.ix != (i : Int)) = false := by simpa using c1
  have HC1 := Lib.hid c1
  clear c1
  refine wp_region_belowC (by kernel_rfl) (by kernel_rfl) (fun WQ HQS HQN => ?_)
  refine HQS.go (fun K hK => ?_)
  go_simp
  apply Exists.intro
  refine ⟨fun W hW => ?_, hK _ ?_⟩
  · (try go_simp)
    exact rfl
  clear hK K
  refine HQS.go (fun K hK => ?_)
  go_simp
  apply Exists.intro
  refine ⟨fun W hW => ?_, hK _ ?_⟩
  · obtain ⟨z0, z1, z2, z3, zl⟩ := HOC.out W hW
    go_simp
    exact rfl
  clear hK K
  refine HQS.go (fun K hK => ?_)
  go_simp
  apply Exists.intro
  refine ⟨fun W hW => ?_, hK _ ?_⟩
  · (try go_simp)
    exact rfl
  clear hK K
  refine HQS.go (fun K hK => ?_)
  go_simp
  apply Exists.intro
  refine ⟨fun W hW => ?_, hK _ ?_⟩
  · (try go_simp)
    exact rfl
  clear hK K
  refine HQS.go (fun K hK => ?_)
  go_simp
  apply Exists.intro
  refine ⟨fun W hW => ?_, hK _ ?_⟩
  · (try go_simp)
    exact rfl
  clear hK K
  refine HQS.go (fun K hK => ?_)
  go_simp
  apply Exists.intro
  refine ⟨fun W hW => ?_, hK _ ?_⟩
  · (try go_simp)
    exact rfl
  clear hK K
  refine HQS.go (fun K hK => ?_)
  go_simp
  apply Exists.intro
  refine ⟨fun W hW => ?_, hK _ ?_⟩
  · (try go_simp)
    exact rfl
  clear hK K
  refine HQS.go (fun K hK => ?_)
  go_simp
  apply Exists.intro
  refine ⟨fun W hW => ?_, hK _ ?_⟩
  · (try go_simp)
    exact rfl
  clear hK K
  refine HQS.go (fun K hK => ?_)
  go_simp
  apply Exists.intro
  refine ⟨fun W hW => ?_, hK _ ?_⟩
  · obtain ⟨b_, f_, he_, y0, y1, yl⟩ := HCC.out W (below_trans HBa.out hW)
    cases he_
    go_simp
    exact rfl
  clear hK K
  refine HQS.go (fun K hK => ?_)
  go_simp
  apply Exists.intro
  refine ⟨fun W hW => ?_, hK _ ?_⟩
  · (try go_simp)
    exact rfl
  clear hK K
  refine HQS.go (fun K hK => ?_)
  go_simp
  apply Exists.intro
  refine ⟨fun W hW => ?_, hK _ ?_⟩
  · obtain ⟨z0, z1, z2, z3, zl⟩ := HOC.out W hW
    go_simp
    exact rfl
  clear hK K
  refine HQS.go (fun K hK => ?_)
  go_simp
  apply Exists.intro
  refine ⟨fun W hW => ?_, hK _ ?_⟩
  · exact HCK.out W hW
  clear hK K
  refine HQS.go (fun K hK => ?_)
  go_simp
  apply Exists.intro
  refine ⟨fun W hW => ?_, hK _ ?_⟩
  · (try go_simp)
    exact rfl
  clear hK K
  refine HQS.go (fun K hK => ?_)
  go_simp
  apply Exists.intro
  refine ⟨fun W hW => ?_, hK _ ?_⟩
  · (try go_simp)
    exact rfl
  clear hK K
  refine HQN.go ?_
  intro wb hb
  have HBb := Lib.hid (below_trans HBa.out hb)
  have HOb := Lib.hid (row_below HOa.out hb)
  clear hb
  cases ck
  case false =>
    have hk2 := HKO2.out (by first | exact fun h => absurd h.1 c1' | exact fun h => absurd h.2 (by simp))
    have HK2 := Lib.hid hk2
    clear hk2
    go_wp2_with fail
    refine wp_region_belowC (by kernel_rfl) (by kernel_rfl) (fun WQ HQS HQN => ?_)
    refine HQS.go (fun K hK => ?_)
    go_simp
    apply Exists.intro
    refine ⟨fun W hW => ?_, hK _ ?_⟩
    · (try go_simp)
      exact rfl
    clear hK K
    refine HQS.go (fun K hK => ?_)
    go_simp
    apply Exists.intro
    refine ⟨fun W hW => ?_, hK _ ?_⟩
    · (try go_simp)
      exact rfl
    clear hK K
    refine HQS.go (fun K hK => ?_)
    go_simp
    apply Exists.intro
    refine ⟨fun W hW => ?_, hK _ ?_⟩
    · (try go_simp)
      exact rfl
    clear hK K
    refine HQS.go (fun K hK => ?_)
    go_simp
    apply Exists.intro
    refine ⟨fun W hW => ?_, hK _ ?_⟩
    · obtain ⟨b_, f_, he_, y0, y1, yl⟩ := HCC.out W (below_trans HBb.out hW)
      cases he_
      go_simp
      exact rfl
    clear hK K
    refine HQS.go (fun K hK => ?_)
    go_simp
    apply Exists.intro
    refine ⟨fun W hW => ?_, hK _ ?_⟩
    · (try go_simp)
      exact rfl
    clear hK K
    refine HQS.go (fun K hK => ?_)
    go_simp
    apply Exists.intro
    refine ⟨fun W hW => ?_, hK _ ?_⟩
    · (try go_simp)
      exact rfl
    clear hK K
    refine HQS.go (fun K hK => ?_)
    go_simp
    apply Exists.intro
    refine ⟨fun W hW => ?_, hK _ ?_⟩
    · (try go_simp)
      exact rfl
    clear hK K
    refine HQS.go (fun K hK => ?_)
    go_simp
    apply Exists.intro
    refine ⟨fun W hW => ?_, hK _ ?_⟩
    · (try go_simp)
      exact rfl
    clear hK K
    refine HQS.go (fun K hK => ?_)
    go_simp
    apply Exists.intro
    refine ⟨fun W hW => ?_, hK _ ?_⟩
    · (try go_simp)
      exact rfl
    clear hK K
    refine HQS.go (fun K hK => ?_)
    go_simp
    apply Exists.intro
    refine ⟨fun W hW => ?_, hK _ ?_⟩
    · (try go_simp)
      exact rfl
    clear hK K
    refine HQS.go (fun K hK => ?_)
    go_simp
    apply Exists.intro
    refine ⟨fun W hW => ?_, hK _ ?_⟩
    · (try go_simp)
      exact rfl
    clear hK K
    refine HQS.go (fun K hK => ?_)
    go_simp
    apply Exists.intro
    refine ⟨fun W hW => ?_, hK _ ?_⟩
    · obtain ⟨b_, f_, he_, y0, yl⟩ := HKW.out W (below_trans HBb.out hW)
      cases he_
      go_simp
      exact rfl
    clear hK K
    refine HQS.go (fun K hK => ?_)
    go_simp
    apply Exists.intro
    refine ⟨fun W hW => ?_, hK _ ?_⟩
    · (try go_simp)
      exact rfl
    clear hK K
    refine HQS.go (fun K hK => ?_)
    go_simp
    apply Exists.intro
    refine ⟨fun W hW => ?_, hK _ ?_⟩
    · exact (HJN.out W (below_trans HBb.out hW)).mono fun _ _ ⟨he, hb⟩ => ⟨he, below_trans hW hb⟩
    clear hK K
    refine HQS.go (fun K hK => ?_)
    go_simp
    apply Exists.intro
    refine ⟨fun W hW => ?_, hK _ ?_⟩
    · (try go_simp)
      exact rfl
    clear hK K
    refine HQS.go (fun K hK => ?_)
    go_simp
    apply Exists.intro
    refine ⟨fun W hW => ?_, hK _ ?_⟩
    · (try go_simp)
      exact rfl
    clear hK K
    refine HQS.go (fun K hK => ?_)
    go_simp
    apply Exists.intro
    refine ⟨fun W hW => ?_, hK _ ?_⟩
    · (try go_simp)
      exact rfl
    clear hK K
    refine HQS.go (fun K hK => ?_)
    go_simp
    apply Exists.intro
    refine ⟨fun W hW => ?_, hK _ ?_⟩
    · (try go_simp)
      exact rfl
    clear hK K
    refine HQS.go (fun K hK => ?_)
    go_simp
    apply Exists.intro
    refine ⟨fun W hW => ?_, hK _ ?_⟩
    · (try go_simp)
      exact rfl
    clear hK K
    refine HQN.go ?_
    intro wc hb
    have HBc := Lib.hid (below_trans HBb.out hb)
    have HOc := Lib.hid (row_below HOb.out hb)
    clear hb
    obtain ⟨x, er⟩ := KN
    simp only at HK2
    have hr2 := HRK.out
    rw [HK2.out] at hr2 hkr
    have HR2 := Lib.hid hr2
    obtain ⟨hx0, hx1⟩ := hkr
    simp only at hx0 hx1
    clear hr2
    by_cases he0 : er = 0
    case neg =>
      have hke : KA1 = (0, [], er) := by rw [← HKE.out]; exact kall_err HER.out HR2.out he0
      have HE := Lib.hid hke
      have hb3 : (er == 0) = false := by simpa using he0
      have hb4 : (er != 0) = true := by simpa using he0
      clear hke
      go_wp2
      go_ret3
      rw [HE.out]
      exact ⟨_, rfl, World.ownsRow_nil _ _ _ _, HBc.out⟩
    case pos =>
    subst he0
    have hks := ksum_succ HR2.out
    have hkw := kwh_succ HR2.out
    rw [if_pos rfl] at hkw
    have HKS := Lib.hid hks
    have HKW2 := Lib.hid hkw
    have hsz := HBc.out.size
    clear hks hkw
    generalize ksum rs k = sk at *
    generalize hwk : kwh rs k = wk at *
    go_wp2_with (at_builtin; refine wpList_app _ rfl (.tmp 101) (.tmp 103) 23 23 rfl w.heap.size 3 3 i0 _ 1 8 Tryz.underlying23 Tryz.underlying23 HI.out.1 HI.out.2.1 HI.out.2.2.1 HI.out.2.2.2 rfl (by omega) _ wk.length _ rfl (HOc.out.alloc _) _ 1 1 [.int .i64 k] rfl (Rd_new wc #[.int .i64 k] _ 1 1 _ rfl rfl) (by simp [Value.oneCell']) (by simp only [maxLen]; omega) (by omega) (by simp; omega) ?_)
    intro v1 wd hownd hgd
    have e5 : wk.map (Value.int .i64) ++ [.int .i64 (k : Int)] = (kwh rs (k + 1)).map (Value.int .i64) := by rw [HKW2.out, List.map_append]; rfl
    have e6 : wk.length + 1 = (kwh rs (k + 1)).length := by rw [HKW2.out]; simp
    rw [e5, e6] at hownd
    have HBd : Hid (Below w.heap.size w wd) := Lib.hid ((below_alloc HBc.out _).grown hgd (by simp; omega) (fun j hj => (HOc.out.lt j hj).1))
    have HOd := Lib.hid hownd
    clear hownd hgd e5 e6 hwk
    go_wp2
    go_roundw
    case rel =>
      refine ⟨k + 1, by omega, by go_num, HBd.out, by rw [HKS.out], HOd.out, fun j r hj hr => ?_⟩
      by_cases hjk : j < k
      · exact HER.out j r hjk hr
      · obtain rfl : j = k := by omega
        rw [HR2.out] at hr
        rw [← Option.some.inj hr]
    case measure => simp [intOf]; omega
  case true =>
  have hk1 := HKO1.out HC1.out rfl
  have hr2 := HRK.out
  rw [hk1] at hr2 hkr
  have HR2 := Lib.hid hr2
  obtain ⟨hx0, hx1⟩ := hkr
  simp only at hx0 hx1
  have hks := ksum_succ HR2.out
  have hkw := kwh_succ HR2.out
  rw [if_neg (by simp), List.append_nil] at hkw
  have HKS := Lib.hid hks
  have HKW2 := Lib.hid hkw
  clear hks hkw hr2 hk1
  generalize ksum rs k = sk at *
  generalize kwh rs k = wk at *
  go_wp2
  go_roundw
  case rel =>
    refine ⟨k + 1, by omega, by go_num, HBb.out, by rw [HKS.out], by rw [HKW2.out]; exact HOb.out, fun j r hj hr => ?_⟩
    by_cases hjk : j < k
    · exact HER.out j r hjk hr
    · obtain rfl : j = k := by omega
      rw [HR2.out] at hr
      rw [← Option.some.inj hr]
  case measure => simp [intOf]; omega
end

end Go.Proofs.YtjfondfjdhjooaaGreatDoor
