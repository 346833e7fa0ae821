/- Layer 2: pop, next, done; Check. -/
import Derived.Test.YtbefcipeojahfaaGreatDoorTreeP02
import Derived.StillTailTactics
namespace Go.Proofs.YtbefcipeojahfaaGreatDoor
open Go.RowKit

theorem Strs.chg {w w' : World} {A : Option Addr} {l : List ByteArray} {F : List Nat} (h : Strs w A l) (hc : Chg F w w') (hF : ∀ a, A = some a → a.block ∉ F) : Strs w' A l := by
  refine ⟨h.1, fun hn => ?_⟩
  obtain ⟨b, off, e, hv⟩ := h.2 hn
  exact ⟨b, off, e, fun j u hu => hc.cell (hF _ e) (hv j u hu)⟩

set_option maxRecDepth 100000 in
set_option maxHeartbeats 4000000 in
theorem pop_any (Db : Nat) (A : Option Addr) (c : Nat) (p : List ByteArray) (w : World) (hD : Blk w Db 64 #[.slice A p.length c]) (hS : Strs w A p) (hc : p.length ≤ c) (hbig : p.length ≤ 1000000) :
    Calls Tryz.prog 86 #[.pointer (some ⟨Db, 0, none⟩)] w fun e w' => e = .returned (.string (p.getLastD ByteArray.empty)) ∧ Chg [Db] w w' ∧ Blk w' Db 64 #[.slice A p.dropLast.length c] := by
  have c0 := hD.cell 0
  have f0 := hD.frozen 0
  have hl := hD.lt
  simp only [List.getElem?_toArray, List.getElem?_cons_zero] at c0
  have HD := Lib.hid hD
  clear hD
  by_cases h0 : p.length = 0
  · obtain rfl : p = [] := List.eq_nil_of_length_eq_zero h0
    simp only [List.length_nil] at c0
    go_enter Tryz.func86, Tryz.ntmps86
    go_wp2
    go_ret
    exact ⟨rfl, Chg.refl _ _, HD.out⟩
  · obtain ⟨k, hk⟩ : ∃ k, p.length = k + 1 := ⟨p.length - 1, by omega⟩
    obtain ⟨x, hx⟩ := get_some p k (by omega)
    obtain ⟨b, off, rfl, c1⟩ := hS.at_ hx
    have c1l := lt_of_cell c1
    have hlast : p.getLastD ByteArray.empty = x := by
      rw [List.getLastD_eq_getLast?, List.getLast?_eq_getElem?, hk]
      simp only [Nat.add_sub_cancel, hx, Option.getD_some]
    have hdl : p.dropLast.length = k := by rw [List.length_dropLast, hk]; rfl
    rw [hlast, hdl]
    rw [hk] at c0 hc hbig HD
    have hwr : IntKind.i64.wrap (((k + 1 : Nat) : Int) - 1) = (k : Int) := by rw [IntWalk.i64_in _ (by omega)]; omega
    generalize hK : k + 1 = K at *
    have hkK : k < K := by omega
    have hkc : (k : Int) ≤ (c : Int) := by omega
    have hkk : (k : Int) ≤ (K : Int) := by omega
    have hK0 : ((K : Int) == 0) = false := by simp; omega
    have HKK := Lib.hid hK
    clear hlast hdl hk hS hx h0 hK
    go_enter Tryz.func86, Tryz.ntmps86
    go_wp2_with fail
    refine wp_region_still_lit (by kernel_rfl) (by kernel_rfl) ?_
    repeat still_step
    refine wpStill_nil ?_
    change Exit.then _ _ Exit.normal _ (World.drew w)
    go_wp2_with fail
    refine wp_region_still_tail 11 (by kernel_rfl) (by kernel_rfl) ?_
    simp only [List.take_succ_cons, List.take_zero, List.drop_succ_cons, List.drop_zero]
    change wpStill _ _ (World.drew _) _ _ _
    repeat still_step
    refine wpStill_nil ?_
    change wpList _ _ _ _ _ (World.drew _)
    go_wp2
    go_ret
    have h1 := HD.out.set 0 (.slice (some ⟨b, off, none⟩) k c)
    simp at h1
    exact ⟨rfl, ((Chg.refl [Db] w).setCell (p := ⟨Db, 0, none⟩) (.inl (by simp)) _).drew.drew, h1⟩

/-- What is left of a proof: the blocks of its list and of itself. -/
structure PrS (w : World) (Db Pb : Nat) (p : List ByteArray) (short : Bool) : Prop where
  ex : ∃ A c, Blk w Db 64 #[.slice A p.length c] ∧ Strs w A p ∧ p.length ≤ c ∧ (∀ a, A = some a → a.block ∉ [Db, Pb])
  pr : Blk w Pb 75 #[.pointer (some ⟨Db, 0, none⟩), .bool short]
  ne : Db ≠ Pb
  few : p.length ≤ 1000000
  all : allD p = true

theorem PrS.chg {w w' : World} {Db Pb : Nat} {p : List ByteArray} {short : Bool} (h : PrS w Db Pb p short) (hc : Below w.heap.size w w') : PrS w' Db Pb p short := by
  obtain ⟨A, c, h1, h2, h3, h4⟩ := h.ex
  have hc0 := Chg.of_below hc []
  exact ⟨⟨A, c, h1.chg hc0 (by simp), h2.below hc, h3, h4⟩, h.pr.chg hc0 (by simp), h.ne, h.few, h.all⟩

theorem toList_isEmpty (t : ByteArray) (h : ¬ t.size = 0) : t.toList.isEmpty = false := by
  rw [ByteArray.toList_eq]
  cases hl : t.data.toList with
  | nil =>
    exfalso
    apply h
    have := congrArg List.length hl
    simpa using this
  | cons _ _ => rfl

set_option maxRecDepth 100000 in
set_option maxHeartbeats 4000000 in
theorem next_any (Db Pb : Nat) (p : List ByteArray) (short : Bool) (w : World) (h : PrS w Db Pb p short) :
    Calls Tryz.prog 63 #[.pointer (some ⟨Pb, 0, none⟩)] w fun e w' => e = .returned (.string (p.getLastD ByteArray.empty)) ∧ Chg [Db, Pb] w w' ∧ PrS w' Db Pb p.dropLast (short || p.isEmpty) := by
  obtain ⟨A, c, hD, hS, hc, hA⟩ := h.ex
  have hP := h.pr
  have c0 := hP.cell 0
  have c1 := hP.cell 1
  simp only [List.getElem?_toArray, List.getElem?_cons_zero, List.getElem?_cons_succ] at c0 c1
  have hl := hP.lt
  have HPOP := Lib.hid (pop_any Db A c p w hD hS hc h.few)
  have HH := Lib.hid h
  have HD := Lib.hid hD
  have HS := Lib.hid hS
  have HC := Lib.hid hc
  have HA := Lib.hid hA
  have hsh : p.isEmpty = false → ¬ (p.getLastD ByteArray.empty).size = 0 := fun he => by
    have hne : p ≠ [] := by intro e; rw [e] at he; cases he
    have hm : p.getLastD ByteArray.empty ∈ p := by
      rw [List.getLastD_eq_getLast?, List.getLast?_eq_some_getLast hne]
      exact List.getLast_mem hne
    have := h.all
    simp only [allD, List.all_eq_true] at this
    rw [isD_16 (this _ hm)]; decide
  have hse : p.isEmpty = true → p.getLastD ByteArray.empty = ByteArray.empty := fun he => by
    rw [List.isEmpty_iff.1 he]; rfl
  have HSH := Lib.hid hsh
  have HSE := Lib.hid hse
  clear h hD hS hc hA hP hsh hse
  have fin : ∀ w1 w2 : World, Chg [Db] w w1 → Blk w1 Db 64 #[.slice A p.dropLast.length c] → w2 = w1.setCell ⟨Pb, 1, none⟩ (.bool (short || p.isEmpty)) → Chg [Db, Pb] w w2 ∧ PrS w2 Db Pb p.dropLast (short || p.isEmpty) := by
    rintro w1 w2 h1 h2 rfl
    have hne := HH.out.ne
    have k1 : Chg [Db, Pb] w w1 := (Chg.refl [Db, Pb] w).trans h1 (fun j hj => .inl (by rw [List.mem_singleton] at hj; simp [hj]))
    have k2 := k1.setCell (p := ⟨Pb, 1, none⟩) (.inl (by simp)) (.bool (short || p.isEmpty))
    have k3 := (HH.out.pr.chg h1 (by simpa using Ne.symm hne)).set 1 (.bool (short || p.isEmpty))
    simp at k3
    refine ⟨k2, ⟨A, c, h2.far (p := ⟨Pb, 1, none⟩) hne _, ?_, ?_, HA.out⟩, k3, hne, ?_, ?_⟩
    · have := (HS.out.chg k2 HA.out).take (p.length - 1)
      rw [← List.dropLast_eq_take] at this
      exact this
    · have := HC.out; rw [List.length_dropLast]; omega
    · have := HH.out.few; rw [List.length_dropLast]; omega
    · rw [List.dropLast_eq_take]; exact allD_take HH.out.all _
  have HFIN := Lib.hid fin
  clear fin
  have hPD : Pb ∉ [Db] := by simpa using Ne.symm HH.out.ne
  obtain ⟨x, hx⟩ : ∃ x, p.getLastD ByteArray.empty = x := ⟨_, rfl⟩
  rw [hx] at HPOP HSH HSE ⊢
  clear hx
  generalize p.isEmpty = v at HFIN HSH HSE ⊢
  go_enter Tryz.func63, Tryz.ntmps63
  go_wp2_with fail
  refine HPOP.out.mono ?_
  rintro e w1 ⟨rfl, hc1, hd1⟩
  have hP1 := HH.out.pr.chg hc1 hPD
  have c0' := hP1.cell 0
  have c1' := hP1.cell 1
  simp only [List.getElem?_toArray, List.getElem?_cons_zero, List.getElem?_cons_succ] at c0' c1'
  have f1' := hP1.frozen 1
  have hl' := hP1.lt
  have HF := Lib.hid (HFIN.out w1 _ hc1 hd1 rfl)
  clear hc1 hd1 hP1 c0 c1 hl
  cases short with
  | true =>
    simp only [Bool.true_or] at HF ⊢
    go_wp2
    go_ret
    exact ⟨rfl, HF.out.1, HF.out.2⟩
  | false =>
    simp only [Bool.false_or] at HF ⊢
    cases v with
    | true =>
      have hx := HSE.out rfl
      subst hx
      go_wp2
      go_ret
      exact ⟨rfl, HF.out.1, HF.out.2⟩
    | false =>
      have hx := toList_isEmpty x (HSH.out rfl)
      go_wp2
      go_ret
      exact ⟨rfl, HF.out.1, HF.out.2⟩

set_option maxHeartbeats 4000000 in
theorem done_any (Db Pb : Nat) (p : List ByteArray) (short : Bool) (w : World) (h : PrS w Db Pb p short) :
    Calls Tryz.prog 65 #[.pointer (some ⟨Pb, 0, none⟩)] w fun e w' => e = .returned (.bool (!short && decide (p.length = 0))) ∧ w = w' := by
  obtain ⟨A, c, hD, -, -, -⟩ := h.ex
  have hP := h.pr
  have c0 := hP.cell 0
  have c1 := hP.cell 1
  have d0 := hD.cell 0
  simp only [List.getElem?_toArray, List.getElem?_cons_zero, List.getElem?_cons_succ] at c0 c1 d0
  have hl := hP.lt
  have hl2 := hD.lt
  clear h hD hP
  cases short
  all_goals
    go_enter Tryz.func65, Tryz.ntmps65
    go_wp2
    go_ret
    refine ⟨ret_bool ?_, rfl⟩
    by_cases h0 : p.length = 0 <;> simp [h0]
    try omega

end Go.Proofs.YtbefcipeojahfaaGreatDoor
