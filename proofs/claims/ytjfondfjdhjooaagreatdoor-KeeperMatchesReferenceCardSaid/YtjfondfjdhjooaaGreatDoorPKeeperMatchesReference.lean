/- The statement KeeperMatchesReference of observatory: for every input the law returns true, and each argument reads as it read. No condition is added. -/
import Derived.Test.YtjfondfjdhjooaaGreatDoorRows
import Derived.WalkKit
import Derived.ProofKit
import Derived.OpenShut
import Derived.ShutString
import Derived.ChangeOld
import Derived.Below
import Derived.LaidMore
import Derived.Lay
import Derived.SevenTiedAt
import Derived.Stop.Joined
import Derived.Test.YtjfondfjdhjooaaGreatDoorCards
import Derived.Test.YtjfondfjdhjooaaGreatDoorTie
import Derived.Test.YtjfondfjdhjooaaGreatDoorChKeeperMatchesReferenceA
namespace Go.Proofs.YtjfondfjdhjooaaGreatDoor.keeperMatchesReference
open Go.ChangeShapes Go.WideShapes Go.ChangeAt Go.RowKit
set_option linter.unusedVariables false

theorem own : ownKnob Tryz.prog.godebug = none := by kernel_rfl
theorem laidOut : laidOutB Tryz.prog = true := by kernel_rfl

set_option maxRecDepth 100000 in
theorem lifted (os : Os) (started : os.Started) (H : Type) (enc : TypeId × Value → H) :
    ReturnsInHanded {} Tryz.checked os 4 .any (fun w args => (Rows.keeperMatchesReferenceSpec.pre enc Tryz.prog Tryz.f4 Rows.keeperMatchesReferenceRow.domain false w args ∧ laidMetH Tryz.prog Rows.keeperMatchesReferenceRow.laid w) ∧ sizedMet enc Tryz.prog Tryz.f4 (OpenSpec.ofChange Rows.keeperMatchesReferenceSpec) false w args)
      (Rows.keeperMatchesReferenceSpec.post enc Tryz.prog Tryz.f4 false true false false) := by
  refine returnsInHanded_of_change_and (C := Tryz.checked) (X := fun w _ => laidMetH Tryz.prog Rows.keeperMatchesReferenceRow.laid w) (fun _ _ _ hh h => h.of_heap hh) own started (by kernel_rfl) Tryz.func4
    (ChangeSpec.witness_shaped (enc := enc) (C := Tryz.checked) (os := os) (X := fun w _ => laidMetH Tryz.prog Rows.keeperMatchesReferenceRow.laid w) false (World.laidAll Tryz.prog os Rows.keeperMatchesReferenceRow.laid) #[.slice none 0 0, .string ⟨#[]⟩, .int .i64 0, .int .i64 0, .slice none 0 0, .int .i64 0, .int .i64 0] 12 (World.laidAll_os _ _ _)
      (World.shaped_of_ZipB (by kernel_rfl) (by kernel_rfl)) (by kernel_rfl) (by kernel_rfl) (by kernel_rfl)
      (by rw [MakeChecks.laidMetH_plain _ _ _ (by kernel_rfl)]; exact laidMet_laidAll _ (by kernel_rfl) (by kernel_rfl))) ?_
  intro W base args ds gs before hval0 hW hc _ hL _
  have hT : Tabs W := tabs_of hL (by kernel_rfl) (by simp [Rows.keeperMatchesReferenceRow]) (by simp [Rows.keeperMatchesReferenceRow])
  have hval : ∀ (j : Nat) t v, Tryz.f4.params[j]? = some t → args[j]? = some v → Value.okWide Tryz.prog W .any base t v := hval0
  have hW' := hW
  obtain ⟨p, q, hA0, hV, rfl, hfz, hnd⟩ := hW
  have hA : DataW.TrodAll enc Tryz.prog W 0 (fun _ => true) true Tryz.f4.params.toList args.toList ds p := hA0
  rw [Tryz.params4] at hA hval
  obtain ⟨v0, vs0, d0, ds0, p0, q0, hargs, rfl, rfl, h0, r0_⟩ := trodAll_cons hA
  obtain ⟨v1, vs1, d1, ds1, p1, q1, rfl, rfl, rfl, h1, r1_⟩ := trodAll_cons r0_
  obtain ⟨v2, vs2, d2, ds2, p2, q2, rfl, rfl, rfl, h2, r2_⟩ := trodAll_cons r1_
  obtain ⟨v3, vs3, d3, ds3, p3, q3, rfl, rfl, rfl, h3, r3_⟩ := trodAll_cons r2_
  obtain ⟨v4, vs4, d4, ds4, p4, q4, rfl, rfl, rfl, h4, r4_⟩ := trodAll_cons r3_
  obtain ⟨v5, vs5, d5, ds5, p5, q5, rfl, rfl, rfl, h5, r5_⟩ := trodAll_cons r4_
  obtain ⟨v6, vs6, d6, ds6, p6, q6, rfl, rfl, rfl, h6, r6_⟩ := trodAll_cons r5_
  obtain ⟨rfl, rfl, rfl⟩ := trodAll_nil r6_
  obtain rfl : args = #[v0, v1, v2, v3, v4, v5, v6] := by cases args; simp_all
  obtain ⟨rfl, rfl⟩ := trodVars_none hV
  have k0 := h0
  have lt0 : ∀ x ∈ p0, x.block < W.heap.size := by obtain ⟨m, hm⟩ := k0; exact DataW.trod_lt m _ _ _ hm
  obtain ⟨a0, r0⟩ := Opn.arg (Opn.slice Tryz.underlying23 (m := 1) (by kernel_rfl) (by decide) (Opn.int Tryz.underlying3)) h0
  obtain ⟨A0, c0, rfl, hl0, hc0, r0⟩ := SlC.val Tryz.underlying23 (hval 0 23 v0 rfl rfl) r0
  have k1 := h1
  have lt1 : ∀ x ∈ p1, x.block < W.heap.size := by obtain ⟨m, hm⟩ := k1; exact DataW.trod_lt m _ _ _ hm
  obtain ⟨a1, r1⟩ := Opn.arg (Opn.str Tryz.underlying9) h1
  obtain ⟨rfl, w1⟩ := StrC.val Tryz.underlying9 (hval 1 9 v1 rfl rfl) r1
  have k2 := h2
  have lt2 : ∀ x ∈ p2, x.block < W.heap.size := by obtain ⟨m, hm⟩ := k2; exact DataW.trod_lt m _ _ _ hm
  obtain ⟨a2, r2⟩ := Opn.arg (Opn.int Tryz.underlying3) h2
  obtain ⟨rfl, w2⟩ := IntC.val Tryz.underlying3 (hval 2 3 v2 rfl rfl) r2
  have k3 := h3
  have lt3 : ∀ x ∈ p3, x.block < W.heap.size := by obtain ⟨m, hm⟩ := k3; exact DataW.trod_lt m _ _ _ hm
  obtain ⟨a3, r3⟩ := Opn.arg (Opn.int Tryz.underlying3) h3
  obtain ⟨rfl, w3⟩ := IntC.val Tryz.underlying3 (hval 3 3 v3 rfl rfl) r3
  have k4 := h4
  have lt4 : ∀ x ∈ p4, x.block < W.heap.size := by obtain ⟨m, hm⟩ := k4; exact DataW.trod_lt m _ _ _ hm
  obtain ⟨a4, r4⟩ := Opn.arg (Opn.slice Tryz.underlying23 (m := 1) (by kernel_rfl) (by decide) (Opn.int Tryz.underlying3)) h4
  obtain ⟨A4, c4, rfl, hl4, hc4, r4⟩ := SlC.val Tryz.underlying23 (hval 4 23 v4 rfl rfl) r4
  have k5 := h5
  have lt5 : ∀ x ∈ p5, x.block < W.heap.size := by obtain ⟨m, hm⟩ := k5; exact DataW.trod_lt m _ _ _ hm
  obtain ⟨a5, r5⟩ := Opn.arg (Opn.int Tryz.underlying3) h5
  obtain ⟨rfl, w5⟩ := IntC.val Tryz.underlying3 (hval 5 3 v5 rfl rfl) r5
  have k6 := h6
  have lt6 : ∀ x ∈ p6, x.block < W.heap.size := by obtain ⟨m, hm⟩ := k6; exact DataW.trod_lt m _ _ _ hm
  obtain ⟨a6, r6⟩ := Opn.arg (Opn.int Tryz.underlying3) h6
  obtain ⟨rfl, w6⟩ := IntC.val Tryz.underlying3 (hval 6 3 v6 rfl rfl) r6
  clear hA0 hval0
  obtain ⟨hA0, h0'⟩ := ints_in r0
  obtain ⟨hA4, h4'⟩ := ints_in r4
  unfold maxLen at hc0 hc4 w1
  refine (kmr_walk A0 c0 a0 a1 a2 a3 A4 c4 a4 a5 a6 W hT hA0 hA4 h0' w1 hl4 hc4).mono fun e W' ⟨he, bel⟩ => ?_
  subst he
  exact ⟨_, rfl, _, _, _, [], _, [], hW', trodAll_mk1 (shut_bool Tryz.underlying4 _), (trodAll_cons_mk (Below.trod laidOut (by kernel_rfl) (of_decide_eq_true (by kernel_rfl)) k0 bel lt0) (trodAll_cons_mk (Below.trod laidOut (by kernel_rfl) (of_decide_eq_true (by kernel_rfl)) k1 bel lt1) (trodAll_cons_mk (Below.trod laidOut (by kernel_rfl) (of_decide_eq_true (by kernel_rfl)) k2 bel lt2) (trodAll_cons_mk (Below.trod laidOut (by kernel_rfl) (of_decide_eq_true (by kernel_rfl)) k3 bel lt3) (trodAll_cons_mk (Below.trod laidOut (by kernel_rfl) (of_decide_eq_true (by kernel_rfl)) k4 bel lt4) (trodAll_cons_mk (Below.trod laidOut (by kernel_rfl) (of_decide_eq_true (by kernel_rfl)) k5 bel lt5) (trodAll_cons_mk (Below.trod laidOut (by kernel_rfl) (of_decide_eq_true (by kernel_rfl)) k6 bel lt6) trodAll_mk0))))))), rfl, bel.frame _, fun h => by cases h⟩

theorem over : Rows.KeeperMatchesReferenceSaid :=
  OpenClaim.holds_of_wide 4 Tryz.f4 rfl rfl rfl rfl rfl rfl rfl ⟨rfl, rfl, rfl, rfl, rfl⟩ rfl rfl rfl rfl rfl (by kernel_rfl) Tryz.func4 (by kernel_rfl)
    (of_decide_eq_true (by kernel_rfl)) (by unfold Func.isWrapper; first | (rw [if_pos (by decide +kernel)]; kernel_rfl) | (rw [if_neg (by decide +kernel)]; exact ⟨rfl, rfl⟩))
    (fun os started H enc _ => lifted os started H enc)

/-- THE STATEMENT: the card, tied to the program's text -/
theorem proved : Rows.KeeperMatchesReferenceCardSaid :=
  Claim7.holds_tied_plain_at .later [] [.data, .data, .data, .data, .pinned] true (true, "7d5b07ff9c47827cbdd67b5415ecb89c662a1d193f84d34a7310c90a06c0b304") false over (fun _ h => by cases h) (by kernel_rfl) (fun _ h => by cases h) keeperMatchesReference_row_tie rfl ⟨rfl, rfl⟩ (by kernel_rfl) rfl
    (fun f fn hf hfn => by
      obtain rfl : f = 4 := Option.some.inj ((show Tryz.prog.funcNamed Rows.keeperMatchesReferenceRow.func = some 4 by kernel_rfl).symm.trans hf) |>.symm
      obtain rfl : fn = Tryz.f4 := (Option.some.inj (Tryz.func4.symm.trans hfn)).symm
      exact ⟨by kernel_rfl, fun j t ht => by
        rw [Tryz.params4] at ht
        have hm : t ∈ [23, 9, 3, 3, 23, 3, 3] := by simpa using Array.mem_of_getElem? ht
        have hall : ([23, 9, 3, 3, 23, 3, 3].all fun u => !Tryz.prog.wantsStandIn u) = true := by kernel_rfl
        exact (show Tryz.prog.wantsStandIn t = false by simpa using List.all_eq_true.1 hall t hm)⟩)
    (by kernel_rfl)
end Go.Proofs.YtjfondfjdhjooaaGreatDoor.keeperMatchesReference
