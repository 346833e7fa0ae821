/- The statement TopHonest of observatory: for every input the law returns true, and each argument reads as it read. No condition is added. -/
import Derived.Test.YtjfondfjdhjooaaGreatDoorRows
import Derived.WalkKit
import Derived.ProofKit
import Derived.OpenShut
import Derived.ShutString
import Derived.ChangeOld
import Derived.Below
import Derived.LaidMore
import Derived.Lay
import Derived.SevenTiedAt
import Derived.Stop.Joined
import Derived.Test.YtjfondfjdhjooaaGreatDoorCards
import Derived.Test.YtjfondfjdhjooaaGreatDoorTie
import Derived.Test.YtjfondfjdhjooaaGreatDoorChTopHonestE
namespace Go.Proofs.YtjfondfjdhjooaaGreatDoor.topHonest
open Go.ChangeShapes Go.WideShapes Go.ChangeAt Go.RowKit
set_option linter.unusedVariables false

theorem own : ownKnob Tryz.prog.godebug = none := by kernel_rfl
theorem laidOut : laidOutB Tryz.prog = true := by kernel_rfl

set_option maxRecDepth 100000 in
theorem lifted (os : Os) (started : os.Started) (H : Type) (enc : TypeId × Value → H) :
    ReturnsInHanded {} Tryz.checked os 3 .any (fun w args => (Rows.topHonestSpec.pre enc Tryz.prog Tryz.f3 Rows.topHonestRow.domain false w args ∧ laidMetH Tryz.prog Rows.topHonestRow.laid w) ∧ sizedMet enc Tryz.prog Tryz.f3 (OpenSpec.ofChange Rows.topHonestSpec) false w args)
      (Rows.topHonestSpec.post enc Tryz.prog Tryz.f3 false true false false) := by
  refine returnsInHanded_of_change_and (C := Tryz.checked) (X := fun w _ => laidMetH Tryz.prog Rows.topHonestRow.laid w) (fun _ _ _ hh h => h.of_heap hh) own started (by kernel_rfl) Tryz.func3
    (ChangeSpec.witness_shaped (enc := enc) (C := Tryz.checked) (os := os) (X := fun w _ => laidMetH Tryz.prog Rows.topHonestRow.laid w) false (World.laidAll Tryz.prog os Rows.topHonestRow.laid) #[.slice none 0 0, .int .i64 0, .int .i64 0, .int .u8 0, .int .u8 0, .slice none 0 0, .slice none 0 0, .slice none 0 0] 12 (World.laidAll_os _ _ _)
      (World.shaped_of_ZipB (by kernel_rfl) (by kernel_rfl)) (by kernel_rfl) (by kernel_rfl) (by kernel_rfl)
      (by rw [MakeChecks.laidMetH_plain _ _ _ (by kernel_rfl)]; exact laidMet_laidAll _ (by kernel_rfl) (by kernel_rfl))) ?_
  intro W base args ds gs before hval0 hW hc _ hL _
  have hT : Tabs W := tabs_of hL (by kernel_rfl) (by simp [Rows.topHonestRow]) (by simp [Rows.topHonestRow])
  have hval : ∀ (j : Nat) t v, Tryz.f3.params[j]? = some t → args[j]? = some v → Value.okWide Tryz.prog W .any base t v := hval0
  have hW' := hW
  obtain ⟨p, q, hA0, hV, rfl, hfz, hnd⟩ := hW
  have hA : DataW.TrodAll enc Tryz.prog W 0 (fun _ => true) true Tryz.f3.params.toList args.toList ds p := hA0
  rw [Tryz.params3] at hA hval
  obtain ⟨v0, vs0, d0, ds0, p0, q0, hargs, rfl, rfl, h0, r0_⟩ := trodAll_cons hA
  obtain ⟨v1, vs1, d1, ds1, p1, q1, rfl, rfl, rfl, h1, r1_⟩ := trodAll_cons r0_
  obtain ⟨v2, vs2, d2, ds2, p2, q2, rfl, rfl, rfl, h2, r2_⟩ := trodAll_cons r1_
  obtain ⟨v3, vs3, d3, ds3, p3, q3, rfl, rfl, rfl, h3, r3_⟩ := trodAll_cons r2_
  obtain ⟨v4, vs4, d4, ds4, p4, q4, rfl, rfl, rfl, h4, r4_⟩ := trodAll_cons r3_
  obtain ⟨v5, vs5, d5, ds5, p5, q5, rfl, rfl, rfl, h5, r5_⟩ := trodAll_cons r4_
  obtain ⟨v6, vs6, d6, ds6, p6, q6, rfl, rfl, rfl, h6, r6_⟩ := trodAll_cons r5_
  obtain ⟨v7, vs7, d7, ds7, p7, q7, rfl, rfl, rfl, h7, r7_⟩ := trodAll_cons r6_
  obtain ⟨rfl, rfl, rfl⟩ := trodAll_nil r7_
  obtain rfl : args = #[v0, v1, v2, v3, v4, v5, v6, v7] := by cases args; simp_all
  obtain ⟨rfl, rfl⟩ := trodVars_none hV
  have k0 := h0
  have lt0 : ∀ x ∈ p0, x.block < W.heap.size := by obtain ⟨m, hm⟩ := k0; exact DataW.trod_lt m _ _ _ hm
  obtain ⟨a0, r0⟩ := Opn.arg (Opn.slice Tryz.underlying22 (m := 3) (by kernel_rfl) (by decide) (opn_kr W)) h0
  obtain ⟨A0, c0, rfl, hl0, hc0, r0⟩ := SlC.val Tryz.underlying22 (hval 0 22 v0 rfl rfl) r0
  have k1 := h1
  have lt1 : ∀ x ∈ p1, x.block < W.heap.size := by obtain ⟨m, hm⟩ := k1; exact DataW.trod_lt m _ _ _ hm
  obtain ⟨a1, r1⟩ := Opn.arg (Opn.int Tryz.underlying3) h1
  obtain ⟨rfl, w1⟩ := IntC.val Tryz.underlying3 (hval 1 3 v1 rfl rfl) r1
  have k2 := h2
  have lt2 : ∀ x ∈ p2, x.block < W.heap.size := by obtain ⟨m, hm⟩ := k2; exact DataW.trod_lt m _ _ _ hm
  obtain ⟨a2, r2⟩ := Opn.arg (Opn.int Tryz.underlying3) h2
  obtain ⟨rfl, w2⟩ := IntC.val Tryz.underlying3 (hval 2 3 v2 rfl rfl) r2
  have k3 := h3
  have lt3 : ∀ x ∈ p3, x.block < W.heap.size := by obtain ⟨m, hm⟩ := k3; exact DataW.trod_lt m _ _ _ hm
  obtain ⟨a3, r3⟩ := Opn.arg (Opn.int Tryz.underlying5) h3
  obtain ⟨rfl, w3⟩ := IntC.val Tryz.underlying5 (hval 3 5 v3 rfl rfl) r3
  obtain ⟨a3, rfl⟩ := wf_u8_ w3
  have k4 := h4
  have lt4 : ∀ x ∈ p4, x.block < W.heap.size := by obtain ⟨m, hm⟩ := k4; exact DataW.trod_lt m _ _ _ hm
  obtain ⟨a4, r4⟩ := Opn.arg (Opn.int Tryz.underlying5) h4
  obtain ⟨rfl, w4⟩ := IntC.val Tryz.underlying5 (hval 4 5 v4 rfl rfl) r4
  obtain ⟨a4, rfl⟩ := wf_u8_ w4
  have k5 := h5
  have lt5 : ∀ x ∈ p5, x.block < W.heap.size := by obtain ⟨m, hm⟩ := k5; exact DataW.trod_lt m _ _ _ hm
  obtain ⟨a5, r5⟩ := Opn.arg (Opn.slice Tryz.underlying23 (m := 1) (by kernel_rfl) (by decide) (Opn.int Tryz.underlying3)) h5
  obtain ⟨A5, c5, rfl, hl5, hc5, r5⟩ := SlC.val Tryz.underlying23 (hval 5 23 v5 rfl rfl) r5
  have k6 := h6
  have lt6 : ∀ x ∈ p6, x.block < W.heap.size := by obtain ⟨m, hm⟩ := k6; exact DataW.trod_lt m _ _ _ hm
  obtain ⟨a6, r6⟩ := Opn.arg (Opn.slice Tryz.underlying23 (m := 1) (by kernel_rfl) (by decide) (Opn.int Tryz.underlying3)) h6
  obtain ⟨A6, c6, rfl, hl6, hc6, r6⟩ := SlC.val Tryz.underlying23 (hval 6 23 v6 rfl rfl) r6
  have k7 := h7
  have lt7 : ∀ x ∈ p7, x.block < W.heap.size := by obtain ⟨m, hm⟩ := k7; exact DataW.trod_lt m _ _ _ hm
  obtain ⟨a7, r7⟩ := Opn.arg (Opn.slice Tryz.underlying23 (m := 1) (by kernel_rfl) (by decide) (Opn.int Tryz.underlying3)) h7
  obtain ⟨A7, c7, rfl, hl7, hc7, r7⟩ := SlC.val Tryz.underlying23 (hval 7 23 v7 rfl rfl) r7
  clear hA0 hval0
  obtain ⟨hA0, h0a, h0b, h0c⟩ := row_in krC_len (fun cs a (hR : KrC W cs a) => hR.1) r0
  obtain ⟨hA5, h5'⟩ := ints_in r5
  obtain ⟨hA6, h6'⟩ := ints_in r6
  obtain ⟨hA7, h7'⟩ := ints_in r7
  refine (hon_walk A0 c0 a0 a1 a2 a3.toNat a4.toNat A5 A6 A7 c5 c6 c7 a5 a6 a7 W hT hA0 (fun kr hk => by obtain ⟨_, h⟩ := h0c kr hk; exact h.2) hl0 h0b a3.toNat_lt a4.toNat_lt hA5 hA6 hA7 (by unfold maxLen at hc5; omega) (by unfold maxLen at hc6; omega) (by unfold maxLen at hc7; omega)).mono fun e W' ⟨he, bel⟩ => ?_
  subst he
  exact ⟨_, rfl, _, _, _, [], _, [], hW', trodAll_mk1 (shut_bool Tryz.underlying4 _), (trodAll_cons_mk (Below.trod laidOut (by kernel_rfl) (of_decide_eq_true (by kernel_rfl)) k0 bel lt0) (trodAll_cons_mk (Below.trod laidOut (by kernel_rfl) (of_decide_eq_true (by kernel_rfl)) k1 bel lt1) (trodAll_cons_mk (Below.trod laidOut (by kernel_rfl) (of_decide_eq_true (by kernel_rfl)) k2 bel lt2) (trodAll_cons_mk (Below.trod laidOut (by kernel_rfl) (of_decide_eq_true (by kernel_rfl)) k3 bel lt3) (trodAll_cons_mk (Below.trod laidOut (by kernel_rfl) (of_decide_eq_true (by kernel_rfl)) k4 bel lt4) (trodAll_cons_mk (Below.trod laidOut (by kernel_rfl) (of_decide_eq_true (by kernel_rfl)) k5 bel lt5) (trodAll_cons_mk (Below.trod laidOut (by kernel_rfl) (of_decide_eq_true (by kernel_rfl)) k6 bel lt6) (trodAll_cons_mk (Below.trod laidOut (by kernel_rfl) (of_decide_eq_true (by kernel_rfl)) k7 bel lt7) trodAll_mk0)))))))), rfl, bel.frame _, fun h => by cases h⟩

theorem over : Rows.TopHonestSaid :=
  OpenClaim.holds_of_wide 3 Tryz.f3 rfl rfl rfl rfl rfl rfl rfl ⟨rfl, rfl, rfl, rfl, rfl⟩ rfl rfl rfl rfl rfl (by kernel_rfl) Tryz.func3 (by kernel_rfl)
    (of_decide_eq_true (by kernel_rfl)) (by unfold Func.isWrapper; first | (rw [if_pos (by decide +kernel)]; kernel_rfl) | (rw [if_neg (by decide +kernel)]; exact ⟨rfl, rfl⟩))
    (fun os started H enc _ => lifted os started H enc)

/-- THE STATEMENT: the card, tied to the program's text -/
theorem proved : Rows.TopHonestCardSaid :=
  Claim7.holds_tied_plain_at .later [] [.data, .data, .data, .data, .pinned] true (true, "7d5b07ff9c47827cbdd67b5415ecb89c662a1d193f84d34a7310c90a06c0b304") false over (fun _ h => by cases h) (by kernel_rfl) (fun _ h => by cases h) topHonest_row_tie rfl ⟨rfl, rfl⟩ (by kernel_rfl) rfl
    (fun f fn hf hfn => by
      obtain rfl : f = 3 := Option.some.inj ((show Tryz.prog.funcNamed Rows.topHonestRow.func = some 3 by kernel_rfl).symm.trans hf) |>.symm
      obtain rfl : fn = Tryz.f3 := (Option.some.inj (Tryz.func3.symm.trans hfn)).symm
      exact ⟨by kernel_rfl, fun j t ht => by
        rw [Tryz.params3] at ht
        have hm : t ∈ [22, 3, 3, 5, 5, 23, 23, 23] := by simpa using Array.mem_of_getElem? ht
        have hall : ([22, 3, 3, 5, 5, 23, 23, 23].all fun u => !Tryz.prog.wantsStandIn u) = true := by kernel_rfl
        exact (show Tryz.prog.wantsStandIn t = false by simpa using List.all_eq_true.1 hall t hm)⟩)
    (by kernel_rfl)
end Go.Proofs.YtjfondfjdhjooaaGreatDoor.topHonest
