/- TopHonest: w11Open. TopHonest, plain: a draw in which some keepers are closed and all shares are kept; another seed of one keeper. lottery: within, list, Winner; apportion: the test of Share, slices.Max. apportion: before, best. slices.Max; apportion.Share. -/
import Derived.Test.YtjfondfjdhjooaaGreatDoorCbG
import Derived.StillTailTactics
import Derived.Deep.RegionHeld3
namespace Go.Proofs.YtjfondfjdhjooaaGreatDoor
set_option linter.unusedVariables false
set_option linter.unusedSimpArgs false

section
open Go.RowKit

/-- What w11Open returns. -/
def W11Post (kr : Kr) (need i : Int) (m : Nat) (w : World) (e : Ending) (w' : World) : Prop := Below w.heap.size w w' ∧
  ∃ (cm : ByteArray × ByteArray) (o : Og) (KA : Option Addr) (kn kc : Nat), e = .returned (.tuple #[.agg #[.string cm.1, .string cm.2], .agg #[.int .i64 o.ix, .int .i64 o.v, .string o.salt, .slice o.A o.p.length o.c], .slice KA kn kc, .bool (okK m need i kr)]) ∧
    (okK m need i kr = true → cm = cmK m need kr ∧ (∃ A c, o = ogOf kr i.toNat A c) ∧ PathIn w' o.A o.p ∧ o.p.length ≤ o.c ∧ kn = m ∧ ∃ ls, KwT w' ⟨KA, kc, ls⟩ ∧ KpsOk kr need.toNat m i.toNat m ls)
set_option maxRecDepth 100000 in
set_option maxHeartbeats 32000000 in
theorem w11open_any (kr : Kr) (need i : Int) (m : Nat) (w : World) (h : KrIn w kr) (hm1 : 1 ≤ m) (hm7 : m ≤ 7) (hT : Tabs w) :
    Calls Tryz.prog 12 #[.agg #[.slice kr.SA kr.seeds.length kr.sc, .string kr.salt, .slice kr.RA kr.random.length kr.rc], .int .i64 need, .int .i64 m, .int .i64 i] w (W11Post kr need i m w) := by
  have HIN : Hid (∀ W, Below w.heap.size w W → KrIn W kr) := Lib.hid (fun W hW => h.below hW)
  have HT : Hid (∀ W, Below w.heap.size w W → Tabs W) := Lib.hid (fun W hW => hT.below hW)
  have HCM : Hid (∀ W, Below w.heap.size w W → _) := Lib.hid (fun W hW => by
    have h := HIN.out W hW
    exact kcommit_any kr.SA kr.sc kr.seeds kr.salt need m kr.RA kr.rc kr.random W h.s h.r h.sl h.salt h.rc h.rcm (HT.out W hW))
  have HOP : Hid (∀ W, Below w.heap.size w W → _) := Lib.hid (fun W hW => kopen_gen kr i W (HIN.out W hW) (HT.out W hW))
  obtain ⟨w0, hw0⟩ : ∃ w0, ((w.alloc (.cells #[.slice kr.SA kr.seeds.length kr.sc, .string kr.salt, .slice kr.RA kr.random.length kr.rc] 27)).alloc (.cells #[.string ⟨#[]⟩, .string ⟨#[]⟩] 29)).alloc (.cells #[.int .i64 0, .int .i64 0, .string ⟨#[]⟩, .slice none 0 0] 32) = w0 := ⟨_, rfl⟩
  have HB0 : Hid (Below w.heap.size w w0) := Lib.hid (by rw [← hw0]; exact below_alloc (below_alloc (below_alloc (Below.refl _ _) _) _) _)
  have HZ0 : Hid (w0.heap.size = w.heap.size + 3) := Lib.hid (by rw [← hw0]; simp)
  have HK0 : Hid (Blk w0 w.heap.size 27 #[.slice kr.SA kr.seeds.length kr.sc, .string kr.salt, .slice kr.RA kr.random.length kr.rc] ∧ Blk w0 (w.heap.size + 1) 29 #[.string ⟨#[]⟩, .string ⟨#[]⟩] ∧ Blk w0 (w.heap.size + 1 + 1) 32 #[.int .i64 0, .int .i64 0, .string ⟨#[]⟩, .slice none 0 0]) := Lib.hid (by
    rw [← hw0]
    exact ⟨((Blk.new w _ _ _ rfl).alloc _).alloc _, (Blk.new _ _ _ _ (by simp)).alloc _, Blk.new _ _ _ _ (by simp)⟩)
  have HKX : Hid (∀ W, Below w0.heap.size w0 W → Blk W w.heap.size 27 #[.slice kr.SA kr.seeds.length kr.sc, .string kr.salt, .slice kr.RA kr.random.length kr.rc]) := Lib.hid (fun W hW => (hW.block _ HK0.out.1.lt).trans HK0.out.1)
  have HW0 := Lib.hid hw0
  obtain ⟨ik, hik, hy0, hy1, hy2⟩ := info_parts info_kp
  have HIK := Lib.hid (And.intro hik (And.intro hy0 (And.intro hy1 hy2)))
  have HE1 : Hid (cmR kr.seeds kr.salt need m kr.random = cmK m need kr) := Lib.hid rfl
  rw [HE1.out] at HCM
  obtain ⟨okv, hokv⟩ : ∃ b, okK m need i kr = b := ⟨_, rfl⟩
  obtain ⟨b1, hb1⟩ : ∃ b, dvB kr.seeds kr.salt need m kr.random = b := ⟨_, rfl⟩
  obtain ⟨b2, hb2⟩ : ∃ b, (sdOk kr.seeds kr.salt && wiB i 0 ((kr.seeds.length : Int) - 1)) = b := ⟨_, rfl⟩
  obtain ⟨b3, hb3⟩ : ∃ b, (dvB kr.seeds ⟨#[]⟩ need m kr.random && wiB i 0 ((kr.seeds.length : Int) - 1)) = b := ⟨_, rfl⟩
  have HOV : Hid (b3 = true → okv = (b1 && b2)) := Lib.hid (fun h3 => by
    rw [h3] at hb3
    rw [Bool.and_eq_true] at hb3
    rw [← hokv, ← hb1, ← hb2]
    unfold okK
    rw [hb3.2, Bool.and_true, Bool.and_true]
    unfold dvB
    cases sdOk kr.seeds kr.salt <;> simp)
  have HOF : Hid (b3 = false → okv = false) := Lib.hid (fun h3 => by
    rw [h3] at hb3
    rw [← hokv]
    unfold okK
    cases hd : dvB kr.seeds kr.salt need m kr.random with
    | false => rfl
    | true =>
      rw [dvB_nosalt hd, Bool.true_and] at hb3
      rw [hb3]
      rfl)
  have HKB : Hid (b3 = false → ∀ (k : Int) W, Below w.heap.size w W → Calls Tryz.prog 21 #[.slice kr.SA kr.seeds.length kr.sc, .int .i64 need, .int .i64 m, .slice kr.RA kr.random.length kr.rc, .int .i64 i, .int .i64 k] W fun e w' => e = .returned (.tuple #[.agg #[.int .i64 0, .int .i64 0, .int .i64 0, .slice none 0 0], .int .i64 1]) ∧ Below W.heap.size W w') := Lib.hid (fun h3 k W hW => by
    have hi := HIN.out W hW
    rw [h3, Bool.and_eq_false_iff] at hb3
    exact kkeep_bad kr.SA kr.sc kr.seeds need m kr.RA kr.rc kr.random i k W hi.s hi.r hi.sl hi.rl (hb3.elim .inl (fun h => .inr (.inl h))))
  have HKG : Hid (b3 = true → ∀ (j : Nat) W, j < m → Below w.heap.size w W → Calls Tryz.prog 21 #[.slice kr.SA kr.seeds.length kr.sc, .int .i64 need, .int .i64 m, .slice kr.RA kr.random.length kr.rc, .int .i64 i, .int .i64 j] W fun e w' => ∃ q : Kp, e = .returned (.tuple #[.agg #[.int .i64 q.ix, .int .i64 q.s.1, .int .i64 q.s.2, .slice q.A q.p.length q.c], .int .i64 0]) ∧ (∃ A c, q = kpOf kr need.toNat m i.toNat j A c) ∧ PathIn w' q.A q.p ∧ Below W.heap.size W w') := Lib.hid (fun h3 j W hj hW => by
    have hi := HIN.out W hW
    rw [h3, Bool.and_eq_true] at hb3
    obtain ⟨n', m', hn, hm', hok⟩ := DivOk.of hb3.1
    obtain rfl : m = m' := by omega
    have hwi := of_decide_eq_true hb3.2
    obtain ⟨I, rfl⟩ : ∃ I : Nat, i = (I : Int) := ⟨i.toNat, by omega⟩
    subst hn
    have := kkeep_ok kr.SA kr.sc kr.seeds n' m kr.RA kr.rc kr.random I j W hi.s hi.r hi.rc hi.rcm hb3.1 (by omega) hj (HT.out W hW)
    refine this.mono ?_
    rintro e w' ⟨A', c', rfl, -, hp, hb⟩
    exact ⟨kpOf kr n' m I j A' c', rfl, ⟨A', c', rfl⟩, hp, hb⟩)
  rw [hb1] at HCM
  rw [hb2] at HOP
  rw [show W11Post kr need i m w = fun e w' => Below w.heap.size w w' ∧ ∃ (cm : ByteArray × ByteArray) (o : Og) (KA : Option Addr) (kn kc : Nat), e = .returned (.tuple #[.agg #[.string cm.1, .string cm.2], .agg #[.int .i64 o.ix, .int .i64 o.v, .string o.salt, .slice o.A o.p.length o.c], .slice KA kn kc, .bool okv]) ∧
    (okv = true → cm = cmK m need kr ∧ (∃ A c, o = ogOf kr i.toNat A c) ∧ PathIn w' o.A o.p ∧ o.p.length ≤ o.c ∧ kn = m ∧ ∃ ls, KwT w' ⟨KA, kc, ls⟩ ∧ KpsOk kr need.toNat m i.toNat m ls) by rw [← hokv]; rfl]
  have HB2I : Hid (okv = true → b2 = true) := Lib.hid (fun h => by
    cases h3 : b3 with
    | false => rw [HOF.out h3] at h; cases h
    | true => rw [HOV.out h3, Bool.and_eq_true] at h; exact h.2)
  generalize cmK m need kr = cm at *
  clear h hT hw0 hik hy0 hy1 hy2 hokv hb1 hb2 hb3
  go_enter Tryz.func12, Tryz.ntmps12
  have z0 := (HKX.out w0 (Below.refl _ _)).of_cell (i := 0) rfl
  have z1 := (HKX.out w0 (Below.refl _ _)).of_cell (i := 1) rfl
  have z2 := (HKX.out w0 (Below.refl _ _)).of_cell (i := 2) rfl
  have zl := (HKX.out w0 (Below.refl _ _)).lt
  repeat (first | (rw [HW0.out]; clear HW0) | go_values | go_skip | go_guarded | go_step | go_upon)
  clear z0 z1 z2 zl
  refine (HCM.out w0 HB0.out).mono ?_
  rintro e w1 ⟨rfl, hb⟩
  obtain ⟨e1, he1⟩ : ∃ e : Int, (if b1 = true then (0 : Int) else 1) = e := ⟨_, rfl⟩
  rw [he1]
  have HE1 := Lib.hid he1
  obtain ⟨w2, hw2⟩ : ∃ W, w1.alloc (.cells #[.string cm.1, .string cm.2] 29) = W := ⟨_, rfl⟩
  have HX2 : Hid (Below w0.heap.size w0 w2) := Lib.hid (by rw [← hw2]; exact below_alloc hb _)
  have HC2 : Hid (Blk w2 w1.heap.size 29 #[.string cm.1, .string cm.2]) := Lib.hid (by rw [← hw2]; exact Blk.new w1 _ _ _ rfl)
  have hg1 : w0.heap.size ≤ w1.heap.size := hb.size
  obtain ⟨gc, hgc⟩ : ∃ n, w1.heap.size = n := ⟨_, rfl⟩
  rw [hgc] at HC2 hg1
  have HW2 := Lib.hid hw2
  have HGC := Lib.hid hgc
  clear he1 hb hw2 hgc
  have z0 := (HKX.out w2 HX2.out).of_cell (i := 0) rfl
  have z1 := (HKX.out w2 HX2.out).of_cell (i := 1) rfl
  have z2 := (HKX.out w2 HX2.out).of_cell (i := 2) rfl
  have zl := (HKX.out w2 HX2.out).lt
  go_wp2_with (rw [HW2.out, HGC.out])
  clear z0 z1 z2 zl
  refine (HOP.out w2 (below_trans HB0.out HX2.out)).mono ?_
  rintro e w3 ⟨o, rfl, hoo, hpo, hpc, hb⟩
  obtain ⟨e2, he2⟩ : ∃ e : Int, (if b2 = true then (0 : Int) else 1) = e := ⟨_, rfl⟩
  rw [he2]
  have HE2 := Lib.hid he2
  have HOO := Lib.hid hoo
  have HPC := Lib.hid hpc
  obtain ⟨w4, hw4⟩ : ∃ W, w3.alloc (.cells #[.int .i64 o.ix, .int .i64 o.v, .string o.salt, .slice o.A o.p.length o.c] 32) = W := ⟨_, rfl⟩
  have HX4 : Hid (Below w0.heap.size w0 w4) := Lib.hid (by rw [← hw4]; exact below_alloc (below_trans HX2.out hb) _)
  have HO4 : Hid (Blk w4 w3.heap.size 32 #[.int .i64 o.ix, .int .i64 o.v, .string o.salt, .slice o.A o.p.length o.c]) := Lib.hid (by rw [← hw4]; exact Blk.new w3 _ _ _ rfl)
  have HC4 : Hid (Blk w4 gc 29 #[.string cm.1, .string cm.2]) := Lib.hid (by rw [← hw4]; exact Blk.alloc ((hb.block _ HC2.out.lt).trans HC2.out) _)
  have HPO4 : Hid (PathIn w4 o.A o.p) := Lib.hid (by rw [← hw4]; exact hpo.below (below_alloc (Below.refl _ _) _))
  have hg3 : w0.heap.size ≤ w3.heap.size := Nat.le_trans HX2.out.size hb.size
  obtain ⟨go, hgo⟩ : ∃ n, w3.heap.size = n := ⟨_, rfl⟩
  rw [hgo] at HO4 hg3
  have HW4 := Lib.hid hw4
  have HGO := Lib.hid hgo
  clear he2 hoo hpo hpc hb hw4 hgo
  go_wp2_with (rw [HW4.out, HGO.out])
  go_loopw [16, 17, 18, 19] (fun u16 u17 _ _ wr => ∃ (j : Nat) (ls : List Kp), j ≤ m ∧ u17 = .int .i64 j ∧ Below w4.heap.size w4 wr ∧ wr.ownsRow w4.heap.size 50 4 u16 j (ls.flatMap kpC) ∧ KpsOk kr need.toNat m i.toNat j ls ∧ (∀ q, q ∈ ls → PathIn wr q.A q.p) ∧ (1 ≤ j → b3 = true)) (fun _ u17 _ _ _ => m - (intOf u17).toNat)
  case atStart => exact ⟨0, [], Nat.zero_le _, rfl, Below.refl _ _, World.ownsRow_nil _ _ _ _, ⟨rfl, fun q hq => by omega⟩, fun q hq => (by cases hq), fun h => by omega⟩
  case round =>
  obtain ⟨j, ls, hj, rfl, hb, ho, hks, hps, hb3⟩ := hrel
  have HBj := Lib.hid hb
  have HOj := Lib.hid ho
  have HKS := Lib.hid hks
  have HPS := Lib.hid hps
  have HB3 := Lib.hid hb3
  have HX0 := Lib.hid (below_trans HX4.out hb)
  have HXW := Lib.hid (below_trans HB0.out HX0.out)
  clear hb ho hks hps hb3
  by_cases hlt : j < m
  case pos =>
    have hji : (j : Int) < (m : Int) := by omega
    have z0 := (HKX.out wr HX0.out).of_cell (i := 0) rfl
    have z1 := (HKX.out wr HX0.out).of_cell (i := 1) rfl
    have z2 := (HKX.out wr HX0.out).of_cell (i := 2) rfl
    have zl := (HKX.out wr HX0.out).lt
    cases b3
    case false =>
      have hov := HOF.out (by trivial)
      subst hov
      go_wp2_with fail
      clear z0 z1 z2 zl
      refine (HKB.out (by trivial) (j : Int) wr HXW.out).mono ?_
      rintro e w5 ⟨rfl, hb⟩
      obtain ⟨w6, hw6⟩ : ∃ W, w5.alloc (.cells #[.int .i64 0, .int .i64 0, .int .i64 0, .slice none 0 0] 50) = W := ⟨_, rfl⟩
      have hb6 : Below wr.heap.size wr w6 := by rw [← hw6]; exact below_alloc hb _
      have HX6 := Lib.hid (below_trans HX0.out hb6)
      have hc6 := (below_trans HBj.out hb6).block gc (HC4.out.lt)
      have ho6 := (below_trans HBj.out hb6).block go (HO4.out.lt)
      have HC6 : Hid (Blk w6 gc 29 #[.string cm.1, .string cm.2]) := Lib.hid (hc6.trans HC4.out)
      have HO6 : Hid (Blk w6 go 32 #[.int .i64 o.ix, .int .i64 o.v, .string o.salt, .slice o.A o.p.length o.c]) := Lib.hid (ho6.trans HO4.out)
      have HW6 := Lib.hid hw6
      clear hb hb6 hc6 ho6 hw6
      go_wp2_with fail
      rw [HW6.out]
      refine wp_region_held_drew (S := fun W => Chg [w.heap.size + 1, w.heap.size + 1 + 1] w6 W) (by kernel_rfl) ((Chg.refl _ _).drew) (fun hS0 => ?_)
      refine wpAnyH_take (i := 0) (v := ?_) rfl (by kernel_rfl) (by kernel_rfl) (by kernel_rfl) (fun _ _ _ h => h) (Or.inl ⟨by kernel_rfl, ?hy⟩) hS0 ?rest
      case hy => (intro W hSw; have y0 := (hSw.block gc (HC6.out.lt) (by have := HZ0.out; simp; omega)).trans HC6.out; have y1 := Blk.of_cell y0 (i := 0) rfl; have y2 := Blk.of_cell y0 (i := 1) rfl; have yl := Blk.lt y0; clear hSw y0; go_simp; with_reducible rfl)
      case rest =>
      refine wpAnyH_take (i := 1) (v := ?_) rfl (by kernel_rfl) (by kernel_rfl) (by kernel_rfl) (fun _ _ _ h => h) (Or.inl ⟨by kernel_rfl, ?hy⟩) hS0 ?rest
      case hy => (intro W hSw; have y0 := (hSw.block go (HO6.out.lt) (by have := HZ0.out; simp; omega)).trans HO6.out; have y1 := Blk.of_cell y0 (i := 0) rfl; have y2 := Blk.of_cell y0 (i := 1) rfl; have y3 := Blk.of_cell y0 (i := 2) rfl; have y4 := Blk.of_cell y0 (i := 3) rfl; have yl := Blk.lt y0; clear hSw y0; go_simp; with_reducible rfl)
      case rest =>
      refine wpAnyH_ready (rs := [2]) (by kernel_rfl) (by simp) ?_
      refine AllReadyH.cons rfl (fun K hK => ?_) (AllReadyH.nil)
      have hz1 : Blk w6 (w.heap.size + 1) 29 #[.string ⟨#[]⟩, .string ⟨#[]⟩] := (HX6.out.block _ (by have := HZ0.out; omega)).trans HK0.out.2.1
      have f0 := hz1.of_cell (i := 0) rfl
      have f1 := hz1.of_cell (i := 1) rfl
      have g0 := hz1.frozen 0
      have g1 := hz1.frozen 1
      have gl := hz1.lt
      have HCB := Lib.hid ((hz1.set 0 (.string cm.1)).set 1 (.string cm.2))
      clear hz1
      go_simp
      refine hK.out _ _ ((((Chg.refl [w.heap.size + 1, w.heap.size + 1 + 1] w6).setCell (p := ⟨w.heap.size + 1, 0, none⟩) (.inl (by simp)) _).setCell (p := ⟨w.heap.size + 1, 1, none⟩) (.inl (by simp)) _).drew) (fun hS1 => ?_)
      clear hK K f0 f1 g0 g1 gl
      refine wpAnyH_ready (rs := [3]) (by kernel_rfl) (by simp) ?_
      refine AllReadyH.cons rfl (fun K hK => ?_) (AllReadyH.nil)
      obtain ⟨w7, hw7⟩ : ∃ W, (w6.setCell ⟨w.heap.size + 1, 0, none⟩ (.string cm.1)).setCell ⟨w.heap.size + 1, 1, none⟩ (.string cm.2) = W := ⟨_, rfl⟩
      rw [hw7] at HCB hS1
      have HS7 : Hid (Chg [w.heap.size + 1, w.heap.size + 1 + 1] w6 w7) := Lib.hid ⟨hS1.1, hS1.2, hS1.3, hS1.4, hS1.5⟩
      have HW7 := Lib.hid hw7
      clear hw7
      have hz2 : Blk w7 (w.heap.size + 1 + 1) 32 #[.int .i64 0, .int .i64 0, .string ⟨#[]⟩, .slice none 0 0] := by
        rw [← HW7.out]
        exact ((Below.heap_setCell _ ⟨w.heap.size + 1, 1, none⟩ _ _ (by simp)).trans (Below.heap_setCell _ ⟨w.heap.size + 1, 0, none⟩ _ _ (by simp))).trans ((HX6.out.block _ (by have := HZ0.out; omega)).trans HK0.out.2.2)
      have f0 := hz2.of_cell (i := 0) rfl
      have f1 := hz2.of_cell (i := 1) rfl
      have f2 := hz2.of_cell (i := 2) rfl
      have f3 := hz2.of_cell (i := 3) rfl
      have g0 := hz2.frozen 0
      have g1 := hz2.frozen 1
      have g2 := hz2.frozen 2
      have g3 := hz2.frozen 3
      have gl := hz2.lt
      have HOB := Lib.hid ((((hz2.set 0 (.int .i64 o.ix)).set 1 (.int .i64 o.v)).set 2 (.string o.salt)).set 3 (.slice o.A o.p.length o.c))
      clear hz2
      rw [HW7.out]
      go_simp
      refine hK.out _ _ (((((HS7.out.setCell (p := ⟨w.heap.size + 1 + 1, 0, none⟩) (.inl (by simp)) _).setCell (p := ⟨w.heap.size + 1 + 1, 1, none⟩) (.inl (by simp)) _).setCell (p := ⟨w.heap.size + 1 + 1, 2, none⟩) (.inl (by simp)) _).setCell (p := ⟨w.heap.size + 1 + 1, 3, none⟩) (.inl (by simp)) _).drew) (fun hS2 => ?_)
      clear hK K f0 f1 f2 f3 g0 g1 g2 g3 gl
      refine wpAnyH_take (i := 4) (v := ?_) rfl (by kernel_rfl) (by kernel_rfl) (by kernel_rfl) (fun _ _ _ h => h) (Or.inl ⟨by kernel_rfl, ?hy⟩) hS2 ?rest
      case hy => (intro W hSw; clear hSw; go_simp; with_reducible rfl)
      case rest =>
      refine wpAnyH_take (i := 5) (v := ?_) rfl (by kernel_rfl) (by kernel_rfl) (by kernel_rfl) (fun _ _ _ h => h) (Or.inl ⟨by kernel_rfl, ?hy⟩) hS2 ?rest
      case hy => (intro W hSw; clear hSw; go_simp; with_reducible rfl)
      case rest =>
      refine wpAnyH_done (by kernel_rfl) ?_ _
      obtain ⟨w8, hw8⟩ : ∃ W, (((w7.setCell ⟨w.heap.size + 1 + 1, 0, none⟩ (.int .i64 o.ix)).setCell ⟨w.heap.size + 1 + 1, 1, none⟩ (.int .i64 o.v)).setCell ⟨w.heap.size + 1 + 1, 2, none⟩ (.string o.salt)).setCell ⟨w.heap.size + 1 + 1, 3, none⟩ (.slice o.A o.p.length o.c) = W := ⟨_, rfl⟩
      have hcb8 : Blk w8 (w.heap.size + 1) 29 #[.string cm.1, .string cm.2] := by
        rw [← hw8]
        exact ((((Below.heap_setCell _ ⟨w.heap.size + 1 + 1, 3, none⟩ _ _ (by simp)).trans (Below.heap_setCell _ ⟨w.heap.size + 1 + 1, 2, none⟩ _ _ (by simp))).trans (Below.heap_setCell _ ⟨w.heap.size + 1 + 1, 1, none⟩ _ _ (by simp))).trans (Below.heap_setCell _ ⟨w.heap.size + 1 + 1, 0, none⟩ _ _ (by simp))).trans HCB.out
      have hob8 := HOB.out
      rw [hw8] at hob8 hS2
      have hob8 : Blk w8 (w.heap.size + 1 + 1) 32 #[.int .i64 o.ix, .int .i64 o.v, .string o.salt, .slice o.A o.p.length o.c] := hob8
      have HS8 : Hid (Chg [w.heap.size + 1, w.heap.size + 1 + 1] w6 w8) := Lib.hid ⟨hS2.1, hS2.2, hS2.3, hS2.4, hS2.5⟩
      have HBW8 : Hid (Below w.heap.size w w8) := Lib.hid ((below_trans HB0.out HX6.out).trans (HS8.out.below (fun k hk => by simp only [List.mem_cons, List.not_mem_nil, or_false] at hk; omega) (by have := HX6.out.size; have := HZ0.out; omega)))
      go_simp
      try rw [hw8]
      have cc0 := Blk.of_cell hcb8 (i := 0) rfl
      have cc1 := Blk.of_cell hcb8 (i := 1) rfl
      have cl := Blk.lt hcb8
      have oo0 := Blk.of_cell hob8 (i := 0) rfl
      have oo1 := Blk.of_cell hob8 (i := 1) rfl
      have oo2 := Blk.of_cell hob8 (i := 2) rfl
      have oo3 := Blk.of_cell hob8 (i := 3) rfl
      have ol := Blk.lt hob8
      clear hcb8 hob8 hw8 hS0 hS1 hS2
      go_wp2
      exact bodyPost_ret (v := .tuple #[.agg #[.string cm.1, .string cm.2], .agg #[.int .i64 o.ix, .int .i64 o.v, .string o.salt, .slice o.A o.p.length o.c], .slice none 0 0, .bool false]) (by simp [results, Tryz.results12, go_sem, cc0, cc1, cl, oo0, oo1, oo2, oo3, ol]) rfl ⟨HBW8.out.drew, cm, o, none, 0, 0, rfl, fun h => (by cases h)⟩
    case true =>
      go_wp2_with fail
      clear z0 z1 z2 zl
      refine (HKG.out (by trivial) j wr hlt HXW.out).mono ?_
      rintro e w5 ⟨q, rfl, hqe, hqp, hb⟩
      obtain ⟨w6, hw6⟩ : ∃ W, w5.alloc (.cells #[.int .i64 q.ix, .int .i64 q.s.1, .int .i64 q.s.2, .slice q.A q.p.length q.c] 50) = W := ⟨_, rfl⟩
      have hb6 : Below wr.heap.size wr w6 := by rw [← hw6]; exact below_alloc hb _
      have HB6 := Lib.hid (below_trans HBj.out hb6)
      have HO6 := Lib.hid (row_below HOj.out hb6)
      have HQ6 : Hid (Blk w6 w5.heap.size 50 #[.int .i64 q.ix, .int .i64 q.s.1, .int .i64 q.s.2, .slice q.A q.p.length q.c]) := Lib.hid (by rw [← hw6]; exact Blk.new w5 _ _ _ rfl)
      have HPS6 : Hid (∀ r, r ∈ ls ++ [q] → PathIn w6 r.A r.p) := Lib.hid (fun r hr => by
        rcases List.mem_append.1 hr with h | h
        · exact (HPS.out r h).below hb6
        · rw [List.mem_singleton.1 h, ← hw6]
          exact hqp.below (below_alloc (Below.refl _ _) _))
      have HQE := Lib.hid hqe
      obtain ⟨gq, hgq⟩ : ∃ n, w5.heap.size = n := ⟨_, rfl⟩
      rw [hgq] at HQ6
      have HW6 := Lib.hid hw6
      have HGQ := Lib.hid hgq
      have k0 := HQ6.out.of_cell (i := 0) rfl
      have k1 := HQ6.out.of_cell (i := 1) rfl
      have k2 := HQ6.out.of_cell (i := 2) rfl
      have k3 := HQ6.out.of_cell (i := 3) rfl
      have kl := HQ6.out.lt
      have hlsl := HKS.out.1
      clear hb hb6 hqe hqp hw6 hgq
      go_wp2_with (first | (rw [HW6.out, HGQ.out]) | (at_builtin; refine wpList_app _ rfl (.tmp 62) (.tmp 64) 33 33 rfl w4.heap.size 50 50 ik _ 4 48 Tryz.underlying33 Tryz.underlying33 HIK.out.1 HIK.out.2.1 HIK.out.2.2.1 HIK.out.2.2.2 rfl (by omega) _ j _ rfl (HO6.out.alloc _) _ 1 1 [.int .i64 q.ix, .int .i64 q.s.1, .int .i64 q.s.2, .slice q.A q.p.length q.c] rfl (Rd_new w6 #[.int .i64 q.ix, .int .i64 q.s.1, .int .i64 q.s.2, .slice q.A q.p.length q.c] _ 4 1 _ rfl rfl) (by simp [Value.oneCell']) (by simp only [maxLen]; omega) (by omega) (by have := HB6.out.size; simp; omega) ?_))
      clear k0 k1 k2 k3 kl hlsl
      intro v7 w7 hown hg
      have HB7 : Hid (Below w4.heap.size w4 w7) := Lib.hid ((below_alloc HB6.out _).grown hg (by have := HB6.out.size; simp; omega) (fun j hj => (HO6.out.lt j hj).1))
      have e5 : ls.flatMap kpC ++ [.int .i64 q.ix, .int .i64 q.s.1, .int .i64 q.s.2, .slice q.A q.p.length q.c] = (ls ++ [q]).flatMap kpC := by rw [List.flatMap_append]; rfl
      rw [e5] at hown
      have HO7 := Lib.hid hown
      have HP7 : Hid (∀ r, r ∈ ls ++ [q] → PathIn w7 r.A r.p) := Lib.hid (fun r hr => ((HPS6.out r hr).below (below_alloc (Below.refl _ _) _)).keep (fun a cs _ hcs => grown_typed (HO6.out.alloc _) hg (by decide) _ cs hcs))
      have HK7 := Lib.hid (HKS.out.snoc HQE.out)
      clear hown hg e5
      go_wp2
      go_roundw
      case rel => exact ⟨j + 1, ls ++ [q], by omega, by go_num, HB7.out, HO7.out, HK7.out, HP7.out, fun _ => by trivial⟩
      case measure => first | (simp [intOf]; done) | (simp [intOf]; omega)
  case neg =>
  obtain rfl : j = m := by omega
  obtain rfl : b3 = true := HB3.out hm1
  have hov := HOV.out (by trivial)
  subst hov
  obtain ⟨w6, hw6⟩ : ∃ W, W = wr := ⟨wr, rfl⟩
  subst hw6
  obtain ⟨KA, kc, rfl, -, -, hrK⟩ := Rd.of_own HOj.out
  have HX6 := HX0
  have HC6 : Hid (Blk w6 gc 29 #[.string cm.1, .string cm.2]) := Lib.hid ((HBj.out.block _ HC4.out.lt).trans HC4.out)
  have HO6 : Hid (Blk w6 go 32 #[.int .i64 o.ix, .int .i64 o.v, .string o.salt, .slice o.A o.p.length o.c]) := Lib.hid ((HBj.out.block _ HO4.out.lt).trans HO4.out)
  have HPO6 := Lib.hid (HPO4.out.below HBj.out)
  have HTY6 := Lib.hid (own_typed HOj.out)
  have HRK6 := Lib.hid hrK
  clear hrK
  have HKEEP : Hid (∀ (w8 : World), Chg [w.heap.size + 1, w.heap.size + 1 + 1] w6 w8 → ∀ (T : Nat), T ≠ 29 → T ≠ 32 → ∀ (b : Nat) (cs : Array Value), w6.heap[b]? = some (.cells cs T (0, 0)) → w8.heap[b]? = w6.heap[b]?) := Lib.hid (fun w8 hc T h1 h2 b cs hcs => hc.block b (Array.getElem?_eq_some_iff.1 hcs).1 (fun hm => by
    simp only [List.mem_cons, List.not_mem_nil, or_false] at hm
    rcases hm with rfl | rfl
    · have hz : w6.heap[w.heap.size + 1]? = _ := (HX6.out.block _ (by have := HZ0.out; omega)).trans HK0.out.2.1
      rw [hcs] at hz
      injection hz with hz
      injection hz with _ hz
      exact h1 hz
    · have hz : w6.heap[w.heap.size + 1 + 1]? = _ := (HX6.out.block _ (by have := HZ0.out; omega)).trans HK0.out.2.2
      rw [hcs] at hz
      injection hz with hz
      injection hz with _ hz
      exact h2 hz))
  cases b1
  case false =>
    have q1 : 1 = e1 := HE1.out
    subst q1
    go_wp2_with fail
    refine wp_region_held_drew (S := fun W => Chg [w.heap.size + 1, w.heap.size + 1 + 1] w6 W) (by kernel_rfl) ((Chg.refl _ _).drew) (fun hS0 => ?_)
    refine wpAnyH_take (i := 0) (v := ?_) rfl (by kernel_rfl) (by kernel_rfl) (by kernel_rfl) (fun _ _ _ h => h) (Or.inl ⟨by kernel_rfl, ?hy⟩) hS0 ?rest
    case hy => (intro W hSw; have y0 := (hSw.block gc (HC6.out.lt) (by have := HZ0.out; simp; omega)).trans HC6.out; have y1 := Blk.of_cell y0 (i := 0) rfl; have y2 := Blk.of_cell y0 (i := 1) rfl; have yl := Blk.lt y0; clear hSw y0; go_simp; with_reducible rfl)
    case rest =>
    refine wpAnyH_take (i := 1) (v := ?_) rfl (by kernel_rfl) (by kernel_rfl) (by kernel_rfl) (fun _ _ _ h => h) (Or.inl ⟨by kernel_rfl, ?hy⟩) hS0 ?rest
    case hy => (intro W hSw; have y0 := (hSw.block go (HO6.out.lt) (by have := HZ0.out; simp; omega)).trans HO6.out; have y1 := Blk.of_cell y0 (i := 0) rfl; have y2 := Blk.of_cell y0 (i := 1) rfl; have y3 := Blk.of_cell y0 (i := 2) rfl; have y4 := Blk.of_cell y0 (i := 3) rfl; have yl := Blk.lt y0; clear hSw y0; go_simp; with_reducible rfl)
    case rest =>
    refine wpAnyH_take (i := 2) (v := ?_) rfl (by kernel_rfl) (by kernel_rfl) (by kernel_rfl) (fun _ _ _ h => h) (Or.inl ⟨by kernel_rfl, ?hy⟩) hS0 ?rest
    case hy => (intro W hSw; clear hSw; go_simp; with_reducible rfl)
    case rest =>
    refine wpAnyH_take (i := 3) (v := ?_) rfl (by kernel_rfl) (by kernel_rfl) (by kernel_rfl) (fun _ _ _ h => h) (Or.inl ⟨by kernel_rfl, ?hy⟩) hS0 ?rest
    case hy => (intro W hSw; clear hSw; go_simp; with_reducible rfl)
    case rest =>
    refine wpAnyH_take (i := 4) (v := ?_) rfl (by kernel_rfl) (by kernel_rfl) (by kernel_rfl) (fun _ _ _ h => h) (Or.inl ⟨by kernel_rfl, ?hy⟩) hS0 ?rest
    case hy => (intro W hSw; clear hSw; go_simp; with_reducible rfl)
    case rest =>
    refine wpAnyH_take (i := 5) (v := ?_) rfl (by kernel_rfl) (by kernel_rfl) (by kernel_rfl) (fun _ _ _ h => h) (Or.inl ⟨by kernel_rfl, ?hy⟩) hS0 ?rest
    case hy => (intro W hSw; clear hSw; go_simp; with_reducible rfl)
    case rest =>
    try go_simp
    refine wpAnyH_take (i := 6) (v := undef) rfl (by kernel_rfl) (by kernel_rfl) (by kernel_rfl) (fun _ _ _ h => h) (Or.inr ⟨by kernel_rfl, rfl⟩) hS0 ?_
    refine wpAnyH_take (i := 7) (v := undef) rfl (by kernel_rfl) (by kernel_rfl) (by kernel_rfl) (fun _ _ _ h => h) (Or.inr ⟨by kernel_rfl, rfl⟩) hS0 ?_
    refine wpAnyH_take (i := 8) (v := ?_) rfl (by kernel_rfl) (by kernel_rfl) (by kernel_rfl) (fun _ _ _ h => h) (Or.inl ⟨by kernel_rfl, ?hy⟩) hS0 ?rest
    case hy => (intro W hSw; clear hSw; go_simp; with_reducible rfl)
    case rest =>
    refine wpAnyH_ready (rs := [9]) (by kernel_rfl) (by simp) ?_
    refine AllReadyH.cons rfl (fun K hK => ?_) (AllReadyH.nil)
    have hz1 : Blk w6 (w.heap.size + 1) 29 #[.string ⟨#[]⟩, .string ⟨#[]⟩] := (HX6.out.block _ (by have := HZ0.out; omega)).trans HK0.out.2.1
    have f0 := hz1.of_cell (i := 0) rfl
    have f1 := hz1.of_cell (i := 1) rfl
    have g0 := hz1.frozen 0
    have g1 := hz1.frozen 1
    have gl := hz1.lt
    have HCB := Lib.hid ((hz1.set 0 (.string cm.1)).set 1 (.string cm.2))
    clear hz1
    go_simp
    refine hK.out _ _ ((((Chg.refl [w.heap.size + 1, w.heap.size + 1 + 1] w6).setCell (p := ⟨w.heap.size + 1, 0, none⟩) (.inl (by simp)) _).setCell (p := ⟨w.heap.size + 1, 1, none⟩) (.inl (by simp)) _).drew) (fun hS1 => ?_)
    clear hK K f0 f1 g0 g1 gl
    refine wpAnyH_ready (rs := [10]) (by kernel_rfl) (by simp) ?_
    refine AllReadyH.cons rfl (fun K hK => ?_) (AllReadyH.nil)
    obtain ⟨w7, hw7⟩ : ∃ W, (w6.setCell ⟨w.heap.size + 1, 0, none⟩ (.string cm.1)).setCell ⟨w.heap.size + 1, 1, none⟩ (.string cm.2) = W := ⟨_, rfl⟩
    rw [hw7] at HCB hS1
    have HS7 : Hid (Chg [w.heap.size + 1, w.heap.size + 1 + 1] w6 w7) := Lib.hid ⟨hS1.1, hS1.2, hS1.3, hS1.4, hS1.5⟩
    have HW7 := Lib.hid hw7
    clear hw7
    have hz2 : Blk w7 (w.heap.size + 1 + 1) 32 #[.int .i64 0, .int .i64 0, .string ⟨#[]⟩, .slice none 0 0] := by
      rw [← HW7.out]
      exact ((Below.heap_setCell _ ⟨w.heap.size + 1, 1, none⟩ _ _ (by simp)).trans (Below.heap_setCell _ ⟨w.heap.size + 1, 0, none⟩ _ _ (by simp))).trans ((HX6.out.block _ (by have := HZ0.out; omega)).trans HK0.out.2.2)
    have f0 := hz2.of_cell (i := 0) rfl
    have f1 := hz2.of_cell (i := 1) rfl
    have f2 := hz2.of_cell (i := 2) rfl
    have f3 := hz2.of_cell (i := 3) rfl
    have g0 := hz2.frozen 0
    have g1 := hz2.frozen 1
    have g2 := hz2.frozen 2
    have g3 := hz2.frozen 3
    have gl := hz2.lt
    have HOB := Lib.hid ((((hz2.set 0 (.int .i64 o.ix)).set 1 (.int .i64 o.v)).set 2 (.string o.salt)).set 3 (.slice o.A o.p.length o.c))
    clear hz2
    rw [HW7.out]
    go_simp
    refine hK.out _ _ (((((HS7.out.setCell (p := ⟨w.heap.size + 1 + 1, 0, none⟩) (.inl (by simp)) _).setCell (p := ⟨w.heap.size + 1 + 1, 1, none⟩) (.inl (by simp)) _).setCell (p := ⟨w.heap.size + 1 + 1, 2, none⟩) (.inl (by simp)) _).setCell (p := ⟨w.heap.size + 1 + 1, 3, none⟩) (.inl (by simp)) _).drew) (fun hS2 => ?_)
    clear hK K f0 f1 f2 f3 g0 g1 g2 g3 gl
    refine wpAnyH_take (i := 11) (v := ?_) rfl (by kernel_rfl) (by kernel_rfl) (by kernel_rfl) (fun _ _ _ h => h) (Or.inl ⟨by kernel_rfl, ?hy⟩) hS2 ?rest
    case hy => (intro W hSw; clear hSw; go_simp; with_reducible rfl)
    case rest =>
    refine wpAnyH_take (i := 12) (v := ?_) rfl (by kernel_rfl) (by kernel_rfl) (by kernel_rfl) (fun _ _ _ h => h) (Or.inl ⟨by kernel_rfl, ?hy⟩) hS2 ?rest
    case hy => (intro W hSw; clear hSw; go_simp; with_reducible rfl)
    case rest =>
    refine wpAnyH_done (by kernel_rfl) ?_ _
    obtain ⟨w8, hw8⟩ : ∃ W, (((w7.setCell ⟨w.heap.size + 1 + 1, 0, none⟩ (.int .i64 o.ix)).setCell ⟨w.heap.size + 1 + 1, 1, none⟩ (.int .i64 o.v)).setCell ⟨w.heap.size + 1 + 1, 2, none⟩ (.string o.salt)).setCell ⟨w.heap.size + 1 + 1, 3, none⟩ (.slice o.A o.p.length o.c) = W := ⟨_, rfl⟩
    have hcb8 : Blk w8 (w.heap.size + 1) 29 #[.string cm.1, .string cm.2] := by
      rw [← hw8]
      exact ((((Below.heap_setCell _ ⟨w.heap.size + 1 + 1, 3, none⟩ _ _ (by simp)).trans (Below.heap_setCell _ ⟨w.heap.size + 1 + 1, 2, none⟩ _ _ (by simp))).trans (Below.heap_setCell _ ⟨w.heap.size + 1 + 1, 1, none⟩ _ _ (by simp))).trans (Below.heap_setCell _ ⟨w.heap.size + 1 + 1, 0, none⟩ _ _ (by simp))).trans HCB.out
    have hob8 := HOB.out
    rw [hw8] at hob8 hS2
    have hob8 : Blk w8 (w.heap.size + 1 + 1) 32 #[.int .i64 o.ix, .int .i64 o.v, .string o.salt, .slice o.A o.p.length o.c] := hob8
    have HS8 : Hid (Chg [w.heap.size + 1, w.heap.size + 1 + 1] w6 w8) := Lib.hid ⟨hS2.1, hS2.2, hS2.3, hS2.4, hS2.5⟩
    have HBW8 : Hid (Below w.heap.size w w8) := Lib.hid ((below_trans HB0.out HX6.out).trans (HS8.out.below (fun k hk => by simp only [List.mem_cons, List.not_mem_nil, or_false] at hk; omega) (by have := HX6.out.size; have := HZ0.out; omega)))
    go_simp
    try rw [hw8]
    have cc0 := Blk.of_cell hcb8 (i := 0) rfl
    have cc1 := Blk.of_cell hcb8 (i := 1) rfl
    have cl := Blk.lt hcb8
    have oo0 := Blk.of_cell hob8 (i := 0) rfl
    have oo1 := Blk.of_cell hob8 (i := 1) rfl
    have oo2 := Blk.of_cell hob8 (i := 2) rfl
    have oo3 := Blk.of_cell hob8 (i := 3) rfl
    have ol := Blk.lt hob8
    clear hcb8 hob8 hw8 hS0 hS1 hS2
    go_wp2
    exact bodyPost_ret (v := .tuple #[.agg #[.string cm.1, .string cm.2], .agg #[.int .i64 o.ix, .int .i64 o.v, .string o.salt, .slice o.A o.p.length o.c], .slice KA j kc, .bool false]) (by simp [results, Tryz.results12, go_sem, cc0, cc1, cl, oo0, oo1, oo2, oo3, ol]) rfl ⟨HBW8.out.drew, cm, o, KA, j, kc, rfl, fun h => (by cases h)⟩
  case true =>
  have q1 : 0 = e1 := HE1.out
  subst q1
  cases b2
  case false =>
    have q2 : 1 = e2 := HE2.out
    subst q2
    go_wp2_with fail
    refine wp_region_held_drew (S := fun W => Chg [w.heap.size + 1, w.heap.size + 1 + 1] w6 W) (by kernel_rfl) ((Chg.refl _ _).drew) (fun hS0 => ?_)
    refine wpAnyH_take (i := 0) (v := ?_) rfl (by kernel_rfl) (by kernel_rfl) (by kernel_rfl) (fun _ _ _ h => h) (Or.inl ⟨by kernel_rfl, ?hy⟩) hS0 ?rest
    case hy => (intro W hSw; have y0 := (hSw.block gc (HC6.out.lt) (by have := HZ0.out; simp; omega)).trans HC6.out; have y1 := Blk.of_cell y0 (i := 0) rfl; have y2 := Blk.of_cell y0 (i := 1) rfl; have yl := Blk.lt y0; clear hSw y0; go_simp; with_reducible rfl)
    case rest =>
    refine wpAnyH_take (i := 1) (v := ?_) rfl (by kernel_rfl) (by kernel_rfl) (by kernel_rfl) (fun _ _ _ h => h) (Or.inl ⟨by kernel_rfl, ?hy⟩) hS0 ?rest
    case hy => (intro W hSw; have y0 := (hSw.block go (HO6.out.lt) (by have := HZ0.out; simp; omega)).trans HO6.out; have y1 := Blk.of_cell y0 (i := 0) rfl; have y2 := Blk.of_cell y0 (i := 1) rfl; have y3 := Blk.of_cell y0 (i := 2) rfl; have y4 := Blk.of_cell y0 (i := 3) rfl; have yl := Blk.lt y0; clear hSw y0; go_simp; with_reducible rfl)
    case rest =>
    refine wpAnyH_take (i := 2) (v := ?_) rfl (by kernel_rfl) (by kernel_rfl) (by kernel_rfl) (fun _ _ _ h => h) (Or.inl ⟨by kernel_rfl, ?hy⟩) hS0 ?rest
    case hy => (intro W hSw; clear hSw; go_simp; with_reducible rfl)
    case rest =>
    refine wpAnyH_take (i := 3) (v := ?_) rfl (by kernel_rfl) (by kernel_rfl) (by kernel_rfl) (fun _ _ _ h => h) (Or.inl ⟨by kernel_rfl, ?hy⟩) hS0 ?rest
    case hy => (intro W hSw; clear hSw; go_simp; with_reducible rfl)
    case rest =>
    refine wpAnyH_take (i := 4) (v := ?_) rfl (by kernel_rfl) (by kernel_rfl) (by kernel_rfl) (fun _ _ _ h => h) (Or.inl ⟨by kernel_rfl, ?hy⟩) hS0 ?rest
    case hy => (intro W hSw; clear hSw; go_simp; with_reducible rfl)
    case rest =>
    refine wpAnyH_take (i := 5) (v := ?_) rfl (by kernel_rfl) (by kernel_rfl) (by kernel_rfl) (fun _ _ _ h => h) (Or.inl ⟨by kernel_rfl, ?hy⟩) hS0 ?rest
    case hy => (intro W hSw; clear hSw; go_simp; with_reducible rfl)
    case rest =>
    try go_simp
    refine wpAnyH_take (i := 6) (v := ?_) rfl (by kernel_rfl) (by kernel_rfl) (by kernel_rfl) (fun _ _ _ h => h) (Or.inl ⟨by kernel_rfl, ?hy⟩) hS0 ?rest
    case hy => (intro W hSw; clear hSw; go_simp; with_reducible rfl)
    case rest =>
    refine wpAnyH_take (i := 7) (v := ?_) rfl (by kernel_rfl) (by kernel_rfl) (by kernel_rfl) (fun _ _ _ h => h) (Or.inl ⟨by kernel_rfl, ?hy⟩) hS0 ?rest
    case hy => (intro W hSw; clear hSw; go_simp; with_reducible rfl)
    case rest =>
    refine wpAnyH_take (i := 8) (v := ?_) rfl (by kernel_rfl) (by kernel_rfl) (by kernel_rfl) (fun _ _ _ h => h) (Or.inl ⟨by kernel_rfl, ?hy⟩) hS0 ?rest
    case hy => (intro W hSw; clear hSw; go_simp; with_reducible rfl)
    case rest =>
    refine wpAnyH_ready (rs := [9]) (by kernel_rfl) (by simp) ?_
    refine AllReadyH.cons rfl (fun K hK => ?_) (AllReadyH.nil)
    have hz1 : Blk w6 (w.heap.size + 1) 29 #[.string ⟨#[]⟩, .string ⟨#[]⟩] := (HX6.out.block _ (by have := HZ0.out; omega)).trans HK0.out.2.1
    have f0 := hz1.of_cell (i := 0) rfl
    have f1 := hz1.of_cell (i := 1) rfl
    have g0 := hz1.frozen 0
    have g1 := hz1.frozen 1
    have gl := hz1.lt
    have HCB := Lib.hid ((hz1.set 0 (.string cm.1)).set 1 (.string cm.2))
    clear hz1
    go_simp
    refine hK.out _ _ ((((Chg.refl [w.heap.size + 1, w.heap.size + 1 + 1] w6).setCell (p := ⟨w.heap.size + 1, 0, none⟩) (.inl (by simp)) _).setCell (p := ⟨w.heap.size + 1, 1, none⟩) (.inl (by simp)) _).drew) (fun hS1 => ?_)
    clear hK K f0 f1 g0 g1 gl
    refine wpAnyH_ready (rs := [10]) (by kernel_rfl) (by simp) ?_
    refine AllReadyH.cons rfl (fun K hK => ?_) (AllReadyH.nil)
    obtain ⟨w7, hw7⟩ : ∃ W, (w6.setCell ⟨w.heap.size + 1, 0, none⟩ (.string cm.1)).setCell ⟨w.heap.size + 1, 1, none⟩ (.string cm.2) = W := ⟨_, rfl⟩
    rw [hw7] at HCB hS1
    have HS7 : Hid (Chg [w.heap.size + 1, w.heap.size + 1 + 1] w6 w7) := Lib.hid ⟨hS1.1, hS1.2, hS1.3, hS1.4, hS1.5⟩
    have HW7 := Lib.hid hw7
    clear hw7
    have hz2 : Blk w7 (w.heap.size + 1 + 1) 32 #[.int .i64 0, .int .i64 0, .string ⟨#[]⟩, .slice none 0 0] := by
      rw [← HW7.out]
      exact ((Below.heap_setCell _ ⟨w.heap.size + 1, 1, none⟩ _ _ (by simp)).trans (Below.heap_setCell _ ⟨w.heap.size + 1, 0, none⟩ _ _ (by simp))).trans ((HX6.out.block _ (by have := HZ0.out; omega)).trans HK0.out.2.2)
    have f0 := hz2.of_cell (i := 0) rfl
    have f1 := hz2.of_cell (i := 1) rfl
    have f2 := hz2.of_cell (i := 2) rfl
    have f3 := hz2.of_cell (i := 3) rfl
    have g0 := hz2.frozen 0
    have g1 := hz2.frozen 1
    have g2 := hz2.frozen 2
    have g3 := hz2.frozen 3
    have gl := hz2.lt
    have HOB := Lib.hid ((((hz2.set 0 (.int .i64 o.ix)).set 1 (.int .i64 o.v)).set 2 (.string o.salt)).set 3 (.slice o.A o.p.length o.c))
    clear hz2
    rw [HW7.out]
    go_simp
    refine hK.out _ _ (((((HS7.out.setCell (p := ⟨w.heap.size + 1 + 1, 0, none⟩) (.inl (by simp)) _).setCell (p := ⟨w.heap.size + 1 + 1, 1, none⟩) (.inl (by simp)) _).setCell (p := ⟨w.heap.size + 1 + 1, 2, none⟩) (.inl (by simp)) _).setCell (p := ⟨w.heap.size + 1 + 1, 3, none⟩) (.inl (by simp)) _).drew) (fun hS2 => ?_)
    clear hK K f0 f1 f2 f3 g0 g1 g2 g3 gl
    refine wpAnyH_take (i := 11) (v := ?_) rfl (by kernel_rfl) (by kernel_rfl) (by kernel_rfl) (fun _ _ _ h => h) (Or.inl ⟨by kernel_rfl, ?hy⟩) hS2 ?rest
    case hy => (intro W hSw; clear hSw; go_simp; with_reducible rfl)
    case rest =>
    refine wpAnyH_take (i := 12) (v := ?_) rfl (by kernel_rfl) (by kernel_rfl) (by kernel_rfl) (fun _ _ _ h => h) (Or.inl ⟨by kernel_rfl, ?hy⟩) hS2 ?rest
    case hy => (intro W hSw; clear hSw; go_simp; with_reducible rfl)
    case rest =>
    refine wpAnyH_done (by kernel_rfl) ?_ _
    obtain ⟨w8, hw8⟩ : ∃ W, (((w7.setCell ⟨w.heap.size + 1 + 1, 0, none⟩ (.int .i64 o.ix)).setCell ⟨w.heap.size + 1 + 1, 1, none⟩ (.int .i64 o.v)).setCell ⟨w.heap.size + 1 + 1, 2, none⟩ (.string o.salt)).setCell ⟨w.heap.size + 1 + 1, 3, none⟩ (.slice o.A o.p.length o.c) = W := ⟨_, rfl⟩
    have hcb8 : Blk w8 (w.heap.size + 1) 29 #[.string cm.1, .string cm.2] := by
      rw [← hw8]
      exact ((((Below.heap_setCell _ ⟨w.heap.size + 1 + 1, 3, none⟩ _ _ (by simp)).trans (Below.heap_setCell _ ⟨w.heap.size + 1 + 1, 2, none⟩ _ _ (by simp))).trans (Below.heap_setCell _ ⟨w.heap.size + 1 + 1, 1, none⟩ _ _ (by simp))).trans (Below.heap_setCell _ ⟨w.heap.size + 1 + 1, 0, none⟩ _ _ (by simp))).trans HCB.out
    have hob8 := HOB.out
    rw [hw8] at hob8 hS2
    have hob8 : Blk w8 (w.heap.size + 1 + 1) 32 #[.int .i64 o.ix, .int .i64 o.v, .string o.salt, .slice o.A o.p.length o.c] := hob8
    have HS8 : Hid (Chg [w.heap.size + 1, w.heap.size + 1 + 1] w6 w8) := Lib.hid ⟨hS2.1, hS2.2, hS2.3, hS2.4, hS2.5⟩
    have HBW8 : Hid (Below w.heap.size w w8) := Lib.hid ((below_trans HB0.out HX6.out).trans (HS8.out.below (fun k hk => by simp only [List.mem_cons, List.not_mem_nil, or_false] at hk; omega) (by have := HX6.out.size; have := HZ0.out; omega)))
    go_simp
    try rw [hw8]
    have cc0 := Blk.of_cell hcb8 (i := 0) rfl
    have cc1 := Blk.of_cell hcb8 (i := 1) rfl
    have cl := Blk.lt hcb8
    have oo0 := Blk.of_cell hob8 (i := 0) rfl
    have oo1 := Blk.of_cell hob8 (i := 1) rfl
    have oo2 := Blk.of_cell hob8 (i := 2) rfl
    have oo3 := Blk.of_cell hob8 (i := 3) rfl
    have ol := Blk.lt hob8
    clear hcb8 hob8 hw8 hS0 hS1 hS2
    go_wp2
    exact bodyPost_ret (v := .tuple #[.agg #[.string cm.1, .string cm.2], .agg #[.int .i64 o.ix, .int .i64 o.v, .string o.salt, .slice o.A o.p.length o.c], .slice KA j kc, .bool false]) (by simp [results, Tryz.results12, go_sem, cc0, cc1, cl, oo0, oo1, oo2, oo3, ol]) rfl ⟨HBW8.out.drew, cm, o, KA, j, kc, rfl, fun h => (by cases h)⟩
  case true =>
    have q2 : 0 = e2 := HE2.out
    subst q2
    go_wp2_with fail
    refine wp_region_held_drew (S := fun W => Chg [w.heap.size + 1, w.heap.size + 1 + 1] w6 W) (by kernel_rfl) ((Chg.refl _ _).drew) (fun hS0 => ?_)
    refine wpAnyH_take (i := 0) (v := ?_) rfl (by kernel_rfl) (by kernel_rfl) (by kernel_rfl) (fun _ _ _ h => h) (Or.inl ⟨by kernel_rfl, ?hy⟩) hS0 ?rest
    case hy => (intro W hSw; have y0 := (hSw.block gc (HC6.out.lt) (by have := HZ0.out; simp; omega)).trans HC6.out; have y1 := Blk.of_cell y0 (i := 0) rfl; have y2 := Blk.of_cell y0 (i := 1) rfl; have yl := Blk.lt y0; clear hSw y0; go_simp; with_reducible rfl)
    case rest =>
    refine wpAnyH_take (i := 1) (v := ?_) rfl (by kernel_rfl) (by kernel_rfl) (by kernel_rfl) (fun _ _ _ h => h) (Or.inl ⟨by kernel_rfl, ?hy⟩) hS0 ?rest
    case hy => (intro W hSw; have y0 := (hSw.block go (HO6.out.lt) (by have := HZ0.out; simp; omega)).trans HO6.out; have y1 := Blk.of_cell y0 (i := 0) rfl; have y2 := Blk.of_cell y0 (i := 1) rfl; have y3 := Blk.of_cell y0 (i := 2) rfl; have y4 := Blk.of_cell y0 (i := 3) rfl; have yl := Blk.lt y0; clear hSw y0; go_simp; with_reducible rfl)
    case rest =>
    refine wpAnyH_take (i := 2) (v := ?_) rfl (by kernel_rfl) (by kernel_rfl) (by kernel_rfl) (fun _ _ _ h => h) (Or.inl ⟨by kernel_rfl, ?hy⟩) hS0 ?rest
    case hy => (intro W hSw; clear hSw; go_simp; with_reducible rfl)
    case rest =>
    refine wpAnyH_take (i := 3) (v := ?_) rfl (by kernel_rfl) (by kernel_rfl) (by kernel_rfl) (fun _ _ _ h => h) (Or.inl ⟨by kernel_rfl, ?hy⟩) hS0 ?rest
    case hy => (intro W hSw; clear hSw; go_simp; with_reducible rfl)
    case rest =>
    refine wpAnyH_take (i := 4) (v := ?_) rfl (by kernel_rfl) (by kernel_rfl) (by kernel_rfl) (fun _ _ _ h => h) (Or.inl ⟨by kernel_rfl, ?hy⟩) hS0 ?rest
    case hy => (intro W hSw; clear hSw; go_simp; with_reducible rfl)
    case rest =>
    refine wpAnyH_take (i := 5) (v := ?_) rfl (by kernel_rfl) (by kernel_rfl) (by kernel_rfl) (fun _ _ _ h => h) (Or.inl ⟨by kernel_rfl, ?hy⟩) hS0 ?rest
    case hy => (intro W hSw; clear hSw; go_simp; with_reducible rfl)
    case rest =>
    try go_simp
    refine wpAnyH_take (i := 6) (v := ?_) rfl (by kernel_rfl) (by kernel_rfl) (by kernel_rfl) (fun _ _ _ h => h) (Or.inl ⟨by kernel_rfl, ?hy⟩) hS0 ?rest
    case hy => (intro W hSw; clear hSw; go_simp; with_reducible rfl)
    case rest =>
    refine wpAnyH_take (i := 7) (v := ?_) rfl (by kernel_rfl) (by kernel_rfl) (by kernel_rfl) (fun _ _ _ h => h) (Or.inl ⟨by kernel_rfl, ?hy⟩) hS0 ?rest
    case hy => (intro W hSw; clear hSw; go_simp; with_reducible rfl)
    case rest =>
    refine wpAnyH_take (i := 8) (v := ?_) rfl (by kernel_rfl) (by kernel_rfl) (by kernel_rfl) (fun _ _ _ h => h) (Or.inl ⟨by kernel_rfl, ?hy⟩) hS0 ?rest
    case hy => (intro W hSw; clear hSw; go_simp; with_reducible rfl)
    case rest =>
    refine wpAnyH_ready (rs := [9]) (by kernel_rfl) (by simp) ?_
    refine AllReadyH.cons rfl (fun K hK => ?_) (AllReadyH.nil)
    have hz1 : Blk w6 (w.heap.size + 1) 29 #[.string ⟨#[]⟩, .string ⟨#[]⟩] := (HX6.out.block _ (by have := HZ0.out; omega)).trans HK0.out.2.1
    have f0 := hz1.of_cell (i := 0) rfl
    have f1 := hz1.of_cell (i := 1) rfl
    have g0 := hz1.frozen 0
    have g1 := hz1.frozen 1
    have gl := hz1.lt
    have HCB := Lib.hid ((hz1.set 0 (.string cm.1)).set 1 (.string cm.2))
    clear hz1
    go_simp
    refine hK.out _ _ ((((Chg.refl [w.heap.size + 1, w.heap.size + 1 + 1] w6).setCell (p := ⟨w.heap.size + 1, 0, none⟩) (.inl (by simp)) _).setCell (p := ⟨w.heap.size + 1, 1, none⟩) (.inl (by simp)) _).drew) (fun hS1 => ?_)
    clear hK K f0 f1 g0 g1 gl
    refine wpAnyH_ready (rs := [10]) (by kernel_rfl) (by simp) ?_
    refine AllReadyH.cons rfl (fun K hK => ?_) (AllReadyH.nil)
    obtain ⟨w7, hw7⟩ : ∃ W, (w6.setCell ⟨w.heap.size + 1, 0, none⟩ (.string cm.1)).setCell ⟨w.heap.size + 1, 1, none⟩ (.string cm.2) = W := ⟨_, rfl⟩
    rw [hw7] at HCB hS1
    have HS7 : Hid (Chg [w.heap.size + 1, w.heap.size + 1 + 1] w6 w7) := Lib.hid ⟨hS1.1, hS1.2, hS1.3, hS1.4, hS1.5⟩
    have HW7 := Lib.hid hw7
    clear hw7
    have hz2 : Blk w7 (w.heap.size + 1 + 1) 32 #[.int .i64 0, .int .i64 0, .string ⟨#[]⟩, .slice none 0 0] := by
      rw [← HW7.out]
      exact ((Below.heap_setCell _ ⟨w.heap.size + 1, 1, none⟩ _ _ (by simp)).trans (Below.heap_setCell _ ⟨w.heap.size + 1, 0, none⟩ _ _ (by simp))).trans ((HX6.out.block _ (by have := HZ0.out; omega)).trans HK0.out.2.2)
    have f0 := hz2.of_cell (i := 0) rfl
    have f1 := hz2.of_cell (i := 1) rfl
    have f2 := hz2.of_cell (i := 2) rfl
    have f3 := hz2.of_cell (i := 3) rfl
    have g0 := hz2.frozen 0
    have g1 := hz2.frozen 1
    have g2 := hz2.frozen 2
    have g3 := hz2.frozen 3
    have gl := hz2.lt
    have HOB := Lib.hid ((((hz2.set 0 (.int .i64 o.ix)).set 1 (.int .i64 o.v)).set 2 (.string o.salt)).set 3 (.slice o.A o.p.length o.c))
    clear hz2
    rw [HW7.out]
    go_simp
    refine hK.out _ _ (((((HS7.out.setCell (p := ⟨w.heap.size + 1 + 1, 0, none⟩) (.inl (by simp)) _).setCell (p := ⟨w.heap.size + 1 + 1, 1, none⟩) (.inl (by simp)) _).setCell (p := ⟨w.heap.size + 1 + 1, 2, none⟩) (.inl (by simp)) _).setCell (p := ⟨w.heap.size + 1 + 1, 3, none⟩) (.inl (by simp)) _).drew) (fun hS2 => ?_)
    clear hK K f0 f1 f2 f3 g0 g1 g2 g3 gl
    refine wpAnyH_take (i := 11) (v := ?_) rfl (by kernel_rfl) (by kernel_rfl) (by kernel_rfl) (fun _ _ _ h => h) (Or.inl ⟨by kernel_rfl, ?hy⟩) hS2 ?rest
    case hy => (intro W hSw; clear hSw; go_simp; with_reducible rfl)
    case rest =>
    refine wpAnyH_take (i := 12) (v := ?_) rfl (by kernel_rfl) (by kernel_rfl) (by kernel_rfl) (fun _ _ _ h => h) (Or.inl ⟨by kernel_rfl, ?hy⟩) hS2 ?rest
    case hy => (intro W hSw; clear hSw; go_simp; with_reducible rfl)
    case rest =>
    refine wpAnyH_done (by kernel_rfl) ?_ _
    obtain ⟨w8, hw8⟩ : ∃ W, (((w7.setCell ⟨w.heap.size + 1 + 1, 0, none⟩ (.int .i64 o.ix)).setCell ⟨w.heap.size + 1 + 1, 1, none⟩ (.int .i64 o.v)).setCell ⟨w.heap.size + 1 + 1, 2, none⟩ (.string o.salt)).setCell ⟨w.heap.size + 1 + 1, 3, none⟩ (.slice o.A o.p.length o.c) = W := ⟨_, rfl⟩
    have hcb8 : Blk w8 (w.heap.size + 1) 29 #[.string cm.1, .string cm.2] := by
      rw [← hw8]
      exact ((((Below.heap_setCell _ ⟨w.heap.size + 1 + 1, 3, none⟩ _ _ (by simp)).trans (Below.heap_setCell _ ⟨w.heap.size + 1 + 1, 2, none⟩ _ _ (by simp))).trans (Below.heap_setCell _ ⟨w.heap.size + 1 + 1, 1, none⟩ _ _ (by simp))).trans (Below.heap_setCell _ ⟨w.heap.size + 1 + 1, 0, none⟩ _ _ (by simp))).trans HCB.out
    have hob8 := HOB.out
    rw [hw8] at hob8 hS2
    have hob8 : Blk w8 (w.heap.size + 1 + 1) 32 #[.int .i64 o.ix, .int .i64 o.v, .string o.salt, .slice o.A o.p.length o.c] := hob8
    have HS8 : Hid (Chg [w.heap.size + 1, w.heap.size + 1 + 1] w6 w8) := Lib.hid ⟨hS2.1, hS2.2, hS2.3, hS2.4, hS2.5⟩
    have HBW8 : Hid (Below w.heap.size w w8) := Lib.hid ((below_trans HB0.out HX6.out).trans (HS8.out.below (fun k hk => by simp only [List.mem_cons, List.not_mem_nil, or_false] at hk; omega) (by have := HX6.out.size; have := HZ0.out; omega)))
    go_simp
    try rw [hw8]
    have cc0 := Blk.of_cell hcb8 (i := 0) rfl
    have cc1 := Blk.of_cell hcb8 (i := 1) rfl
    have cl := Blk.lt hcb8
    have oo0 := Blk.of_cell hob8 (i := 0) rfl
    have oo1 := Blk.of_cell hob8 (i := 1) rfl
    have oo2 := Blk.of_cell hob8 (i := 2) rfl
    have oo3 := Blk.of_cell hob8 (i := 3) rfl
    have ol := Blk.lt hob8
    clear hcb8 hob8 hw8 hS0 hS1 hS2
    go_wp2
    exact bodyPost_ret (v := .tuple #[.agg #[.string cm.1, .string cm.2], .agg #[.int .i64 o.ix, .int .i64 o.v, .string o.salt, .slice o.A o.p.length o.c], .slice KA j kc, .bool true]) (by simp [results, Tryz.results12, go_sem, cc0, cc1, cl, oo0, oo1, oo2, oo3, ol]) rfl ⟨HBW8.out.drew, cm, o, KA, j, kc, rfl, fun _ => ⟨rfl, HOO.out (by trivial), HPO6.out.keep (fun a cs _ hcs => HKEEP.out w8 HS8.out _ (by decide) (by decide) _ cs hcs), HPC.out, rfl, ls, (KwT.keep (w := w6) ⟨by unfold RowOf; rw [HKS.out.1]; exact HRK6.out, HTY6.out, HPS.out⟩ (HKEEP.out w8 HS8.out _ (by decide) (by decide)) (HKEEP.out w8 HS8.out _ (by decide) (by decide))), HKS.out⟩⟩
end

section
open Go.RowKit

def zOgT : Og := ⟨0, 0, ⟨#[]⟩, none, 0, []⟩
/-- The sum of the first keepers' seeds for a slot. -/
def sdT (l : List Kr) (i : Nat) : Nat → Int
  | 0 => 0
  | k + 1 => sdT l i k + ((l[k]?.bind fun kr => kr.seeds[i]?).getD 0)
/-- What the rows hold. -/
structure HonOk (l : List Kr) (n i j : Nat) (cl : Nat → Bool) (os : List Og) (ks : List Kw) : Prop where
  ol : os.length = j
  kl : ks.length = j
  o : ∀ (q : Nat) (kr : Kr), q < j → l[q]? = some kr → if cl q then os[q]? = some zOgT else ∃ A c, os[q]? = some (ogOf kr i A c)
  k : ∀ (q : Nat) (kr : Kr), q < j → l[q]? = some kr → ∃ a, ks[q]? = some a ∧ KpsOk kr n l.length i l.length a.l
theorem hon_one {l : List Kr} {need i : Int} {cl : Nat → Bool} {os : List Og} {ks : List Kw} (h : HonOk l need.toNat i.toNat l.length cl os ks) (ha : l.all (okK l.length need i) = true) (n : Nat) (hn : ∀ kr, kr ∈ l → kr.seeds.length = n) {k : Nat} {kr : Kr} (hk : l[k]? = some kr) :
    (krs (l.map (cmK l.length need)) (n : Int) i os (ks.map (·.l)) need)[k]? = some (kr.seeds[i.toNat]?.getD 0, 0, cl k) := by
  have hkl' : k < l.length := (List.getElem?_eq_some_iff.1 hk).1
  have hm := List.mem_of_getElem? hk
  have hok := List.all_eq_true.1 ha kr hm
  obtain ⟨a, ha', hks⟩ := h.k k kr hkl' hk
  have h1 : (l.map (cmK l.length need))[k]? = some (cmK l.length need kr) := by rw [List.getElem?_map, hk]; rfl
  have h2 : (ks.map (·.l))[k]? = some a.l := by rw [List.getElem?_map, ha']; rfl
  have h4 := h.o k kr hkl' hk
  obtain ⟨nd, hnd, hdv⟩ := okK_num hok
  cases hc : cl k with
  | true =>
    rw [hc, if_pos rfl] at h4
    rw [krs_get h1 h4 h2, ← hn kr hm, List.length_map, kone_held hok (o := zOgT) (fun _ => ck_empty _ _ _ _ _) (fun q hq => by
      obtain ⟨p, A, c, hp, he⟩ := hks.each hq
      exact ⟨p, A, c, hp, he⟩) hks.nodup, if_neg (by rw [hks.1]; have := hdv.le; omega)]
  | false =>
    rw [hc, if_neg (by decide)] at h4
    obtain ⟨A, c, ho⟩ := h4
    rw [krs_get h1 ho h2, ← hn kr hm, kone_own hok]
theorem hon_draw {l : List Kr} {need i : Int} {cl : Nat → Bool} {os : List Og} {ks : List Kw} (h : HonOk l need.toNat i.toNat l.length cl os ks) (ha : l.all (okK l.length need i) = true) (n : Nat) (hn : ∀ kr, kr ∈ l → kr.seeds.length = n) :
    ∃ W, kall (krs (l.map (cmK l.length need)) (n : Int) i os (ks.map (·.l)) need) = (sdT l i.toNat l.length % 720, W, 0) := by
  have hat := fun (k : Nat) (kr : Kr) (hk : l[k]? = some kr) => hon_one h ha n hn hk
  have hlen : (krs (l.map (cmK l.length need)) (n : Int) i os (ks.map (·.l)) need).length = l.length := by rw [krs_len (by rw [List.length_map]; exact h.ol) (by rw [List.length_map, List.length_map]; exact h.kl), List.length_map]
  generalize krs (l.map (cmK l.length need)) (n : Int) i os (ks.map (·.l)) need = rs at *
  have h0 : ∀ (k : Nat) (r : Int × Int × Bool), rs[k]? = some r → r.2.1 = 0 := fun k r hr => by
    obtain ⟨kr, hkr⟩ := get_some l k (by rw [← hlen]; exact (List.getElem?_eq_some_iff.1 hr).1)
    rw [hat k kr hkr] at hr
    cases hr
    rfl
  have hs : ∀ k, k ≤ l.length → ksum rs k = sdT l i.toNat k % 720 := fun k => by
    induction k with
    | zero => intro _; rfl
    | succ k ih =>
      intro hk
      have i1 := ih (by omega)
      obtain ⟨kr, hkr⟩ := get_some l k (by omega)
      rw [ksum_succ (hat k kr hkr), i1, sdT, hkr]
      simp only [Option.bind_some]
      omega
  exact ⟨kwh rs l.length, by rw [kall_ok h0, hlen, hs _ (Nat.le_refl _)]⟩
theorem sdT_set {l : List Kr} {k : Nat} {x y : Kr} (hx : l[k]? = some x) (i m : Nat) :
    sdT (l.set k y) i m = sdT l i m + (if k < m then (y.seeds[i]?.getD 0) - (x.seeds[i]?.getD 0) else 0) := by
  have hk : k < l.length := (List.getElem?_eq_some_iff.1 hx).1
  induction m with
  | zero => simp [sdT]
  | succ m ih =>
    simp only [sdT]
    rw [ih]
    by_cases h : k = m
    · subst h
      rw [List.getElem?_set_self hk, hx, if_neg (Nat.lt_irrefl _), if_pos (Nat.lt_succ_self _)]
      simp only [Option.bind_some]
      omega
    · rw [List.getElem?_set_ne h]
      by_cases h2 : k < m
      · rw [if_pos h2, if_pos (by omega)]
        omega
      · rw [if_neg h2, if_neg (by omega)]
        omega
theorem sdT_nonneg {l : List Kr} {m : Nat} {need i : Int} (h : l.all (okK m need i) = true) (k : Nat) (hk : k ≤ l.length) : 0 ≤ sdT l i.toNat k ∧ ∀ (q : Nat) (x : Kr), q < k → l[q]? = some x → x.seeds[i.toNat]?.getD 0 ≤ sdT l i.toNat k := by
  induction k with
  | zero => exact ⟨by simp [sdT], fun q x hq => by omega⟩
  | succ k ih =>
    obtain ⟨h0, h1⟩ := ih (by omega)
    obtain ⟨x, hx⟩ := get_some l k (by omega)
    obtain ⟨v, hv, hv0, hv1, -⟩ := okK_seed (List.all_eq_true.1 h x (List.mem_of_getElem? hx))
    simp only [sdT, hx, Option.bind_some, hv, Option.getD_some]
    refine ⟨by omega, fun q y hq hy => ?_⟩
    by_cases hqk : q = k
    · subst hqk
      rw [hx] at hy
      cases hy
      rw [hv, Option.getD_some]
      omega
    · have := h1 q y (by omega) hy
      omega
/-- Another seed of a keeper: it is as it has to be. -/
theorem okK_seedset {m : Nat} {need : Int} {i : Nat} {kr : Kr} (h : okK m need (i : Int) kr = true) {s : Int} (h0 : 0 ≤ s) (h1 : s ≤ 719) (A : Option Addr) (c : Nat) : okK m need (i : Int) ⟨A, c, kr.seeds.set i s, kr.salt, kr.RA, kr.rc, kr.random⟩ = true := by
  have hsd : sdV (kr.seeds.set i s) = true := by
    have hd := okK_dv h
    unfold dvB sdOk at hd
    simp only [Bool.and_eq_true] at hd
    have hv := hd.1.1
    unfold sdV at hv ⊢
    rw [List.all_eq_true] at hv ⊢
    intro x hx
    rcases List.mem_or_eq_of_mem_set hx with h2 | rfl
    · exact hv x h2
    · exact decide_eq_true ⟨h0, h1⟩
  unfold okK dvB sdOk at h ⊢
  simp only [List.length_set]
  rw [hsd]
  simp only [Bool.and_eq_true, decide_eq_true_eq] at h ⊢
  exact ⟨⟨⟨trivial, h.1.1.2⟩, h.1.2⟩, h.2⟩
end

section
open Go.RowKit

/-! ### tests on numbers -/
theorem within1_any (x lo hi : Int) (b1 b2 : Nat) (w : World) (h1 : w.cell? ⟨b1, 0, none⟩ = some (.int .i64 lo)) (h2 : w.cell? ⟨b2, 0, none⟩ = some (.int .i64 hi)) :
    Calls Tryz.prog 118 #[.int .i64 x, .pointer (some ⟨b1, 0, none⟩), .pointer (some ⟨b2, 0, none⟩)] w fun e w' => e = .returned (.bool (!decide (lo ≤ x ∧ x ≤ hi))) ∧ Below w.heap.size w w' := by
  have l1 := lt_of_cell h1
  have l2 := lt_of_cell h2
  by_cases ha : x < lo
  · go_enter Tryz.func118, Tryz.ntmps118
    go_wp2
    go_ret
    exact ⟨ret_bool (by rw [decide_eq_false (show ¬ (lo ≤ x ∧ x ≤ hi) by omega)]; simp [ha]), Below.refl _ _⟩
  · go_enter Tryz.func118, Tryz.ntmps118
    go_wp2
    go_ret
    have ha' : lo ≤ x := by omega
    refine ⟨ret_bool ?_, Below.refl _ _⟩
    rw [Bool.eq_iff_iff]
    simp [ha, ha']
theorem wrong_any (x : Int) (w : World) :
    Calls Tryz.prog 79 #[.int .i64 x] w fun e w' => e = .returned (.bool (!decide (0 ≤ x ∧ x ≤ 1000000000))) ∧ Below w.heap.size w w' := by
  by_cases ha : x < 0
  · go_enter Tryz.func79, Tryz.ntmps79
    go_wp2
    go_ret
    exact ⟨ret_bool (by rw [decide_eq_false (show ¬ (0 ≤ x ∧ x ≤ 1000000000) by omega)]; simp [ha]), Below.refl _ _⟩
  · go_enter Tryz.func79, Tryz.ntmps79
    go_wp2
    go_ret
    have ha' : 0 ≤ x := by omega
    refine ⟨ret_bool ?_, Below.refl _ _⟩
    rw [Bool.eq_iff_iff]
    simp [ha, ha']
theorem all_ok_succ (q : Int → Bool) (l : List Int) (k : Nat) (x : Int) (h : l[k]? = some x) : (l.take (k + 1)).all q = ((l.take k).all q && q x) := by
  rw [List.take_add_one, h, List.all_append]
  simp
set_option maxHeartbeats 4000000 in
theorem idxW_any (lo hi : Int) (b1 b2 : Nat) (A : Option Addr) (c : Nat) (l : List Int) (w : World) (h1 : w.cell? ⟨b1, 0, none⟩ = some (.int .i64 lo)) (h2 : w.cell? ⟨b2, 0, none⟩ = some (.int .i64 hi)) (hA : Ints w A l) (hl : l.length ≤ 9223372036854775807) :
    Calls Tryz.prog 86 #[.slice A l.length c, .func (.func 118) #[] #[.pointer (some ⟨b1, 0, none⟩), .pointer (some ⟨b2, 0, none⟩)]] w fun e w' => (∃ v : Int, e = .returned (.int .i64 v) ∧ (0 ≤ v ↔ (l.all (fun x => decide (lo ≤ x ∧ x ≤ hi))) = false)) ∧ Below w.heap.size w w' := by
  have HA : Hid (∀ W, Below w.heap.size w W → Ints W A l) := Lib.hid (fun W hW => hA.below hW)
  have HP : Hid (∀ (x : Int) W, Below w.heap.size w W → _) := Lib.hid (fun x W hW => within1_any x lo hi b1 b2 W (kept_cell hW h1) (kept_cell hW h2))
  obtain ⟨qf, hqf⟩ : ∃ f : Int → Bool, f = (fun x => decide (lo ≤ x ∧ x ≤ hi)) := ⟨_, rfl⟩
  have HTS : Hid (∀ (k : Nat) (x : Int), l[k]? = some x → (l.take (k + 1)).all qf = ((l.take k).all qf && qf x)) := Lib.hid (fun k x h => all_ok_succ qf l k x h)
  have HBAD : Hid (∀ (k : Nat) (x : Int), l[k]? = some x → qf x = false → l.all qf = false) := Lib.hid (fun k x h hx => by
    rw [List.all_eq_false]
    exact ⟨x, List.mem_of_getElem? h, by rw [hx]; simp⟩)
  have HTK : Hid (l.all qf = (l.take l.length).all qf) := Lib.hid (by rw [List.take_length])
  have HP2 : Hid (∀ (x : Int) W, Below w.heap.size w W → Calls Tryz.prog 118 #[.int .i64 x, .pointer (some ⟨b1, 0, none⟩), .pointer (some ⟨b2, 0, none⟩)] W fun e w' => e = .returned (.bool (!qf x)) ∧ Below W.heap.size W w') := Lib.hid (fun x W hW => by rw [hqf]; exact HP.out x W hW)
  rw [← hqf]
  clear hqf hA HP h1 h2
  go_enter Tryz.func86, Tryz.ntmps86
  go_wp2_with fail
  go_loopw [8] (fun u8 wr => ∃ k : Nat, k ≤ l.length ∧ u8 = .int .i64 k ∧ (l.take k).all qf = true ∧ Below w.heap.size w wr) (fun u8 _ => l.length - (intOf u8).toNat)
  case atStart => exact ⟨0, Nat.zero_le _, rfl, rfl, Below.refl _ _⟩
  case round =>
  obtain ⟨k, hk, rfl, hall, hb⟩ := hrel
  have HALL := Lib.hid hall
  have HB := Lib.hid hb
  clear hall hb
  by_cases hlt : k < l.length
  case pos =>
    have hki : (k : Int) < (l.length : Int) := by omega
    obtain ⟨x, hx⟩ := get_some l k hlt
    obtain ⟨b, off, rfl, c0⟩ := (HA.out wr HB.out).at_ hx
    have c0l := lt_of_cell c0
    have HX := Lib.hid hx
    clear hx
    obtain ⟨v, hv⟩ : ∃ v, qf x = v := ⟨_, rfl⟩
    have HV := Lib.hid hv
    have HC := Lib.hid (HP2.out x wr HB.out)
    rw [hv] at HC
    clear hv
    go_wp2_with fail
    refine HC.out.mono ?_
    rintro e w1 ⟨rfl, hb1⟩
    have HB1 := Lib.hid (below_trans HB.out hb1)
    clear hb1 c0 c0l
    cases v with
    | true =>
      go_wp2
      go_roundw
      case rel => exact ⟨k + 1, by omega, by go_num, by rw [HTS.out k x HX.out, HALL.out, HV.out]; rfl, HB1.out⟩
      case measure => first | (simp [intOf]; done) | (simp [intOf]; omega)
    | false =>
      go_wp2
      go_ret
      exact ⟨⟨k, rfl, fun _ => HBAD.out k x HX.out HV.out, fun _ => Int.natCast_nonneg k⟩, HB1.out⟩
  case neg =>
  obtain rfl : k = l.length := by omega
  go_wp2
  go_ret
  exact ⟨⟨-1, rfl, by rw [HTK.out, HALL.out]; simp⟩, HB.out⟩
set_option maxHeartbeats 1600000 in
theorem hasW_any (lo hi : Int) (b1 b2 : Nat) (A : Option Addr) (c : Nat) (l : List Int) (w : World) (h1 : w.cell? ⟨b1, 0, none⟩ = some (.int .i64 lo)) (h2 : w.cell? ⟨b2, 0, none⟩ = some (.int .i64 hi)) (hA : Ints w A l) (hl : l.length ≤ 9223372036854775807) :
    Calls Tryz.prog 80 #[.slice A l.length c, .func (.func 118) #[] #[.pointer (some ⟨b1, 0, none⟩), .pointer (some ⟨b2, 0, none⟩)]] w fun e w' => e = .returned (.bool (!(l.all (fun x => decide (lo ≤ x ∧ x ≤ hi))))) ∧ Below w.heap.size w w' := by
  have H := Lib.hid (idxW_any lo hi b1 b2 A c l w h1 h2 hA hl)
  clear hA h1 h2
  obtain ⟨r, hr⟩ : ∃ r, l.all (fun x => decide (lo ≤ x ∧ x ≤ hi)) = r := ⟨_, rfl⟩
  rw [hr] at H ⊢
  clear hr
  go_enter Tryz.func80, Tryz.ntmps80
  go_wp2_with fail
  refine H.out.mono ?_
  rintro e w1 ⟨⟨v, rfl, hv⟩, hb1⟩
  have HB1 := Lib.hid hb1
  have HV := Lib.hid hv
  clear hb1 hv
  go_wp2
  go_ret
  refine ⟨ret_bool ?_, HB1.out⟩
  have := HV.out
  cases r <;> simp at this <;> simp [this]
set_option maxHeartbeats 4000000 in
theorem idxS_any (A : Option Addr) (c : Nat) (l : List Int) (w : World) (hA : Ints w A l) (hl : l.length ≤ 9223372036854775807) :
    Calls Tryz.prog 86 #[.slice A l.length c, .func (.func 79) #[] #[]] w fun e w' => (∃ v : Int, e = .returned (.int .i64 v) ∧ (0 ≤ v ↔ (l.all (fun x => decide (0 ≤ x ∧ x ≤ 1000000000))) = false)) ∧ Below w.heap.size w w' := by
  have HA : Hid (∀ W, Below w.heap.size w W → Ints W A l) := Lib.hid (fun W hW => hA.below hW)
  have HP : Hid (∀ (x : Int) W, Below w.heap.size w W → _) := Lib.hid (fun x W hW => wrong_any x W)
  obtain ⟨qf, hqf⟩ : ∃ f : Int → Bool, f = (fun x => decide (0 ≤ x ∧ x ≤ 1000000000)) := ⟨_, rfl⟩
  have HTS : Hid (∀ (k : Nat) (x : Int), l[k]? = some x → (l.take (k + 1)).all qf = ((l.take k).all qf && qf x)) := Lib.hid (fun k x h => all_ok_succ qf l k x h)
  have HBAD : Hid (∀ (k : Nat) (x : Int), l[k]? = some x → qf x = false → l.all qf = false) := Lib.hid (fun k x h hx => by
    rw [List.all_eq_false]
    exact ⟨x, List.mem_of_getElem? h, by rw [hx]; simp⟩)
  have HTK : Hid (l.all qf = (l.take l.length).all qf) := Lib.hid (by rw [List.take_length])
  have HP2 : Hid (∀ (x : Int) W, Below w.heap.size w W → Calls Tryz.prog 79 #[.int .i64 x] W fun e w' => e = .returned (.bool (!qf x)) ∧ Below W.heap.size W w') := Lib.hid (fun x W hW => by rw [hqf]; exact HP.out x W hW)
  rw [← hqf]
  clear hqf hA HP 
  go_enter Tryz.func86, Tryz.ntmps86
  go_wp2_with fail
  go_loopw [8] (fun u8 wr => ∃ k : Nat, k ≤ l.length ∧ u8 = .int .i64 k ∧ (l.take k).all qf = true ∧ Below w.heap.size w wr) (fun u8 _ => l.length - (intOf u8).toNat)
  case atStart => exact ⟨0, Nat.zero_le _, rfl, rfl, Below.refl _ _⟩
  case round =>
  obtain ⟨k, hk, rfl, hall, hb⟩ := hrel
  have HALL := Lib.hid hall
  have HB := Lib.hid hb
  clear hall hb
  by_cases hlt : k < l.length
  case pos =>
    have hki : (k : Int) < (l.length : Int) := by omega
    obtain ⟨x, hx⟩ := get_some l k hlt
    obtain ⟨b, off, rfl, c0⟩ := (HA.out wr HB.out).at_ hx
    have c0l := lt_of_cell c0
    have HX := Lib.hid hx
    clear hx
    obtain ⟨v, hv⟩ : ∃ v, qf x = v := ⟨_, rfl⟩
    have HV := Lib.hid hv
    have HC := Lib.hid (HP2.out x wr HB.out)
    rw [hv] at HC
    clear hv
    go_wp2_with fail
    refine HC.out.mono ?_
    rintro e w1 ⟨rfl, hb1⟩
    have HB1 := Lib.hid (below_trans HB.out hb1)
    clear hb1 c0 c0l
    cases v with
    | true =>
      go_wp2
      go_roundw
      case rel => exact ⟨k + 1, by omega, by go_num, by rw [HTS.out k x HX.out, HALL.out, HV.out]; rfl, HB1.out⟩
      case measure => first | (simp [intOf]; done) | (simp [intOf]; omega)
    | false =>
      go_wp2
      go_ret
      exact ⟨⟨k, rfl, fun _ => HBAD.out k x HX.out HV.out, fun _ => Int.natCast_nonneg k⟩, HB1.out⟩
  case neg =>
  obtain rfl : k = l.length := by omega
  go_wp2
  go_ret
  exact ⟨⟨-1, rfl, by rw [HTK.out, HALL.out]; simp⟩, HB.out⟩
set_option maxHeartbeats 1600000 in
theorem hasS_any (A : Option Addr) (c : Nat) (l : List Int) (w : World) (hA : Ints w A l) (hl : l.length ≤ 9223372036854775807) :
    Calls Tryz.prog 80 #[.slice A l.length c, .func (.func 79) #[] #[]] w fun e w' => e = .returned (.bool (!(l.all (fun x => decide (0 ≤ x ∧ x ≤ 1000000000))))) ∧ Below w.heap.size w w' := by
  have H := Lib.hid (idxS_any A c l w hA hl)
  clear hA 
  obtain ⟨r, hr⟩ : ∃ r, l.all (fun x => decide (0 ≤ x ∧ x ≤ 1000000000)) = r := ⟨_, rfl⟩
  rw [hr] at H ⊢
  clear hr
  go_enter Tryz.func80, Tryz.ntmps80
  go_wp2_with fail
  refine H.out.mono ?_
  rintro e w1 ⟨⟨v, rfl, hv⟩, hb1⟩
  have HB1 := Lib.hid hb1
  have HV := Lib.hid hv
  clear hb1 hv
  go_wp2
  go_ret
  refine ⟨ret_bool ?_, HB1.out⟩
  have := HV.out
  cases r <;> simp at this <;> simp [this]
/-- Numbers within bounds. -/
def witB (lo hi : Int) (l : List Int) : Bool := l.all fun x => decide (lo ≤ x ∧ x ≤ hi)
set_option maxHeartbeats 1600000 in
theorem lwithin_any (lo hi : Int) (A : Option Addr) (c : Nat) (l : List Int) (w : World) (hA : Ints w A l) (hl : l.length ≤ 9223372036854775807) :
    Calls Tryz.prog 78 #[.int .i64 lo, .int .i64 hi, .slice A l.length c] w fun e w' => e = .returned (.bool (witB lo hi l)) ∧ Below w.heap.size w w' := by
  obtain ⟨w0, hw0⟩ : ∃ w0, (w.alloc (.cells #[.int .i64 lo] 3)).alloc (.cells #[.int .i64 hi] 3) = w0 := ⟨_, rfl⟩
  have HB0 : Hid (Below w.heap.size w w0) := Lib.hid (by rw [← hw0]; exact below_alloc (below_alloc (Below.refl _ _) _) _)
  have k1 : Blk w0 w.heap.size 3 #[.int .i64 lo] := by rw [← hw0]; exact (Blk.new w _ _ _ rfl).alloc _
  have k2 : Blk w0 (w.heap.size + 1) 3 #[.int .i64 hi] := by rw [← hw0]; exact Blk.new _ _ _ _ (by simp)
  have HC := Lib.hid (hasW_any lo hi w.heap.size (w.heap.size + 1) A c l w0 (k1.of_cell (i := 0) rfl) (k2.of_cell (i := 0) rfl) (hA.below HB0.out) hl)
  have HW0 := Lib.hid hw0
  obtain ⟨r, hr⟩ : ∃ r, witB lo hi l = r := ⟨_, rfl⟩
  rw [show (l.all fun x => decide (lo ≤ x ∧ x ≤ hi)) = witB lo hi l from rfl, hr] at HC
  rw [hr]
  clear hA hw0 k1 k2 hr
  go_enter Tryz.func78, Tryz.ntmps78
  go_wp2_with fail
  have hw0 := HW0.out
  rw [hw0]
  clear hw0
  refine HC.out.mono ?_
  rintro e w1 ⟨rfl, hb⟩
  have HB1 := Lib.hid (below_trans HB0.out hb)
  clear hb
  cases r <;> go_wp2
  all_goals go_ret
  all_goals exact ⟨rfl, HB1.out⟩
theorem lwithin_one (lo hi x : Int) (w : World) :
    Calls Tryz.prog 78 #[.int .i64 lo, .int .i64 hi, .slice (some ⟨w.heap.size, 0, none⟩) 1 1] (w.alloc (.cells #[.int .i64 x] 3)) fun e w' => e = .returned (.bool (decide (lo ≤ x ∧ x ≤ hi))) ∧ Below w.heap.size w w' := by
  have h := lwithin_any lo hi (some ⟨w.heap.size, 0, none⟩) 1 [x] (w.alloc (.cells #[.int .i64 x] 3)) (Rd_new w #[.int .i64 x] _ 1 1 _ rfl rfl) (show 1 ≤ 9223372036854775807 by decide)
  refine h.mono ?_
  rintro e w' ⟨rfl, hb⟩
  refine ⟨?_, below_trans (below_alloc (Below.refl _ _) _) hb⟩
  simp [witB]

/-! ### a list of tickets -/
def isum : List Int → Int
  | [] => 0
  | x :: r => x + isum r
theorem isum_append (l m : List Int) : isum (l ++ m) = isum l + isum m := by
  induction l with
  | nil => simp [isum]
  | cons x l ih => simp only [List.cons_append, isum, ih]; omega
theorem isum_take (l : List Int) (k : Nat) (x : Int) (h : l[k]? = some x) : isum (l.take (k + 1)) = isum (l.take k) + x := by
  rw [List.take_add_one, h, isum_append]
  simp [isum]
theorem isum_range {l : List Int} {a b : Int} (h : ∀ x, x ∈ l → a ≤ x ∧ x ≤ b) (h0 : 0 ≤ a) : 0 ≤ isum l ∧ isum l ≤ b * l.length := by
  induction l with
  | nil => simp [isum]
  | cons x l ih =>
    obtain ⟨h1, h2⟩ := ih (fun y hy => h y (List.mem_cons_of_mem _ hy))
    have := h x List.mem_cons_self
    simp only [isum, List.length_cons]
    rw [show ((l.length + 1 : Nat) : Int) = (l.length : Int) + 1 by omega, Int.mul_add, Int.mul_one]
    omega
def listB (l : List Int) : Bool := decide (1 ≤ l.length ∧ l.length ≤ 200) && witB 0 720 l && decide (isum l = 720)
set_option maxHeartbeats 4000000 in
theorem llist_any (A : Option Addr) (c : Nat) (l : List Int) (w : World) (hA : Ints w A l) (hl : l.length ≤ 9223372036854775807) :
    Calls Tryz.prog 84 #[.slice A l.length c] w fun e w' => e = .returned (.bool (listB l)) ∧ Below w.heap.size w w' := by
  have HA : Hid (∀ W, Below w.heap.size w W → Ints W A l) := Lib.hid (fun W hW => hA.below hW)
  have HO := Lib.hid (lwithin_one 1 200 l.length w)
  have HW2 : Hid (∀ W, Below w.heap.size w W → _) := Lib.hid (fun W hW => lwithin_any 0 720 A c l W (hA.below hW) hl)
  obtain ⟨r, hr⟩ : ∃ r, listB l = r := ⟨_, rfl⟩
  obtain ⟨b1, hb1⟩ : ∃ b, decide ((1 : Int) ≤ (l.length : Int) ∧ (l.length : Int) ≤ 200) = b := ⟨_, rfl⟩
  obtain ⟨b2, hb2⟩ : ∃ b, witB 0 720 l = b := ⟨_, rfl⟩
  rw [hb1] at HO
  rw [hb2] at HW2
  have HR1 : Hid (b1 = false → r = false) := Lib.hid (fun h => by
    rw [h] at hb1
    have := of_decide_eq_false hb1
    rw [← hr]; unfold listB; rw [decide_eq_false (by omega)]; rfl)
  have HR2 : Hid (b2 = false → r = false) := Lib.hid (fun h => by rw [← hr]; unfold listB; rw [hb2, h]; simp)
  have HR3 : Hid (b1 = true → b2 = true → r = decide (isum l = 720)) := Lib.hid (fun h1 h2 => by
    rw [h1] at hb1
    have := of_decide_eq_true hb1
    rw [← hr]; unfold listB; rw [decide_eq_true (by omega), hb2, h2]; rfl)
  have HBD : Hid (b1 = true → l.length ≤ 200) := Lib.hid (fun h => by rw [h] at hb1; have := of_decide_eq_true hb1; omega)
  have HRG : Hid (b2 = true → b1 = true → ∀ k, 0 ≤ isum (l.take k) ∧ isum (l.take k) ≤ 720 * 200) := Lib.hid (fun h2 h1 k => by
    rw [h1] at hb1
    have h3 := of_decide_eq_true hb1
    rw [h2] at hb2
    have := isum_range (l := l.take k) (a := 0) (b := 720) (fun x hx => by
      have := List.all_eq_true.1 hb2 x (List.mem_of_mem_take hx)
      exact of_decide_eq_true this) (by decide)
    have hk : (l.take k).length ≤ 200 := Nat.le_trans (List.length_take_le' _ _) (by omega)
    omega)
  have HXR : Hid (b2 = true → ∀ (k : Nat) (x : Int), l[k]? = some x → 0 ≤ x ∧ x ≤ 720) := Lib.hid (fun h2 k x hx => by
    rw [h2] at hb2
    exact of_decide_eq_true (List.all_eq_true.1 hb2 x (List.mem_of_getElem? hx)))
  have HST : Hid (∀ (k : Nat) (x : Int), l[k]? = some x → _) := Lib.hid (fun k x h => isum_take l k x h)
  have HSL : Hid (isum (l.take l.length) = isum l) := Lib.hid (by rw [List.take_length])
  have HS0 : Hid (isum (l.take 0) = 0) := Lib.hid rfl
  rw [hr]
  clear hA hr hb1 hb2
  go_enter Tryz.func84, Tryz.ntmps84
  go_wp2_with fail
  refine HO.out.mono ?_
  rintro e w1 ⟨rfl, hb⟩
  have HB1 := Lib.hid hb
  clear hb
  cases b1
  case false =>
    have hrf := HR1.out rfl
    subst hrf
    go_wp2
    go_ret
    exact ⟨rfl, HB1.out⟩
  case true =>
  go_wp2_with fail
  refine (HW2.out w1 HB1.out).mono ?_
  rintro e w2 ⟨rfl, hb⟩
  have HB2 := Lib.hid (below_trans HB1.out hb)
  clear hb
  cases b2
  case false =>
    have hrf := HR2.out rfl
    subst hrf
    go_wp2
    go_ret
    exact ⟨rfl, HB2.out⟩
  case true =>
  have hl2 := HBD.out (by trivial)
  go_wp2_with fail
  go_loop [3, 18] (fun u3 u18 => ∃ k : Nat, k ≤ l.length ∧ u18 = .int .i64 k ∧ u3 = .int .i64 (isum (l.take k))) (fun _ u18 => l.length - (intOf u18).toNat)
  case atStart => exact ⟨0, Nat.zero_le _, rfl, by rw [HS0.out]⟩
  case round =>
  obtain ⟨k, hk, rfl, rfl⟩ := hrel
  obtain ⟨s0, s1⟩ := HRG.out (by trivial) (by trivial) k
  by_cases hlt : k < l.length
  case pos =>
    have hki : (k : Int) < (l.length : Int) := by omega
    obtain ⟨x, hx⟩ := get_some l k hlt
    obtain ⟨b, off, rfl, c0⟩ := (HA.out w2 HB2.out).at_ hx
    have c0l := lt_of_cell c0
    obtain ⟨x0, x1⟩ := HXR.out (by trivial) k x hx
    have HX := Lib.hid hx
    clear hx
    go_wp2
    go_round
    case rel => exact ⟨k + 1, by omega, by go_num, by rw [HST.out k x HX.out]⟩
    case measure => first | (simp [intOf]; done) | (simp [intOf]; omega)
  case neg =>
  obtain rfl : k = l.length := by omega
  have hrf := HR3.out (by trivial) (by trivial)
  have HRF := Lib.hid hrf
  clear hrf
  go_wp2
  go_ret
  exact ⟨ret_bool (by rw [HRF.out, Bool.eq_iff_iff]; simp [HSL.out]), HB2.out⟩
/-! ### the winner -/
/-- The request that a draw names. -/
def wnr : List Int → Int → Nat
  | [], _ => 0
  | t :: r, d => if d < t then 0 else wnr r (d - t) + 1
theorem wnr_at : ∀ (l : List Int) (d : Int) (k : Nat) (x : Int), l[k]? = some x → (∀ j, j ≤ k → isum (l.take j) ≤ d) → d < isum (l.take (k + 1)) → wnr l d = k
  | [], _, k, x, h, _, _ => by simp at h
  | t :: r, d, 0, x, h, _, h2 => by
    simp only [List.take_succ_cons, List.take_zero, isum] at h2
    rw [wnr, if_pos (by omega)]
  | t :: r, d, k + 1, x, h, h1, h2 => by
    have h3 := h1 1 (by omega)
    simp only [List.take_succ_cons, List.take_zero, isum] at h3
    rw [wnr, if_neg (by omega), wnr_at r (d - t) k x (by simpa using h) (fun j hj => by
      have := h1 (j + 1) (by omega)
      simp only [List.take_succ_cons, isum] at this
      omega) (by
      simp only [List.take_succ_cons, isum] at h2 ⊢
      omega)]
set_option maxHeartbeats 4000000 in
theorem reached_any (x s d : Int) (bs bd : Nat) (w : World) (hs : Blk w bs 3 #[.int .i64 s]) (hd : w.cell? ⟨bd, 0, none⟩ = some (.int .i64 d)) (hne : bd ≠ bs) (h0 : 0 ≤ s ∧ s ≤ 1000000) (h1 : 0 ≤ x ∧ x ≤ 1000000) :
    Calls Tryz.prog 85 #[.int .i64 x, .pointer (some ⟨bs, 0, none⟩), .pointer (some ⟨bd, 0, none⟩)] w fun e w' => e = .returned (.bool (decide (d < s + x))) ∧ w.setCell ⟨bs, 0, none⟩ (.int .i64 (s + x)) = w' := by
  have c0 := hs.of_cell (i := 0) rfl
  have f0 := hs.frozen 0
  have l0 := hs.lt
  have l1 := lt_of_cell hd
  have HS := Lib.hid hs
  have HD : Hid ((w.setCell ⟨bs, 0, none⟩ (.int .i64 (s + x))).cell? ⟨bd, 0, none⟩ = some (.int .i64 d)) := Lib.hid (by
    rw [World.cell?_of_block (w := w) (a := ⟨bd, 0, none⟩) (Below.heap_setCell w ⟨bs, 0, none⟩ _ bd hne)]
    exact hd)
  have HC : Hid ((w.setCell ⟨bs, 0, none⟩ (.int .i64 (s + x))).cell? ⟨bs, 0, none⟩ = some (.int .i64 (s + x))) := Lib.hid ((hs.set 0 (.int .i64 (s + x))).of_cell (i := 0) rfl)
  have HZ : Hid ((w.setCell ⟨bs, 0, none⟩ (.int .i64 (s + x))).heap.size = w.heap.size) := Lib.hid (by simp)
  have HW : Hid (∀ W, w.setCell ⟨bs, 0, none⟩ (.int .i64 (s + x)) = W → W.cell? ⟨bd, 0, none⟩ = some (.int .i64 d) ∧ W.cell? ⟨bs, 0, none⟩ = some (.int .i64 (s + x)) ∧ bs < W.heap.size ∧ bd < W.heap.size) := Lib.hid (fun W h => by
    subst h
    exact ⟨HD.out, HC.out, by rw [HZ.out]; exact l0, by rw [HZ.out]; exact l1⟩)
  obtain ⟨W, hW⟩ : ∃ W, w.setCell ⟨bs, 0, none⟩ (.int .i64 (s + x)) = W := ⟨_, rfl⟩
  obtain ⟨q1, q2, q3, q4⟩ := HW.out W hW
  rw [hW]
  have HWE := Lib.hid hW
  clear hs HD HC HZ HW hW
  obtain ⟨h00, h01⟩ := h0
  obtain ⟨h10, h11⟩ := h1
  go_enter Tryz.func85, Tryz.ntmps85
  repeat (first | (rw [HWE.out]; clear HWE c0 f0) | go_values | go_skip | go_guarded | go_step | go_upon)
  all_goals go_wp2
  all_goals go_ret
  all_goals exact ⟨rfl, rfl⟩
end

section
open Go.RowKit

/-- A party (its weight, its seats) has a greater quotient than another one. -/
def bfr (p q : Int × Int) : Bool := decide (q.1 * (p.2 + 1) < p.1 * (q.2 + 1))
def ptOk (p : Int × Int) : Prop := 0 ≤ p.1 ∧ p.1 ≤ 1000000000 ∧ 0 ≤ p.2 ∧ p.2 ≤ 1000
theorem mul_bd {a b : Int} (ha : 0 ≤ a) (ha2 : a ≤ 1000000000) (hb : 0 ≤ b) (hb2 : b ≤ 1001) : 0 ≤ a * b ∧ a * b ≤ 1001000000000 := by
  refine ⟨Int.mul_nonneg ha hb, ?_⟩
  have := Int.mul_le_mul ha2 hb2 hb (by decide)
  omega
set_option maxHeartbeats 4000000 in
theorem before_any (p q : Int × Int) (w : World) (hp : ptOk p) (hq : ptOk q) :
    Calls Tryz.prog 83 #[.agg #[.int .i64 p.1, .int .i64 p.2], .agg #[.int .i64 q.1, .int .i64 q.2]] w fun e w' => e = .returned (.bool (bfr p q)) ∧ Below w.heap.size w w' := by
  obtain ⟨p0, p1, p2, p3⟩ := hp
  obtain ⟨q0, q1, q2, q3⟩ := hq
  have m1 := mul_bd p0 p1 (b := q.2 + 1) (by omega) (by omega)
  have m2 := mul_bd q0 q1 (b := p.2 + 1) (by omega) (by omega)
  unfold bfr
  obtain ⟨x1, hx1⟩ : ∃ x, p.1 * (q.2 + 1) = x := ⟨_, rfl⟩
  obtain ⟨x2, hx2⟩ : ∃ x, q.1 * (p.2 + 1) = x := ⟨_, rfl⟩
  rw [hx1] at m1 ⊢
  rw [hx2] at m2 ⊢
  obtain ⟨m10, m11⟩ := m1
  obtain ⟨m20, m21⟩ := m2
  obtain ⟨w0, hw0⟩ : ∃ w0, (w.alloc (.cells #[.int .i64 p.1, .int .i64 p.2] 119)).alloc (.cells #[.int .i64 q.1, .int .i64 q.2] 119) = w0 := ⟨_, rfl⟩
  have HB0 : Hid (Below w.heap.size w w0) := Lib.hid (by rw [← hw0]; exact below_alloc (below_alloc (Below.refl _ _) _) _)
  have k1 : Blk w0 w.heap.size 119 #[.int .i64 p.1, .int .i64 p.2] := by rw [← hw0]; exact (Blk.new w _ _ _ rfl).alloc _
  have k2 : Blk w0 (w.heap.size + 1) 119 #[.int .i64 q.1, .int .i64 q.2] := by rw [← hw0]; exact Blk.new _ _ _ _ (by simp)
  have c0 := k1.of_cell (i := 0) rfl
  have c1 := k1.of_cell (i := 1) rfl
  have d0 := k2.of_cell (i := 0) rfl
  have d1 := k2.of_cell (i := 1) rfl
  have kl := k2.lt
  clear k1 k2
  have HW0 := Lib.hid hw0
  clear hw0
  go_enter Tryz.func83, Tryz.ntmps83
  repeat (first | (rw [HW0.out]; clear HW0) | go_values | go_skip | go_guarded | go_step | go_upon)
  all_goals go_wp2
  all_goals go_ret
  all_goals exact ⟨rfl, HB0.out⟩
/-- The first of the parties that no other one comes before, of the first ones. -/
def bstK (P : List (Int × Int)) : Nat → Nat
  | 0 => 0
  | i + 1 => if bfr (P[i]?.getD (0, 0)) (P[bstK P i]?.getD (0, 0)) then i else bstK P i
def bst (P : List (Int × Int)) : Nat := bstK P P.length
theorem bstK_lt (P : List (Int × Int)) (h : 0 < P.length) (k : Nat) (hk : k ≤ P.length) : bstK P k < P.length := by
  induction k with
  | zero => exact h
  | succ k ih =>
    rw [bstK]
    split
    · omega
    · exact ih (by omega)
theorem bst_lt {P : List (Int × Int)} (h : 0 < P.length) : bst P < P.length := bstK_lt P h _ (Nat.le_refl _)
set_option maxRecDepth 100000 in
set_option maxHeartbeats 8000000 in
theorem best_any (g c : Nat) (P : List (Int × Int)) (w : World) (hA : Prs w (some ⟨g, 0, none⟩) P) (h1 : 0 < P.length) (h2 : P.length ≤ 1000) (hok : ∀ p, p ∈ P → ptOk p) :
    Calls Tryz.prog 82 #[.slice (some ⟨g, 0, none⟩) P.length c, .func (.func 83) #[] #[]] w fun e w' => e = .returned (.int .i64 (bst P)) ∧ Below w.heap.size w w' := by
  have HA : Hid (∀ W, Below w.heap.size w W → ∀ (k : Nat) (p : Int × Int), P[k]? = some p → W.cell? ⟨g, k * 2, none⟩ = some (.int .i64 p.1) ∧ W.cell? ⟨g, k * 2 + 1, none⟩ = some (.int .i64 p.2)) := Lib.hid (fun W hW k p h => by
    obtain ⟨b, off, he, g1, g2⟩ := (hA.below hW).at_ h
    cases he
    rw [Nat.zero_add] at g1 g2
    exact ⟨g1, g2⟩)
  have HBF : Hid (∀ (p q : Int × Int) W, p ∈ P → q ∈ P → _) := Lib.hid (fun p q W hp hq => before_any p q W (hok p hp) (hok q hq))
  have HLT : Hid (∀ k, k ≤ P.length → bstK P k < P.length) := Lib.hid (fun k hk => bstK_lt P h1 k hk)
  have HST : Hid (∀ (k : Nat) (p q : Int × Int), P[k]? = some p → P[bstK P k]? = some q → bstK P (k + 1) = if bfr p q then k else bstK P k) := Lib.hid (fun k p q hp hq => by rw [bstK, hp, hq]; rfl)
  have HB0 : Hid (bstK P 0 = 0) := Lib.hid rfl
  have HE : Hid (bst P = bstK P P.length) := Lib.hid rfl
  clear hA hok
  go_enter Tryz.func82, Tryz.ntmps82
  go_wp2_with fail
  go_loopw [5, 6, 7, 10] (fun u5 _ _ u10 wr => ∃ k : Nat, k ≤ P.length ∧ u10 = .int .i64 k ∧ u5 = .int .i64 (bstK P k) ∧ Below w.heap.size w wr) (fun _ _ _ u10 _ => P.length - (intOf u10).toNat)
  case atStart => exact ⟨0, Nat.zero_le _, rfl, by rw [HB0.out]; rfl, Below.refl _ _⟩
  case round =>
  obtain ⟨k, hk, rfl, rfl, hb⟩ := hrel
  have HBk := Lib.hid hb
  clear hb
  by_cases hlt : k < P.length
  case neg =>
    obtain rfl : k = P.length := by omega
    go_wp2
    go_ret
    rw [HE.out]
    exact ⟨rfl, HBk.out⟩
  case pos =>
  have hki : (k : Int) < (P.length : Int) := by omega
  have hbk := HLT.out k hk
  obtain ⟨p, hp⟩ := get_some P k hlt
  obtain ⟨q, hq⟩ := get_some P (bstK P k) hbk
  have HS := Lib.hid (HST.out k p q hp hq)
  have HC := Lib.hid (fun (W : World) => HBF.out p q W (List.mem_of_getElem? hp) (List.mem_of_getElem? hq))
  have HP : Hid (∀ W, Below w.heap.size w W → W.cell? ⟨g, k * 2, none⟩ = some (.int .i64 p.1) ∧ W.cell? ⟨g, k * 2 + 1, none⟩ = some (.int .i64 p.2)) := Lib.hid (fun W hW => HA.out W hW k p hp)
  have HQ : Hid (∀ W, Below w.heap.size w W → W.cell? ⟨g, bstK P k * 2, none⟩ = some (.int .i64 q.1) ∧ W.cell? ⟨g, bstK P k * 2 + 1, none⟩ = some (.int .i64 q.2)) := Lib.hid (fun W hW => HA.out W hW _ q hq)
  clear hp hq
  obtain ⟨j, hj⟩ : ∃ j, bstK P k = j := ⟨_, rfl⟩
  rw [hj] at HS HQ hbk
  rw [hj]
  have hji : (j : Int) < (P.length : Int) := by omega
  obtain ⟨w1, hw1⟩ : ∃ w1, wr.alloc (.cells #[.int .i64 p.1, .int .i64 p.2] 119) = w1 := ⟨_, rfl⟩
  have HX : Hid (∀ W, Below w1.heap.size w1 W → Blk W wr.heap.size 119 #[.int .i64 p.1, .int .i64 p.2]) := Lib.hid (fun W hW => by
    have hb : Blk w1 wr.heap.size 119 #[.int .i64 p.1, .int .i64 p.2] := by rw [← hw1]; exact Blk.new wr _ _ _ rfl
    exact (hW.block _ hb.lt).trans hb)
  have HB1 : Hid (Below w.heap.size w w1) := Lib.hid (by rw [← hw1]; exact below_alloc HBk.out _)
  have HW1 := Lib.hid hw1
  obtain ⟨a0, a1⟩ := HP.out wr HBk.out
  have al := lt_of_cell a0
  obtain ⟨bv, hbv⟩ : ∃ b, bfr p q = b := ⟨_, rfl⟩
  rw [hbv] at HC HS
  clear hj hw1 hbv
  go_wp2_with fail
  rw [HW1.out]
  clear a0 a1 al
  refine wp_region_held_drew (S := fun W => Below w1.heap.size w1 W) (by kernel_rfl) ((Below.refl _ _).drew) (fun hS0 => ?_)
  refine wpAnyH_take (i := 0) (v := ?_) rfl (by kernel_rfl) (by kernel_rfl) (by kernel_rfl) (fun _ _ _ h => h) (Or.inl ⟨by kernel_rfl, ?hy⟩) hS0 ?rest
  case hy => (intro W hSw; clear hSw; go_simp; with_reducible rfl)
  case rest =>
  refine wpAnyH_take (i := 1) (v := ?_) rfl (by kernel_rfl) (by kernel_rfl) (by kernel_rfl) (fun _ _ _ h => h) (Or.inl ⟨by kernel_rfl, ?hy⟩) hS0 ?rest
  case hy => (intro W hSw; have x0 := (HX.out W hSw).of_cell (i := 0) rfl; have x1 := (HX.out W hSw).of_cell (i := 1) rfl; have xl := (HX.out W hSw).lt; clear hSw; go_simp; with_reducible rfl)
  case rest =>
  refine wpAnyH_take (i := 2) (v := ?_) rfl (by kernel_rfl) (by kernel_rfl) (by kernel_rfl) (fun _ _ _ h => h) (Or.inl ⟨by kernel_rfl, ?hy⟩) hS0 ?rest
  case hy => (intro W hSw; clear hSw; go_simp; with_reducible rfl)
  case rest =>
  refine wpAnyH_take (i := 3) (v := ?_) rfl (by kernel_rfl) (by kernel_rfl) (by kernel_rfl) (fun _ _ _ h => h) (Or.inl ⟨by kernel_rfl, ?hy⟩) hS0 ?rest
  case hy => (intro W hSw; clear hSw; go_simp; with_reducible rfl)
  case rest =>
  refine wpAnyH_take (i := 4) (v := ?_) rfl (by kernel_rfl) (by kernel_rfl) (by kernel_rfl) (fun _ _ _ h => h) (Or.inl ⟨by kernel_rfl, ?hy⟩) hS0 ?rest
  case hy => (intro W hSw; clear hSw; go_simp; with_reducible rfl)
  case rest =>
  refine wpAnyH_take (i := 5) (v := ?_) rfl (by kernel_rfl) (by kernel_rfl) (by kernel_rfl) (fun _ _ _ h => h) (Or.inl ⟨by kernel_rfl, ?hy⟩) hS0 ?rest
  case hy => (intro W hSw; obtain ⟨y0, y1⟩ := HQ.out W (below_trans HB1.out hSw); have yl := lt_of_cell y0; clear hSw; go_simp; with_reducible rfl)
  case rest =>
  try go_simp
  refine wpAnyH_ready (rs := [6]) (by kernel_rfl) (by simp) ?_
  refine AllReadyH.cons rfl (fun K hK => ?_) (AllReadyH.nil)
  go_simp
  refine (HC.out _).mono ?_
  rintro e w6 ⟨rfl, hb⟩
  have HX6 := Lib.hid (below_trans hS0 hb)
  clear hb
  go_simp
  refine hK.out _ _ HX6.out (fun hS1 => ?_)
  clear hK K
  refine wpAnyH_done (by kernel_rfl) ?_ _
  clear hS0 hS1
  cases bv
  case false =>
    go_wp2
    go_roundw
    case rel => exact ⟨k + 1, by omega, by go_num, by rw [HS.out]; rfl, below_trans HB1.out HX6.out⟩
    case measure => first | (simp [intOf]; done) | (simp [intOf]; omega)
  case true =>
    go_wp2
    go_roundw
    case rel => exact ⟨k + 1, by omega, by go_num, by rw [HS.out]; rfl, below_trans HB1.out HX6.out⟩
    case measure => first | (simp [intOf]; done) | (simp [intOf]; omega)
end

section
open Go.RowKit

/-! ### rows that the call owns -/
theorem own_set {w : World} {base e size n cap g : Nat} {xs : List Value} (h : w.ownsRow base e size (.slice (some ⟨g, 0, none⟩) n cap) n xs) (j : Nat) (u : Value) : (w.setCell ⟨g, j, none⟩ u).ownsRow base e size (.slice (some ⟨g, 0, none⟩) n cap) n (xs.set j u) := by
  obtain ⟨h1, h2⟩ := h
  refine ⟨by rw [List.length_set]; exact h1, ?_⟩
  rcases h2 with ⟨h0, _⟩ | ⟨g', cap', cur, hv, hb, hg, hn, hm, hs, ht⟩
  · injection h0 with h0; cases h0
  · injection hv with hv _ hc
    injection hv with hv
    injection hv with hv
    subst hv hc
    refine .inr ⟨g, cap, cur.setIfInBounds j u, rfl, hb, heap_setCell_same _ g _ _ e _ hg, hn, hm, by simpa using hs, ?_⟩
    rw [Array.toList_setIfInBounds, List.take_set, ht]
theorem own_blk {w : World} {base e size n cap g : Nat} {xs : List Value} (h : w.ownsRow base e size (.slice (some ⟨g, 0, none⟩) n cap) n xs) : base ≤ g ∧ ∃ cs, Blk w g e cs := by
  rcases h.2 with ⟨h0, _⟩ | ⟨g', cap', cur, hv, hb, hg, _⟩
  · injection h0 with h0; cases h0
  · injection hv with hv _ hc
    injection hv with hv
    injection hv with hv
    subst hv
    exact ⟨hb, cur, hg⟩
theorem own_keepT {w w' : World} {B e size n : Nat} {v : Value} {xs : List Value} (h : w.ownsRow B e size v n xs) (hk : ∀ (b : Nat) (cs : Array Value), w.heap[b]? = some (.cells cs e (0, 0)) → w'.heap[b]? = w.heap[b]?) : w'.ownsRow B e size v n xs := by
  refine ⟨h.1, ?_⟩
  rcases h.2 with hn | ⟨g, cap, cur, rfl, hg, hgg, rest⟩
  · exact .inl hn
  · exact .inr ⟨g, cap, cur, rfl, hg, (hk g cur hgg).trans hgg, rest⟩
theorem own_far {w : World} {base base' e e' size size' n n' cap cap' g g' : Nat} {xs ys : List Value} (h : w.ownsRow base e size (.slice (some ⟨g, 0, none⟩) n cap) n xs) (h' : w.ownsRow base' e' size' (.slice (some ⟨g', 0, none⟩) n' cap') n' ys) (he : e' ≠ e) (j : Nat) (u : Value) : (w.setCell ⟨g', j, none⟩ u).ownsRow base e size (.slice (some ⟨g, 0, none⟩) n cap) n xs := by
  obtain ⟨_, cs', hcs'⟩ := own_blk h'
  exact own_keepT (w' := w.setCells g' j [u]) h (setCs_typed hcs' he j [u])
theorem made1 (n : Nat) : (madeCells #[.int .i64 0] n).toList = (List.replicate n (0 : Int)).map (Value.int .i64) := by
  apply List.ext_getElem?
  intro j
  by_cases hj : j < n
  · have e : j % 1 = 0 := Nat.mod_one j
    simp [madeCells, hj, e]
  · simp [madeCells, hj]
theorem made2 (n : Nat) : (madeCells #[.int .i64 0, .int .i64 0] (n * 2)).toList = flat2 (List.replicate n ((0 : Int), (0 : Int))) := by
  apply List.ext_getElem?
  intro j
  by_cases hj : j < n * 2
  · have hq : j / 2 < n := by omega
    obtain ⟨k1, k2⟩ := flat2_at (List.replicate n ((0 : Int), (0 : Int))) (j / 2) (0, 0) (by simp [hq])
    rcases Nat.mod_two_eq_zero_or_one j with hm | hm
    · rw [show j / 2 * 2 = j by omega] at k1
      rw [k1]; simp [madeCells, hj, hm]
    · rw [show j / 2 * 2 + 1 = j by omega] at k2
      rw [k2]; simp [madeCells, hj, hm]
  · rw [List.getElem?_eq_none (by simp [madeCells]; omega), List.getElem?_eq_none (by rw [flat2_length]; simp; omega)]
theorem flat2_set1 (P : List (Int × Int)) (k : Nat) (p : Int × Int) (h : P[k]? = some p) (a : Int) : (flat2 P).set (k * 2) (.int .i64 a) = flat2 (P.set k (a, p.2)) := by
  have := flatM_set (fun p : Int × Int => [Value.int .i64 p.1, Value.int .i64 p.2]) 2 (fun _ => rfl) P k p (a, p.2) h 0 (by decide) (.int .i64 a) rfl
  rw [Nat.add_zero] at this
  exact this
theorem flat2_set2 (P : List (Int × Int)) (k : Nat) (p : Int × Int) (h : P[k]? = some p) (b : Int) : (flat2 P).set (k * 2 + 1) (.int .i64 b) = flat2 (P.set k (p.1, b)) :=
  flatM_set (fun p : Int × Int => [Value.int .i64 p.1, Value.int .i64 p.2]) 2 (fun _ => rfl) P k p (p.1, b) h 1 (by decide) (.int .i64 b) rfl

/-! ### the method of greatest quotients -/
def bmp (P : List (Int × Int)) : List (Int × Int) := P.set (bst P) ((P[bst P]?.getD (0, 0)).1, (P[bst P]?.getD (0, 0)).2 + 1)
def bmpN (P : List (Int × Int)) : Nat → List (Int × Int)
  | 0 => P
  | k + 1 => bmp (bmpN P k)
def ini (ws : List Int) : List (Int × Int) := ws.map fun x => (x, 0)
def shr (total : Nat) (ws : List Int) : List Int := (bmpN (ini ws) total).map (·.2)
def iniK (ws : List Int) (k : Nat) : List (Int × Int) := (List.range ws.length).map fun j => (if j < k then ws[j]?.getD 0 else 0, 0)
def outK (P : List (Int × Int)) (k : Nat) : List Int := (List.range P.length).map fun j => if j < k then (P[j]?.getD (0, 0)).2 else 0
theorem iniK_0 (ws : List Int) : iniK ws 0 = List.replicate ws.length (0, 0) := by
  apply List.ext_getElem?
  intro j
  by_cases h : j < ws.length <;> simp [iniK, h]
theorem iniK_n (ws : List Int) : iniK ws ws.length = ini ws := by
  apply List.ext_getElem?
  intro j
  by_cases h : j < ws.length <;> simp [iniK, ini, h]
theorem iniK_len (ws : List Int) (k : Nat) : (iniK ws k).length = ws.length := by simp [iniK]
theorem iniK_at (ws : List Int) (k : Nat) (h : k < ws.length) : (iniK ws k)[k]? = some (0, 0) := by simp [iniK, h]
theorem iniK_set (ws : List Int) (k : Nat) (x : Int) (h : ws[k]? = some x) : (iniK ws k).set k (x, 0) = iniK ws (k + 1) := by
  have hk := (List.getElem?_eq_some_iff.1 h).1
  apply List.ext_getElem?
  intro j
  by_cases hj : j < ws.length
  · by_cases hjk : j = k
    · subst hjk
      obtain ⟨_, hx⟩ := List.getElem?_eq_some_iff.1 h
      rw [List.getElem?_set_self (by rw [iniK_len]; exact hj)]
      simp [iniK, hj, hx]
    · rw [List.getElem?_set_ne (fun e => hjk e.symm)]
      simp only [iniK, List.getElem?_map, List.getElem?_range hj, Option.map_some]
      by_cases h1 : j < k
      · rw [if_pos h1, if_pos (by omega)]
      · rw [if_neg h1, if_neg (by omega)]
  · rw [List.getElem?_eq_none (by simp [iniK]; omega), List.getElem?_eq_none (by simp [iniK]; omega)]
theorem outK_0 (P : List (Int × Int)) : outK P 0 = List.replicate P.length 0 := by
  apply List.ext_getElem?
  intro j
  by_cases h : j < P.length <;> simp [outK, h]
theorem outK_n (P : List (Int × Int)) : outK P P.length = P.map (·.2) := by
  apply List.ext_getElem?
  intro j
  by_cases h : j < P.length <;> simp [outK, h]
theorem outK_len (P : List (Int × Int)) (k : Nat) : (outK P k).length = P.length := by simp [outK]
theorem outK_set (P : List (Int × Int)) (k : Nat) (p : Int × Int) (h : P[k]? = some p) : (outK P k).set k p.2 = outK P (k + 1) := by
  have hk := (List.getElem?_eq_some_iff.1 h).1
  apply List.ext_getElem?
  intro j
  by_cases hj : j < P.length
  · by_cases hjk : j = k
    · subst hjk
      obtain ⟨_, hx⟩ := List.getElem?_eq_some_iff.1 h
      rw [List.getElem?_set_self (by rw [outK_len]; exact hj)]
      simp [outK, hj, hx]
    · rw [List.getElem?_set_ne (fun e => hjk e.symm)]
      simp only [outK, List.getElem?_map, List.getElem?_range hj, Option.map_some]
      by_cases h1 : j < k
      · rw [if_pos h1, if_pos (by omega)]
      · rw [if_neg h1, if_neg (by omega)]
  · rw [List.getElem?_eq_none (by simp [outK]; omega), List.getElem?_eq_none (by simp [outK]; omega)]
/-- What stands after some rounds. -/
structure BInv (ws : List Int) (k : Nat) (P : List (Int × Int)) : Prop where
  len : P.length = ws.length
  at_ : ∀ (i : Nat) (p : Int × Int), P[i]? = some p → ws[i]? = some p.1 ∧ 0 ≤ p.2 ∧ p.2 ≤ k
  sum : isum (P.map (·.2)) = k
  zero : (∃ x, x ∈ ws ∧ 0 < x) → ∀ (i : Nat) (p : Int × Int), P[i]? = some p → p.1 = 0 → p.2 = 0
theorem isum_zero {α : Type} (l : List α) : isum (l.map fun _ => (0 : Int)) = 0 := by
  induction l with
  | nil => rfl
  | cons a l ih => simp only [List.map_cons, isum, ih]; rfl
theorem BInv.init (ws : List Int) : BInv ws 0 (ini ws) := by
  refine ⟨by simp [ini], fun i p h => ?_, ?_, fun _ i p h _ => ?_⟩
  · simp only [ini, List.getElem?_map, Option.map_eq_some_iff] at h
    obtain ⟨x, hx, rfl⟩ := h
    exact ⟨hx, Int.le_refl _, by simp⟩
  · rw [ini, List.map_map]
    exact isum_zero ws
  · simp only [ini, List.getElem?_map, Option.map_eq_some_iff] at h
    obtain ⟨x, hx, rfl⟩ := h
    rfl
theorem isum_set (l : List Int) (k : Nat) (x y : Int) (h : l[k]? = some x) : isum (l.set k y) = isum l + (y - x) := by
  induction l generalizing k with
  | nil => simp at h
  | cons a l ih =>
    cases k with
    | zero =>
      simp only [List.getElem?_cons_zero, Option.some.injEq] at h
      subst h
      simp only [List.set_cons_zero, isum]
      omega
    | succ k =>
      simp only [List.set_cons_succ, isum, ih k (by simpa using h)]
      omega
theorem bstK_zero {ws : List Int} {k : Nat} {P : List (Int × Int)} (h : BInv ws k P) (hw : ∀ x, x ∈ ws → 0 ≤ x) (h1 : 0 < P.length) (m : Nat) (hm : m ≤ P.length) (p : Int × Int) (hp : P[bstK P m]? = some p) (h0 : p.1 = 0) : ∀ (i : Nat) (q : Int × Int), i < m → P[i]? = some q → q.1 = 0 := by
  induction m generalizing p with
  | zero => intro i q hi; omega
  | succ m ih =>
    obtain ⟨pm, hpm⟩ := get_some P m (by omega)
    obtain ⟨pb, hpb⟩ := get_some P (bstK P m) (bstK_lt P h1 m (by omega))
    have e : bstK P (m + 1) = if bfr pm pb then m else bstK P m := by rw [bstK, hpm, hpb]; rfl
    obtain ⟨gm, gm0, _⟩ := h.at_ m pm hpm
    obtain ⟨gb, gb0, _⟩ := h.at_ _ pb hpb
    have wm := hw pm.1 (List.mem_of_getElem? gm)
    have wb := hw pb.1 (List.mem_of_getElem? gb)
    cases hb : bfr pm pb with
    | true =>
      rw [e, hb, if_pos rfl, hpm] at hp
      have hpe : pm = p := Option.some.inj hp
      rw [← hpe] at h0
      have := of_decide_eq_true hb
      rw [h0, Int.zero_mul] at this
      have := Int.mul_nonneg wb (show 0 ≤ pm.2 + 1 by omega)
      omega
    | false =>
      rw [e, hb, if_neg (by decide), hpb] at hp
      have hpe : pb = p := Option.some.inj hp
      rw [← hpe] at h0
      intro i q hi hq
      by_cases him : i < m
      · exact ih (by omega) pb hpb h0 i q him hq
      · obtain rfl : i = m := by omega
        rw [hpm] at hq
        have hqe : pm = q := Option.some.inj hq
        rw [← hqe]
        have := of_decide_eq_false hb
        rw [h0, Int.zero_mul] at this
        by_cases hz : pm.1 = 0
        · exact hz
        · have : 0 < pm.1 * (pb.2 + 1) := Int.mul_pos (by omega) (by omega)
          omega
theorem BInv.step {ws : List Int} {k : Nat} {P : List (Int × Int)} (h : BInv ws k P) (hw : ∀ x, x ∈ ws → 0 ≤ x) (h1 : 0 < P.length) : BInv ws (k + 1) (bmp P) := by
  obtain ⟨p, hp⟩ := get_some P (bst P) (bst_lt h1)
  have e : bmp P = P.set (bst P) (p.1, p.2 + 1) := by unfold bmp; rw [hp]; rfl
  have hb := bst_lt h1
  obtain ⟨g1, g2, g3⟩ := h.at_ _ p hp
  rw [e]
  refine ⟨by rw [List.length_set]; exact h.len, fun i q hq => ?_, ?_, fun hpos i q hq hq0 => ?_⟩
  · by_cases hi : i = bst P
    · subst hi
      rw [List.getElem?_set_self hb] at hq
      cases hq
      exact ⟨g1, by simp only; omega, by simp only; omega⟩
    · rw [List.getElem?_set_ne (fun e => hi e.symm)] at hq
      obtain ⟨a, b, c⟩ := h.at_ i q hq
      exact ⟨a, b, by omega⟩
  · rw [List.map_set, isum_set _ _ p.2 _ (by rw [List.getElem?_map, hp]; rfl), h.sum]
    simp only
    omega
  · by_cases hi : i = bst P
    · subst hi
      rw [List.getElem?_set_self hb] at hq
      cases hq
      exfalso
      obtain ⟨x, hx, hx0⟩ := hpos
      obtain ⟨j, hj⟩ := List.getElem?_of_mem hx
      have hjl : j < P.length := by rw [h.len]; exact (List.getElem?_eq_some_iff.1 hj).1
      obtain ⟨q, hq⟩ := get_some P j hjl
      have := bstK_zero h hw h1 P.length (Nat.le_refl _) p hp hq0 j q hjl hq
      have h2 := (h.at_ j q hq).1
      rw [hj, this] at h2
      cases h2
      omega
    · rw [List.getElem?_set_ne (fun e => hi e.symm)] at hq
      exact h.zero hpos i q hq hq0
theorem BInv.all (ws : List Int) (hw : ∀ x, x ∈ ws → 0 ≤ x) (h1 : 0 < ws.length) (k : Nat) : BInv ws k (bmpN (ini ws) k) := by
  induction k with
  | zero => exact BInv.init ws
  | succ k ih => exact ih.step hw (by rw [ih.len]; exact h1)
theorem BInv.ok {ws : List Int} {k : Nat} {P : List (Int × Int)} (h : BInv ws k P) (hw : ∀ x, x ∈ ws → 0 ≤ x ∧ x ≤ 1000000000) (hk : k ≤ 1000) : ∀ p, p ∈ P → ptOk p := fun p hp => by
  obtain ⟨i, hi⟩ := List.getElem?_of_mem hp
  obtain ⟨a, b, c⟩ := h.at_ i p hi
  have := hw p.1 (List.mem_of_getElem? a)
  exact ⟨this.1, this.2, b, by omega⟩

/-! ### slices.Max -/
def mxK (l : List Int) : Nat → Int
  | 0 => l[0]?.getD 0
  | k + 1 => max (mxK l k) (l[k + 1]?.getD 0)
def imx (l : List Int) : Int := mxK l (l.length - 1)
theorem mxK_zero {l : List Int} (h : ∀ x, x ∈ l → 0 ≤ x) (k : Nat) : 0 ≤ mxK l k ∧ (mxK l k = 0 → ∀ (i : Nat) (x : Int), i ≤ k → l[i]? = some x → x = 0) := by
  have hg : ∀ i : Nat, 0 ≤ l[i]?.getD 0 := fun i => by
    cases hi : l[i]? with
    | none => simp
    | some x => have := h x (List.mem_of_getElem? hi); simpa using this
  induction k with
  | zero =>
    refine ⟨hg 0, fun h0 i x hi hx => ?_⟩
    obtain rfl : i = 0 := by omega
    simp only [mxK, hx, Option.getD_some] at h0
    exact h0
  | succ k ih =>
    obtain ⟨i1, i2⟩ := ih
    have := hg (k + 1)
    rw [mxK]
    refine ⟨by omega, fun h0 i x hi hx => ?_⟩
    by_cases hik : i ≤ k
    · exact i2 (by omega) i x hik hx
    · obtain rfl : i = k + 1 := by omega
      rw [hx, Option.getD_some] at h0
      have := h x (List.mem_of_getElem? hx)
      omega
set_option maxHeartbeats 4000000 in
theorem imax_any (A : Option Addr) (c : Nat) (l : List Int) (w : World) (hA : Ints w A l) (h1 : 1 ≤ l.length) (hl : l.length ≤ 9223372036854775807) :
    Calls Tryz.prog 81 #[.slice A l.length c] w fun e w' => e = .returned (.int .i64 (imx l)) ∧ Below w.heap.size w w' := by
  have HA : Hid (∀ W, Below w.heap.size w W → Ints W A l) := Lib.hid (fun W hW => hA.below hW)
  have HM0 : Hid (∀ x : Int, l[0]? = some x → mxK l 0 = x) := Lib.hid (fun x h => by rw [mxK, h]; rfl)
  have HMS : Hid (∀ (k : Nat) (x : Int), l[k + 1]? = some x → mxK l (k + 1) = max (mxK l k) x) := Lib.hid (fun k x h => by rw [mxK, h]; rfl)
  have HE : Hid (imx l = mxK l (l.length - 1)) := Lib.hid rfl
  obtain ⟨x0, hx0⟩ := get_some l 0 (by omega)
  obtain ⟨bA, oA, rfl, c0⟩ := hA.at_ hx0
  rw [Nat.add_zero] at c0
  have cl := lt_of_cell c0
  have hn1 : ¬ ((l.length : Int) < 1) := by omega
  have HX0 := Lib.hid (HM0.out x0 hx0)
  clear hA hx0
  go_enter Tryz.func81, Tryz.ntmps81
  go_wp2_with fail
  clear c0 cl
  go_loop [3, 4] (fun u3 u4 => ∃ k : Nat, k + 1 ≤ l.length ∧ u4 = .int .i64 ((k : Int) + 1) ∧ u3 = .int .i64 (mxK l k)) (fun _ u4 => l.length - (intOf u4).toNat)
  case atStart => exact ⟨0, h1, rfl, by rw [HX0.out]⟩
  case round =>
  obtain ⟨k, hk, rfl, rfl⟩ := hrel
  by_cases hlt : k + 1 < l.length
  case pos =>
    have hki : (k : Int) + 1 < (l.length : Int) := by omega
    obtain ⟨x, hx⟩ := get_some l (k + 1) hlt
    obtain ⟨b, off, he, c0⟩ := (HA.out w (Below.refl _ _)).at_ hx
    cases he
    have HS := Lib.hid (HMS.out k x hx)
    have c0l := lt_of_cell c0
    have hti : ((k : Int) + 1).toNat = k + 1 := by omega
    clear hx
    go_wp2
    go_round
    case rel => exact ⟨k + 1, by omega, by go_num, by rw [HS.out]⟩
    case measure => first | (simp [intOf]; done) | (simp [intOf]; omega)
  case neg =>
  obtain rfl : k = l.length - 1 := by omega
  go_wp2
  go_ret
  rw [HE.out]
  exact ⟨rfl, Below.refl _ _⟩
end

end Go.Proofs.YtjfondfjdhjooaaGreatDoor
