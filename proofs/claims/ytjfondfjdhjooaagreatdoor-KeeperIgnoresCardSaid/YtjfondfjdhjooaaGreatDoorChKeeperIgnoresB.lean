/- Chapter 30: the law KeeperIgnores. -/
import Derived.Test.YtjfondfjdhjooaaGreatDoorChKeeperIgnoresA
namespace Go.Proofs.YtjfondfjdhjooaaGreatDoor
set_option linter.unusedVariables false
set_option linter.unusedSimpArgs false

section
open Go.RowKit
set_option maxRecDepth 100000 in
set_option maxHeartbeats 64000000 in
theorem kign_walk (A : Option Addr) (c : Nat) (l : List Kr) (need i : Int) (raw : Nat) (o : Og) (sw : Kw) (w : World) (hT : Tabs w) (hA : RowOf krC 3 w A l) (hI : ∀ kr, kr ∈ l → KrIn w kr) (hlc : l.length ≤ c) (hl : l.length ≤ 9223372036854775807) (hraw : raw < 256) (hi : i64ok i) (hO : OgIn w o) (hS : KwIn w sw) (hsc : sw.l.length ≤ sw.c) :
    Calls Tryz.prog 9 #[.slice A l.length c, .int .i64 need, .int .i64 i, .int .u8 raw, .agg #[.int .i64 o.ix, .int .i64 o.v, .string o.salt, .slice o.A o.p.length o.c], .slice sw.A sw.l.length sw.c] w fun e w' => e = .returned (.bool true) ∧ Below w.heap.size w w' := by
  have HA : Hid (∀ W, Below w.heap.size w W → RowOf krC 3 W A l) := Lib.hid (fun W hW => hA.below hW)
  have HIN : Hid (∀ kr, kr ∈ l → ∀ W, Below w.heap.size w W → KrIn W kr) := Lib.hid (fun kr hk W hW => (hI kr hk).below hW)
  have HT : Hid (∀ W, Below w.heap.size w W → Tabs W) := Lib.hid (fun W hW => hT.below hW)
  clear hA hI hT
  obtain ⟨iog, h0_, h1_, h2_, h3_⟩ := info_parts info_og
  have HIO := Lib.hid (And.intro h0_ (And.intro h1_ (And.intro h2_ h3_)))
  clear h0_ h1_ h2_ h3_
  obtain ⟨ikw, h0_, h1_, h2_, h3_⟩ := info_parts info_kw
  have HIK := Lib.hid (And.intro h0_ (And.intro h1_ (And.intro h2_ h3_)))
  clear h0_ h1_ h2_ h3_
  obtain ⟨ikp, h0_, h1_, h2_, h3_⟩ := info_parts info_kp
  have HIP := Lib.hid (And.intro h0_ (And.intro h1_ (And.intro h2_ h3_)))
  clear h0_ h1_ h2_ h3_
  have HOG : Hid (∀ W, Below w.heap.size w W → OgIn W o) := Lib.hid (fun W hW => hO.below hW)
  have HSW : Hid (∀ W, Below w.heap.size w W → KwIn W sw) := Lib.hid (fun W hW => hS.below hW)
  have hsl := hS.len
  obtain ⟨w0, hw0⟩ : ∃ w0, w.alloc (.cells #[.int .i64 o.ix, .int .i64 o.v, .string o.salt, .slice o.A o.p.length o.c] 32) = w0 := ⟨_, rfl⟩
  have HB0 : Hid (Below w.heap.size w w0) := Lib.hid (by rw [← hw0]; exact below_alloc (Below.refl _ _) _)
  have HK : Hid (∀ W, Below w0.heap.size w0 W → Blk W w.heap.size 32 #[.int .i64 o.ix, .int .i64 o.v, .string o.salt, .slice o.A o.p.length o.c]) := Lib.hid (fun W hW => by
    have hb : Blk w0 w.heap.size 32 #[.int .i64 o.ix, .int .i64 o.v, .string o.salt, .slice o.A o.p.length o.c] := by rw [← hw0]; exact Blk.new w _ _ _ rfl
    exact (hW.block _ hb.lt).trans hb)
  have HW0 := Lib.hid hw0
  clear hO hS hw0
  go_enter Tryz.func9, Tryz.ntmps9
  go_wp2_with fail
  try rw [HW0.out]
  refine (khead_any w0 (HT.out w0 HB0.out)).mono ?_
  rintro e w1 ⟨rfl, hb⟩
  have HX1 := Lib.hid hb
  have HB1 := Lib.hid (below_trans HB0.out hb)
  clear hb
  go_wp2_with fail
  refine (kfew_any A c l w1 (HA.out w1 HB1.out) hl).mono ?_
  rintro e wf ⟨rfl, hb⟩
  have HBf := Lib.hid (below_trans HB1.out hb)
  have HXf := Lib.hid (below_trans HX1.out hb)
  clear hb
  obtain ⟨bf, hbf⟩ : ∃ b, fewK l = b := ⟨_, rfl⟩
  rw [hbf]
  cases bf with
  | false =>
    clear hbf
    go_wp2
    go_ret
    exact ⟨rfl, HBf.out⟩
  | true =>
  have HF := Lib.hid (FewOk.of hbf)
  clear hbf
  have hl1 := HF.out.lo
  have hl4 := HF.out.hi
  by_cases hs6 : sw.l.length ≤ 6
  case neg =>
    go_wp2
    go_ret
    exact ⟨rfl, HBf.out⟩
  case pos =>
  have z0 := (HK.out wf HXf.out).of_cell (i := 0) rfl
  have z1 := (HK.out wf HXf.out).of_cell (i := 1) rfl
  have z2 := (HK.out wf HXf.out).of_cell (i := 2) rfl
  have z3 := (HK.out wf HXf.out).of_cell (i := 3) rfl
  have zl := (HK.out wf HXf.out).lt
  go_wp2_with fail
  clear z0 z1 z2 z3 zl
  refine (rshort_any (some ⟨wf.heap.size, 0, none⟩) 1 [o] (some ⟨wf.heap.size + 1, 0, none⟩) 1 [sw] _ (RowOf.below (l := [o]) (f := ogC) (m := 4) (Rd_new wf #[.int .i64 o.ix, .int .i64 o.v, .string o.salt, .slice o.A o.p.length o.c] _ 4 1 _ rfl rfl) (below_alloc (Below.refl _ _) _)) (Rd_new _ #[.slice sw.A sw.l.length sw.c] _ 1 1 _ rfl (by simp)) (fun q hq => by rw [List.mem_singleton.1 hq]; exact HOG.out _ (below_alloc (below_alloc HBf.out _) _)) (fun q hq => by rw [List.mem_singleton.1 hq]; exact HSW.out _ (below_alloc (below_alloc HBf.out _) _)) (show 1 ≤ 9223372036854775807 by decide) (show 1 ≤ 9223372036854775807 by decide)).mono ?_
  rintro e w2 ⟨rfl, rfl⟩
  obtain ⟨bs, hbs⟩ : ∃ b, shB [o] [sw] = b := ⟨_, rfl⟩
  rw [hbs]
  have HB2 := Lib.hid (below_alloc (below_alloc HBf.out (.cells #[.int .i64 o.ix, .int .i64 o.v, .string o.salt, .slice o.A o.p.length o.c] 32)) (.cells #[.slice sw.A sw.l.length sw.c] 33))
  have HX2 := Lib.hid (below_alloc (below_alloc HXf.out (.cells #[.int .i64 o.ix, .int .i64 o.v, .string o.salt, .slice o.A o.p.length o.c] 32)) (.cells #[.slice sw.A sw.l.length sw.c] 33))
  generalize (wf.alloc (.cells #[.int .i64 o.ix, .int .i64 o.v, .string o.salt, .slice o.A o.p.length o.c] 32)).alloc (.cells #[.slice sw.A sw.l.length sw.c] 33) = w2 at *
  cases bs with
  | false =>
    clear hbs
    go_wp2
    go_ret
    exact ⟨rfl, HB2.out⟩
  | true =>
  have HSH : Hid (shO o = true ∧ shW sw = true) := Lib.hid (by unfold shB at hbs; simp at hbs; exact hbs)
  clear hbs
  obtain ⟨k, hk⟩ : ∃ k, raw % l.length = k := ⟨_, rfl⟩
  have hkl : k < l.length := by rw [← hk]; exact Nat.mod_lt _ (by omega)
  have hkc : (raw : Int) % (l.length : Int) = (k : Int) := by rw [← hk]; exact (Int.natCast_emod _ _).symm
  clear hk
  go_wp2_with fail
  refine (kopen_walk A c l need i w2 (HA.out w2 HB2.out) (fun kr hk => HIN.out kr hk w2 HB2.out) (by omega) (HT.out w2 HB2.out)).mono ?_
  rintro e w3 ⟨hb, ⟨-, v1, kv, v2, v3, v4, v5, v6, rfl⟩ | ⟨hall, CA, cc, OA, oc, KA, kc, os, ks, rfl, hres⟩⟩
  · have HB3 := Lib.hid (below_trans HB2.out hb)
    clear hb
    go_wp2
    go_ret
    exact ⟨rfl, below_alloc HB3.out _⟩
  have HB3 := Lib.hid (below_trans HB2.out hb)
  have HC3 := Lib.hid hb
  obtain ⟨x0, hx0⟩ := get_some l 0 (by omega)
  obtain ⟨ii, rfl⟩ : ∃ n : Nat, i = (n : Int) := by
    obtain ⟨-, -, -, -, h, -⟩ := okK_seed (List.all_eq_true.1 hall x0 (List.mem_of_getElem? hx0))
    exact ⟨i.toNat, h.symm⟩
  have HR := Lib.hid hres
  have HALL := Lib.hid hall
  clear hb hres hall
  obtain ⟨w4, hw4⟩ : ∃ w4, w3.alloc (.cells #[.slice CA l.length cc, .slice OA l.length oc, .slice KA l.length kc] 69) = w4 := ⟨_, rfl⟩
  have HB4 : Hid (Below w.heap.size w w4) := Lib.hid (by rw [← hw4]; exact below_alloc HB3.out _)
  have HC4 : Hid (Below w2.heap.size w2 w4) := Lib.hid (by rw [← hw4]; exact below_alloc HC3.out _)
  have HN4 : Hid (Blk w4 w3.heap.size 69 #[.slice CA l.length cc, .slice OA l.length oc, .slice KA l.length kc]) := Lib.hid (by rw [← hw4]; exact Blk.new _ _ _ _ rfl)
  have HF4 : Hid (DrFit w4 CA (l.map (cmK l.length need)) OA os KA ks) := Lib.hid (by rw [← hw4]; exact (HR.out.fit HALL.out (by omega)).below (below_alloc (Below.refl _ _) _))
  have HM4 : Hid (NightMem w4 os ks) := Lib.hid (by rw [← hw4]; exact HR.out.mem.below (below_alloc (Below.refl _ _) _))
  have HX0 := Lib.hid hx0
  obtain ⟨bA, oA, hAe, q0, q1, q2⟩ := kr_cells (HA.out w4 HB4.out) hx0
  subst hAe
  simp only [Nat.zero_mul, Nat.add_zero] at q0 q1 q2
  have ql := lt_of_cell q0
  obtain ⟨n, hn⟩ : ∃ n, x0.seeds.length = n := ⟨_, rfl⟩
  rw [hn] at q0
  have HNN : Hid (∀ kr, kr ∈ l → kr.seeds.length = n) := Lib.hid (fun kr hk => by rw [← hn]; exact HF.out.same kr hk x0 HX0.out)
  have HN6 : Hid (n ≤ 6) := Lib.hid (by rw [← hn]; exact (HF.out.each x0 (List.mem_of_getElem? HX0.out)).1)
  clear hx0 hn
  have a0 := HN4.out.of_cell (i := 0) rfl
  have a1 := HN4.out.of_cell (i := 1) rfl
  have a2 := HN4.out.of_cell (i := 2) rfl
  have al := HN4.out.lt
  go_wp2_with fail
  clear q0 q1 q2 ql a0 a1 a2 al
  obtain ⟨sm, hsm⟩ : ∃ s, sds l ii l.length = s := ⟨_, rfl⟩
  have hsr := sds_range HALL.out l.length (Nat.le_refl _)
  rw [Int.toNat_natCast, hsm] at hsr
  have hs0 : 0 ≤ sm := hsr.1
  have hs1 : sm ≤ 2876 := by omega
  have HDR := kdraw_night HR.out HALL.out (by omega) (by omega) n HNN.out w4 HF4.out (HT.out w4 HB4.out)
  rw [Int.toNat_natCast, hsm] at HDR
  have HSM := Lib.hid hsm
  clear hsm hsr
  refine HDR.mono ?_
  clear HDR
  rintro e w5 ⟨WA, wc, rfl, hb5⟩
  have HB5 := Lib.hid (below_trans HB4.out hb5)
  have HC5 := Lib.hid (below_trans HC4.out hb5)
  have HN5 : Hid (Blk w5 w3.heap.size 69 #[.slice CA l.length cc, .slice OA l.length oc, .slice KA l.length kc]) := Lib.hid ((hb5.block _ HN4.out.lt).trans HN4.out)
  have HF5 := Lib.hid (HF4.out.below hb5)
  have HM5 := Lib.hid (HM4.out.below hb5)
  clear hb5
  have a0 := HN5.out.of_cell (i := 0) rfl
  have a1 := HN5.out.of_cell (i := 1) rfl
  have a2 := HN5.out.of_cell (i := 2) rfl
  have al := HN5.out.lt
  have hlen : os.length = l.length := HR.out.ok.ol
  have hOr : Hid (∀ W, Below w5.heap.size w5 W → Rd W 4 OA l.length (os.flatMap ogC)) := Lib.hid (fun W hW => by have := (HF5.out.below hW).o; unfold RowOf at this; rw [hlen] at this; exact this)
  have HLEN := Lib.hid hlen
  clear hlen
  go_wp2_with (at_builtin; refine wpList_app _ rfl (.tmp 80) (.tmp 82) 56 56 rfl w5.heap.size 32 32 iog _ 4 56 Tryz.underlying56 Tryz.underlying56 HIO.out.1 HIO.out.2.1 HIO.out.2.2.1 HIO.out.2.2.2 rfl (by omega) (.slice (some ⟨w5.heap.size, 0, none⟩) 0 0) 0 [] rfl (own_zero w5 _ _) OA l.length oc (os.flatMap ogC) rfl (hOr.out _ (below_alloc (Below.refl _ _) _)) (one_og os) (by simp only [maxLen]; omega) (by omega) (by simp) ?_)
  intro v0 w6 hown hg
  have hb56 := below_zero hg
  have HB6 := Lib.hid (below_trans HB5.out hb56)
  have HB56 := Lib.hid hb56
  obtain ⟨g1, c1, rfl, hg1, hc1, hm1, harr⟩ := Arw.of_own hown hl1
  have HO6 := Lib.hid harr
  have HG1 : Hid (w5.heap.size ≤ g1 ∧ l.length ≤ c1 ∧ c1 ≤ maxLen) := Lib.hid ⟨hg1, hc1, hm1⟩
  clear hown hg harr hg1 hc1 hm1 hb56 a0 a1 a2 al
  have HX6 := Lib.hid (below_trans HX2.out (below_trans HC5.out HB56.out))
  have hth : w6.there g1 (k * 4) 4 := HO6.out.there (k * 4) 4 (by rw [flatM_length ogC 4 ogC_len, HLEN.out]; omega)
  obtain ⟨w7, hw7⟩ : ∃ w7, w6.setCells g1 (k * 4) (ogC o) = w7 := ⟨_, rfl⟩
  have ho7 := Arw.setCells (ogC o) (k * 4) HO6.out
  rw [flatM_setAll ogC 4 ogC_len os k o (by rw [HLEN.out]; exact hkl), hw7] at ho7
  have hb7 := below_setCsK HB56.out g1 HG1.out.1 (ogC o) (k * 4)
  rw [hw7] at hb7
  have HO7 := Lib.hid ho7
  have HB57 := Lib.hid hb7
  have HTH := Lib.hid hth
  have HW7 := Lib.hid hw7
  clear ho7 hb7 hth hw7
  have z0 := (HK.out w6 HX6.out).of_cell (i := 0) rfl
  have z1 := (HK.out w6 HX6.out).of_cell (i := 1) rfl
  have z2 := (HK.out w6 HX6.out).of_cell (i := 2) rfl
  have z3 := (HK.out w6 HX6.out).of_cell (i := 3) rfl
  have zl := (HK.out w6 HX6.out).lt
  have hki : (k : Int) < (l.length : Int) := by omega
  have HB7 := Lib.hid (below_trans HB5.out HB57.out)
  have HN7 : Hid (Blk w7 w3.heap.size 69 #[.slice CA l.length cc, .slice OA l.length oc, .slice KA l.length kc]) := Lib.hid ((HB57.out.block _ HN5.out.lt).trans HN5.out)
  have a0 := HN7.out.of_cell (i := 0) rfl
  have a1 := HN7.out.of_cell (i := 1) rfl
  have a2 := HN7.out.of_cell (i := 2) rfl
  have al := HN7.out.lt
  have hklen : ks.length = l.length := HR.out.ok.kl
  have hKr : Hid (∀ W, Below w7.heap.size w7 W → Rd W 1 KA l.length (ks.flatMap kwC)) := Lib.hid (fun W hW => by have := ((HF5.out.below HB57.out).below hW).k; unfold RowOf at this; rw [hklen] at this; exact this)
  have HKLEN := Lib.hid hklen
  clear hklen
  repeat (first | (refine wpList_store_mid rfl 32 (.tmp 87) (.tmp 86) rfl g1 (k * 4) #[.int .i64 o.ix, .int .i64 o.v, .string o.salt, .slice o.A o.p.length o.c] (by rfl) (by rfl) HTH.out (by kernel_rfl) (by simp [Value.oneCell']) ?_; rw [show (#[.int .i64 o.ix, .int .i64 o.v, .string o.salt, .slice o.A o.p.length o.c] : Array Value).toList = ogC o from rfl, HW7.out]) | (at_builtin; refine wpList_app _ rfl (.tmp 88) (.tmp 90) 57 57 rfl w7.heap.size 33 33 ikw _ 1 24 Tryz.underlying57 Tryz.underlying57 HIK.out.1 HIK.out.2.1 HIK.out.2.2.1 HIK.out.2.2.2 rfl (by omega) (.slice (some ⟨w7.heap.size, 0, none⟩) 0 0) 0 [] rfl (own_zero w7 _ _) KA l.length kc (ks.flatMap kwC) rfl (hKr.out _ (below_alloc (Below.refl _ _) _)) (one_kw ks) (by simp only [maxLen]; omega) (by omega) (by simp) ?_) | go_values | go_skip | go_guarded | go_step | go_upon)
  intro v1 w8 hown hg
  rw [Nat.zero_add, List.nil_append] at hown
  have hb78 := below_zero hg
  have HB8 := Lib.hid (below_trans HB7.out hb78)
  obtain ⟨g2, c2, rfl, hg2, hc2, hm2, harr⟩ := Arw.of_own hown hl1
  have HQ8 := Lib.hid harr
  have HO8 := Lib.hid (HO7.out.below hb78)
  have HB58 := Lib.hid (below_trans HB57.out hb78)
  have HG2 : Hid (w7.heap.size ≤ g2 ∧ l.length ≤ c2 ∧ c2 ≤ maxLen) := Lib.hid ⟨hg2, hc2, hm2⟩
  clear hown hg harr hg2 hc2 hm2 hb78 a0 a1 a2 al z0 z1 z2 z3 zl
  have HN8 : Hid (∀ W, Below w5.heap.size w5 W → Blk W w3.heap.size 69 #[.slice CA l.length cc, .slice OA l.length oc, .slice KA l.length kc]) := Lib.hid (fun W hW => (hW.block _ HN5.out.lt).trans HN5.out)
  obtain ⟨x, hx⟩ := get_some l k hkl
  obtain ⟨a, ha, hkps⟩ := HR.out.ok.k k x hkl hx
  rw [Int.toNat_natCast] at hkps
  have hal : a.l.length = l.length := hkps.1
  have HX := Lib.hid (And.intro hx (And.intro ha hkps))
  have HKC : Hid (∀ W, Below w5.heap.size w5 W → ∃ b off, KA = some ⟨b, off, none⟩ ∧ W.cell? ⟨b, off + k, none⟩ = some (.slice a.A l.length a.c)) := Lib.hid (fun W hW => by
    obtain ⟨b, off, he, hc⟩ := kw_cells (HF5.out.below hW).k ha
    rw [hal] at hc
    exact ⟨b, off, he, hc⟩)
  obtain ⟨bK, oK, hKA, -⟩ := HKC.out w5 (Below.refl _ _)
  clear hx ha hkps hal
  subst hKA
  have HKC2 : Hid (∀ W, Below w5.heap.size w5 W → W.cell? ⟨bK, oK + k, none⟩ = some (.slice a.A l.length a.c)) := Lib.hid (fun W hW => by
    obtain ⟨b, off, he, hc⟩ := HKC.out W hW
    cases he
    exact hc)
  have HX5 := Lib.hid (below_trans HX2.out HC5.out)
  have hxl : x.seeds.length = n := HNN.out x (List.mem_of_getElem? HX.out.1)
  have hokx : okK l.length need (ii : Int) x = true := List.all_eq_true.1 HALL.out x (List.mem_of_getElem? HX.out.1)
  obtain ⟨nd, hnd, hdv⟩ := okK_num hokx
  obtain ⟨cm, hcm⟩ : ∃ c, cmK l.length need x = c := ⟨_, rfl⟩
  have hcmx : (l.map (cmK l.length need))[k]? = some cm := by rw [List.getElem?_map, HX.out.1, ← hcm]; rfl
  obtain ⟨bC, oC, hCA, -⟩ := cm_cells HF5.out.c hcmx
  subst hCA
  have HCMX := Lib.hid hcmx
  have HCM : Hid (∀ W, Below w5.heap.size w5 W → W.cell? ⟨bC, oC + k * 2, none⟩ = some (.string cm.1) ∧ W.cell? ⟨bC, oC + k * 2 + 1, none⟩ = some (.string cm.2)) := Lib.hid (fun W hW => by
    obtain ⟨b, off, he, c0, c1⟩ := cm_cells (HF5.out.below hW).c HCMX.out
    cases he
    exact ⟨c0, c1⟩)
  have HXL := Lib.hid hxl
  have HKR : Hid (∀ W, Below w5.heap.size w5 W → W.cell? ⟨bA, oA + k * 3, none⟩ = some (.slice x.SA n x.sc) ∧ W.cell? ⟨bA, oA + k * 3 + 1, none⟩ = some (.string x.salt) ∧ W.cell? ⟨bA, oA + k * 3 + 2, none⟩ = some (.slice x.RA x.random.length x.rc)) := Lib.hid (fun W hW => by
    obtain ⟨b, off, he, c0, c1, c2⟩ := kr_cells (HA.out W (below_trans HB5.out hW)) HX.out.1
    cases he
    rw [HXL.out] at c0
    exact ⟨c0, c1, c2⟩)
  have HOC : Hid (∀ W, Below w5.heap.size w5 W → Blk W w.heap.size 32 #[.int .i64 o.ix, .int .i64 o.v, .string o.salt, .slice o.A o.p.length o.c]) := Lib.hid (fun W hW => HK.out W (below_trans HX5.out hW))
  have HAR : Hid (∀ W, Below w5.heap.size w5 W → Rd W 4 a.A l.length (a.l.flatMap kpC)) := Lib.hid (fun W hW => by have := ((HF5.out.below hW).kw a (List.mem_of_getElem? HX.out.2.1)).row; unfold RowOf at this; rw [HX.out.2.2.1] at this; exact this)
  have HOKX := Lib.hid hokx
  have HND := Lib.hid hnd
  have HDV := Lib.hid hdv
  have HCME := Lib.hid hcm
  have HIL : Hid (ii < n) := Lib.hid (by
    obtain ⟨v, hv, -, -, -, h, -⟩ := okK_seed hokx
    rw [hxl, Int.toNat_natCast] at h
    exact h)
  clear hxl hokx hnd hdv hcm hcmx
  go_wp2_with fail
  refine wp_region_held_drew (S := fun W => Below w5.heap.size w5 W) (by kernel_rfl) (HB58.out.drew) (fun hS0 => ?_)
  refine wpAnyH_take (i := 0) (v := ?_) rfl (by kernel_rfl) (by kernel_rfl) (by kernel_rfl) (fun _ _ _ h => h) (Or.inl ⟨by kernel_rfl, ?hy⟩) hS0 ?rest
  case hy => (intro W hSw; clear hSw; go_simp; with_reducible rfl)
  case rest =>
  refine wpAnyH_take (i := 1) (v := ?_) rfl (by kernel_rfl) (by kernel_rfl) (by kernel_rfl) (fun _ _ _ h => h) (Or.inl ⟨by kernel_rfl, ?hy⟩) hS0 ?rest
  case hy => (intro W hSw; clear hSw; go_simp; with_reducible rfl)
  case rest =>
  refine wpAnyH_take (i := 3) (v := ?_) rfl (by kernel_rfl) (by kernel_rfl) (by kernel_rfl) (fun _ _ _ h => h) (Or.inl ⟨by kernel_rfl, ?hy⟩) hS0 ?rest
  case hy => (intro W hSw; clear hSw; go_simp; with_reducible rfl)
  case rest =>
  refine wpAnyH_take (i := 5) (v := ?_) rfl (by kernel_rfl) (by kernel_rfl) (by kernel_rfl) (fun _ _ _ h => h) (Or.inl ⟨by kernel_rfl, ?hy⟩) hS0 ?rest
  case hy => (intro W hSw; clear hSw; go_simp; with_reducible rfl)
  case rest =>
  refine wpAnyH_take (i := 6) (v := ?_) rfl (by kernel_rfl) (by kernel_rfl) (by kernel_rfl) (fun _ _ _ h => h) (Or.inl ⟨by kernel_rfl, ?hy⟩) hS0 ?rest
  case hy => (intro W hSw; have a2 := (HN8.out W hSw).of_cell (i := 2) rfl; have al := (HN8.out W hSw).lt; clear hSw; go_simp; with_reducible rfl)
  case rest =>
  refine wpAnyH_take (i := 7) (v := ?_) rfl (by kernel_rfl) (by kernel_rfl) (by kernel_rfl) (fun _ _ _ h => h) (Or.inl ⟨by kernel_rfl, ?hy⟩) hS0 ?rest
  case hy => (intro W hSw; clear hSw; go_simp; with_reducible rfl)
  case rest =>
  try go_simp
  refine wpAnyH_take (i := 8) (v := ?_) rfl (by kernel_rfl) (by kernel_rfl) (by kernel_rfl) (fun _ _ _ h => h) (Or.inl ⟨by kernel_rfl, ?hy⟩) hS0 ?rest
  case hy => (intro W hSw; clear hSw; go_simp; with_reducible rfl)
  case rest =>
  refine wpAnyH_take (i := 9) (v := ?_) rfl (by kernel_rfl) (by kernel_rfl) (by kernel_rfl) (fun _ _ _ h => h) (Or.inl ⟨by kernel_rfl, ?hy⟩) hS0 ?rest
  case hy => (intro W hSw; have c0 := HKC2.out W hSw; have cl := lt_of_cell c0; clear hSw; go_simp; with_reducible rfl)
  case rest =>
  refine wpAnyH_ready (rs := [2]) (by kernel_rfl) (by simp) ?_
  refine AllReadyH.cons rfl (fun K hK => ?_) (AllReadyH.nil)
  go_simp
  refine hK.out _ _ (below_alloc hS0 _) (fun hS1 => ?_)
  clear hK K
  refine wpAnyH_ready (rs := [4]) (by kernel_rfl) (by simp) ?_
  refine AllReadyH.cons rfl (fun K hK => ?_) (AllReadyH.nil)
  refine step_appT _ (by kernel_rfl) (.tmp 94) (.tmp 95) 33 33 rfl w8.heap.size 50 50 ikp _ 4 48 Tryz.underlying33 Tryz.underlying33 HIP.out.1 HIP.out.2.1 HIP.out.2.2.1 HIP.out.2.2.2 rfl (by omega) (.slice (some ⟨w8.heap.size, 0, none⟩) 0 0) 0 [] (by kernel_rfl) (own_zero (World.drew w8) _ _) sw.A sw.l.length sw.c (sw.l.flatMap kpC) (by kernel_rfl) (HSW.out _ (below_trans HB5.out hS1)).row (one_kp sw.l) (by simp only [maxLen]; omega) (by omega) (by simp) ?_
  intro v2 w9 hown hg
  have HZ9 : Hid (Below (World.drew w8).heap.size (World.drew w8) w9) := Lib.hid (below_zero (w := World.drew w8) hg)
  have HB59 := Lib.hid (below_trans hS0 HZ9.out)
  rw [Nat.zero_add, List.nil_append] at hown
  have HO9 := Lib.hid hown
  clear hown hg
  refine hK.out _ _ HB59.out (fun hS2 => ?_)
  clear hK K
  refine wpAnyH_ready (rs := [10]) (by kernel_rfl) (by simp) ?_
  refine AllReadyH.cons rfl (fun K hK => ?_) (AllReadyH.nil)
  refine step_appT w9 (by kernel_rfl) (.tmp 96) (.tmp 101) 33 33 rfl w8.heap.size 50 50 ikp _ 4 48 Tryz.underlying33 Tryz.underlying33 HIP.out.1 HIP.out.2.1 HIP.out.2.2.1 HIP.out.2.2.2 rfl (by omega) v2 sw.l.length _ (by kernel_rfl) HO9.out a.A l.length a.c (a.l.flatMap kpC) (by kernel_rfl) (HAR.out _ HB59.out) (one_kp a.l) (by simp only [maxLen]; omega) (by omega) HZ9.out.size ?_
  intro v3 w10 hown hg
  have HZ10 : Hid (Below (World.drew w8).heap.size (World.drew w8) w10) := Lib.hid (HZ9.out.grown hg HZ9.out.size (fun j hj => (HO9.out.lt j hj).1))
  have HB510 := Lib.hid (below_trans hS0 HZ10.out)
  obtain ⟨A10, c10, rfl, hc10, hm10, hr10⟩ := Rd.of_own hown
  have HOW10 := Lib.hid hown
  have HQ10 : Hid (Arw w10 33 1 g2 l.length (ks.flatMap kwC)) := Lib.hid (Arw.below (w := World.drew w8) HQ8.out HZ10.out)
  have HO10 : Hid (Arw w10 32 4 g1 l.length ((os.set k o).flatMap ogC)) := Lib.hid (Arw.below (w := World.drew w8) HO8.out HZ10.out)
  clear hown hg hc10 hm10 hr10
  refine hK.out _ _ HB510.out (fun hS3 => ?_)
  clear hK K
  refine wpAnyH_take (i := 11) (v := ?_) rfl (by kernel_rfl) (by kernel_rfl) (by kernel_rfl) (fun _ _ _ h => h) (Or.inl ⟨by kernel_rfl, ?hy⟩) hS3 ?rest
  case hy => (intro W hSw; clear hSw; go_simp; with_reducible rfl)
  case rest =>
  refine wpAnyH_ready (rs := [12]) (by kernel_rfl) (by simp) ?_
  refine AllReadyH.cons rfl (fun K hK => ?_) (AllReadyH.nil)
  have hkk : (ks.flatMap kwC)[k]? = some (.slice a.A a.l.length a.c) := by
    have := flatM_at kwC 1 kwC_len ks k a HX.out.2.1 0 (by decide)
    rw [Nat.mul_one, Nat.add_zero] at this
    exact this
  have f0 := HQ10.out.get hkk
  have e0 := HQ10.out.frozen k
  have fl := HQ10.out.lt
  go_simp
  refine hK.out _ _ (HB510.out.setCell (Nat.le_trans HB57.out.size HG2.out.1) _) (fun hS9 => ?_)
  clear hK K f0 e0 fl hkk
  refine wpAnyH_done (by kernel_rfl) ?_ _
  have hq := HQ10.out.set k (.slice A10 (sw.l.length + l.length) c10)
  have hfs := flatM_set kwC 1 kwC_len ks k a (⟨A10, c10, sw.l ++ a.l⟩ : Kw) HX.out.2.1 0 (by decide) (.slice A10 (sw.l.length + l.length) c10) (by simp [kwC, HX.out.2.2.1])
  rw [Nat.mul_one, Nat.add_zero] at hfs
  rw [hfs] at hq
  obtain ⟨csq, hcsq⟩ := HQ10.out.blk
  have ho := HO10.out.far (p := ⟨g2, k, none⟩) (HO10.out.ne HQ10.out (by decide)) (.slice A10 (sw.l.length + l.length) c10)
  have hw : World.ownsRow (w10.setCell ⟨g2, k, none⟩ (.slice A10 (sw.l.length + l.length) c10)) _ _ _ _ _ _ := own_typed_keep HOW10.out (setCs_typed hcsq (by decide) k [.slice A10 (sw.l.length + l.length) c10])
  have hb := HB510.out.setCell (p := ⟨g2, k, none⟩) (Nat.le_trans HB57.out.size HG2.out.1) (.slice A10 (sw.l.length + l.length) c10)
  clear hfs hcsq csq hS0 hS1 hS9
  generalize w10.setCell ⟨g2, k, none⟩ (.slice A10 (sw.l.length + l.length) c10) = w12 at *
  have HB512 := Lib.hid hb
  have hbw := below_trans HB5.out hb
  have HB12 := Lib.hid hbw
  have HF12 := HF5.out.below hb
  obtain ⟨hsw12, hshP⟩ := shW_each HSH.out.2
  have hrow : RowOf kpC 4 w12 A10 (sw.l ++ a.l) := by
    obtain ⟨A', c', he, -, -, hr⟩ := Rd.of_own hw
    cases he
    unfold RowOf
    rw [List.length_append, HX.out.2.2.1, List.flatMap_append]
    exact hr
  have hfit : DrFit w12 (some ⟨bC, oC, none⟩) (l.map (cmK l.length need)) (some ⟨g1, 0, none⟩) (os.set k o) (some ⟨g2, 0, none⟩) (ks.set k (⟨A10, c10, sw.l ++ a.l⟩ : Kw)) := by
    refine ⟨HF12.c, by unfold RowOf; rw [List.length_set, HLEN.out]; exact ho.rd, by unfold RowOf; rw [List.length_set, HKLEN.out]; exact hq.rd, fun q hq' => ?_, fun q hq' => ?_, HF12.cl, by rw [List.length_set, HLEN.out]; omega, by rw [List.length_set, HKLEN.out]; omega⟩
    · rcases List.mem_or_eq_of_mem_set hq' with h | rfl
      · exact HF12.og q h
      · exact (sh_fit HSH.out.1 (HOG.out w12 hbw)).1
    · rcases List.mem_or_eq_of_mem_set hq' with h | rfl
      · exact HF12.kw q h
      · refine ⟨hrow, fun q hq'' => (List.mem_append.1 hq'').elim (fun h => (KpS.of (hshP q h) ((HSW.out w12 hbw).each q h)).f) (fun h => (HF12.kw a (List.mem_of_getElem? HX.out.2.1)).each q h), ?_⟩
        show (sw.l ++ a.l).length ≤ 1000
        rw [List.length_append, HX.out.2.2.1]
        omega
  have HDR := kdraw_ok (some ⟨bC, oC, none⟩) cc (l.map (cmK l.length need)) n ii (some ⟨g1, 0, none⟩) c1 (os.set k o) (some ⟨g2, 0, none⟩) c2 (ks.set k (⟨A10, c10, sw.l ++ a.l⟩ : Kw)) nd w12 hfit (by rw [List.length_map]; exact hl1) (by rw [List.length_map]; omega) (by have := HN6.out; omega) HIL.out HDV.out.one (by rw [List.length_map]; exact HDV.out.le) (by rw [List.length_map, List.length_set]; exact HLEN.out) (by rw [List.length_map, List.length_set]; exact HKLEN.out) (HT.out w12 hbw)
  rw [← HND.out] at HDR
  obtain ⟨r, hr⟩ : ∃ r, kall (krs (l.map (cmK l.length need)) (n : Int) (ii : Int) (os.set k o) ((ks.set k (⟨A10, c10, sw.l ++ a.l⟩ : Kw)).map (·.l)) need) = r := ⟨_, rfl⟩
  rw [hr, List.length_map, List.length_set, List.length_set, HLEN.out, HKLEN.out] at HDR
  have hgood : ((kone cm (n : Int) (l.length : Int) (ii : Int) o (sw.l ++ a.l) need).1 = x.seeds[ii]?.getD 0 ∧ (kone cm (n : Int) (l.length : Int) (ii : Int) o (sw.l ++ a.l) need).2.1 = 0) → r.2.2 = 0 ∧ r.1 = sm % 720 := fun ⟨h1, h2⟩ => by
    rw [← HCME.out] at h1 h2
    obtain ⟨W, hW⟩ := ign_draw HR.out HALL.out n HNN.out HX.out.1 o (⟨A10, c10, sw.l ++ a.l⟩ : Kw) (by rw [Int.toNat_natCast]; exact h1) h2
    rw [hr, Int.toNat_natCast, HSM.out] at hW
    rw [hW]
    exact ⟨rfl, rfl⟩
  obtain ⟨ra, rb, rc⟩ := r
  have HGD := Lib.hid hgood
  have HD := Lib.hid HDR
  clear hq ho hw hb hbw HF12 hsw12 hshP hrow hfit HDR hr hgood
  have a0 := (HN8.out w12 HB512.out).of_cell (i := 0) rfl
  have al := (HN8.out w12 HB512.out).lt
  go_wp2_with fail
  clear a0 al
  refine HD.out.mono ?_
  rintro e w13 ⟨v, rfl, hown, hb⟩
  obtain ⟨A13, c13, rfl, -, -, -⟩ := Rd.of_own hown
  have HB513 := Lib.hid (below_trans HB512.out hb)
  clear hown hb HD
  by_cases hz : rc = 0 ∧ ra = sm % 720
  case pos =>
    obtain ⟨rfl, rfl⟩ := hz
    go_wp2
    go_ret
    exact ⟨rfl, below_trans HB5.out HB513.out⟩
  case neg =>
  have HBAD : Hid (¬ ((kone cm (n : Int) (l.length : Int) (ii : Int) o (sw.l ++ a.l) need).1 = x.seeds[ii]?.getD 0 ∧ (kone cm (n : Int) (l.length : Int) (ii : Int) o (sw.l ++ a.l) need).2.1 = 0)) := Lib.hid (fun h => hz (HGD.out h))
  have HCA : Hid ((o.ix = ii ∧ ckB cm.1 (n : Int) o.ix o.v o.salt o.p = true) → o.ix.toNat < n ∧ 0 ≤ o.v ∧ o.v ≤ 719 ∧ o.p.length = plen n o.ix.toNat ∧ allD o.p = true ∧ Col (ksTx x.seeds x.salt ++ koTx n o.ix.toNat o.v.toNat o.salt o.p)) := Lib.hid (fun h => by
    have hb := HBAD.out
    rw [← HCME.out, ← HXL.out] at h hb
    rw [← HXL.out]
    exact ign_colA HOKX.out h (by rw [Int.toNat_natCast]; exact hb))
  have HCB : Hid (¬ (o.ix = ii ∧ ckB cm.1 (n : Int) o.ix o.v o.salt o.p = true) → Col (khTx x.seeds nd l.length x.random ++ igT cm.2 n l.length sw.l)) := Lib.hid (fun h => by
    have hb := HBAD.out
    rw [← HCME.out, ← HXL.out] at h hb ⊢
    have := ign_colB HOKX.out (by rw [Int.toNat_natCast]; exact HX.out.2.2) h (by rw [Int.toNat_natCast]; exact hb)
    rw [show need.toNat = nd by rw [HND.out]; rfl] at this
    exact this)
  have HCK : Hid (∀ W, Below w5.heap.size w5 W → Calls Tryz.prog 27 #[.agg #[.string cm.1, .string cm.2], .int .i64 n, .agg #[.int .i64 o.ix, .int .i64 o.v, .string o.salt, .slice o.A o.p.length o.c]] W fun e w' => e = .returned (.bool (ckB cm.1 (n : Int) o.ix o.v o.salt o.p)) ∧ Below W.heap.size W w') := Lib.hid (fun W hW => kcheck_any cm n o W (sh_fit HSH.out.1 (HOG.out W (below_trans HB5.out hW))).1 ⟨by omega, by have := HN6.out; omega⟩ (HT.out W (below_trans HB5.out hW)))
  have hlx : l.length ≤ 7 := by omega
  have HT3L : Hid ((khTx x.seeds nd l.length x.random).length ≤ 100) := Lib.hid (khTx_len _ _ _ _ (by rw [HXL.out]; exact HN6.out) hlx)
  have HIGL : Hid (∀ j, (igT cm.2 n l.length (sw.l.take j)).length ≤ 78) := Lib.hid (fun j => by
    have h := igT_len HOKX.out (sw.l.take j) (fun q hq => by
      have hm := List.mem_of_mem_take hq
      exact (KpS.of ((shW_each HSH.out.2).2 q hm) ((HSW.out w13 (below_trans HB5.out HB513.out)).each q hm)).p12)
    rw [HCME.out, HXL.out] at h
    have : (sw.l.take j).length ≤ 6 := Nat.le_trans (List.length_take_le' _ _) hs6
    omega)
  have HSHT : Hid (∀ W, Below w5.heap.size w5 W → Calls Tryz.prog 35 #[.slice x.SA n x.sc, .int .i64 need, .int .i64 l.length, .slice x.RA x.random.length x.rc] W fun e w' => ∃ v, e = .returned v ∧ w'.ownsRow W.heap.size 9 1 v (khTx x.seeds nd l.length x.random).length ((khTx x.seeds nd l.length x.random).map Value.string) ∧ Below W.heap.size W w') := Lib.hid (fun W hW => by
    have hk := HIN.out x (List.mem_of_getElem? HX.out.1) W (below_trans HB5.out hW)
    have := rshtexts_any x.SA x.sc x.seeds nd l.length x.RA x.rc x.random W hk.s hk.r HDV.out hk.rc hk.rcm
    rw [HXL.out, ← HND.out] at this
    exact this)
  have HKPS : Hid (∀ (q : Kp), q ∈ sw.l → ∀ W, Below w5.heap.size w5 W → KpS W q) := Lib.hid (fun q hq W hW => KpS.of ((shW_each HSH.out.2).2 q hq) ((HSW.out W (below_trans HB5.out hW)).each q hq))
  have HKT : Hid (∀ (q : Kp), q ∈ sw.l → ∀ W, Below w5.heap.size w5 W → Calls Tryz.prog 36 #[.agg #[.string cm.1, .string cm.2], .int .i64 n, .int .i64 l.length, .agg #[.int .i64 q.ix, .int .i64 q.s.1, .int .i64 q.s.2, .slice q.A q.p.length q.c]] W fun e w' => e = .returned (.bool (ktB cm.2 n l.length q)) ∧ Below W.heap.size W w') := Lib.hid (fun q hq W hW => rkept_any cm n l.length q W (by have := HN6.out; omega) (by omega) (HKPS.out q hq W hW))
  have HKX : Hid (∀ (q : Kp), q ∈ sw.l → ktB cm.2 n l.length q = true → ∀ W, Below w5.heap.size w5 W → Calls Tryz.prog 37 #[.int .i64 n, .int .i64 l.length, .agg #[.int .i64 q.ix, .int .i64 q.s.1, .int .i64 q.s.2, .slice q.A q.p.length q.c]] W fun e w' => ∃ u, e = .returned u ∧ w'.ownsRow W.heap.size 9 1 u (kkTx n l.length q.ix.toNat q.s q.p).length ((kkTx n l.length q.ix.toNat q.s q.p).map Value.string) ∧ Below W.heap.size W w') := Lib.hid (fun q hq hk W hW => by
    obtain ⟨g1', g2', g3', g4', -⟩ := kt_bind HOKX.out (q := q) (by rw [HCME.out, HXL.out]; exact hk)
    rw [HXL.out] at g1' g4'
    exact rkttexts_any n l.length q W (by have := HN6.out; omega) (by omega) (HKPS.out q hq W hW) g1' g2' g3' g4')
  have HIGT : Hid (∀ (j : Nat) (q : Kp), sw.l[j]? = some q → igT cm.2 n l.length (sw.l.take (j + 1)) = igT cm.2 n l.length (sw.l.take j) ++ (if ktB cm.2 n l.length q then kkTx n l.length q.ix.toNat q.s q.p else [])) := Lib.hid (fun j q hq => igT_take _ _ _ hq)
  have HIGA : Hid (igT cm.2 n l.length (sw.l.take sw.l.length) = igT cm.2 n l.length sw.l) := Lib.hid (by rw [List.take_length])
  have HIG0 : Hid (igT cm.2 n l.length (sw.l.take 0) = []) := Lib.hid rfl
  have HSMB : Hid ((∀ s ∈ khTx x.seeds nd l.length x.random, s.size ≤ 1000000000) ∧ ∀ s ∈ igT cm.2 n l.length sw.l, s.size ≤ 1000000000) := Lib.hid ⟨khTx_small _ _ _ _ (by rw [HXL.out]; have := HN6.out; omega) hlx, by have := igT_small HOKX.out sw.l; rw [HCME.out, HXL.out] at this; exact this⟩
  clear hlx
  by_cases h0 : rc = 0
  · skip
    have hra : ¬ (ra = sm % 720) := fun h => hz ⟨h0, h⟩
    subst h0
    clear hz
    go_wp2_with fail
    by_cases hix : o.ix = (ii : Int)
    case neg =>
      have hbe : (o.ix == (ii : Int)) = false := by simpa using hix
      refine wp_region_held_drew (S := fun W => Below w5.heap.size w5 W) (by kernel_rfl) (HB513.out.drew) (fun hS0 => ?_)
      refine wpAnyH_take (i := 0) (v := ?_) rfl (by kernel_rfl) (by kernel_rfl) (by kernel_rfl) (fun _ _ _ h => h) (Or.inl ⟨by kernel_rfl, ?hy⟩) hS0 ?rest
      case hy => (intro W hSw; clear hSw; go_simp; with_reducible rfl)
      case rest =>
      refine wpAnyH_take (i := 1) (v := ?_) rfl (by kernel_rfl) (by kernel_rfl) (by kernel_rfl) (fun _ _ _ h => h) (Or.inl ⟨by kernel_rfl, ?hy⟩) hS0 ?rest
      case hy => (intro W hSw; have z0 := (HOC.out W hSw).of_cell (i := 0) rfl; have z1 := (HOC.out W hSw).of_cell (i := 1) rfl; have z2 := (HOC.out W hSw).of_cell (i := 2) rfl; have z3 := (HOC.out W hSw).of_cell (i := 3) rfl; have zl := (HOC.out W hSw).lt; clear hSw; go_simp; with_reducible rfl)
      case rest =>
      refine wpAnyH_take (i := 2) (v := ?_) rfl (by kernel_rfl) (by kernel_rfl) (by kernel_rfl) (fun _ _ _ h => h) (Or.inl ⟨by kernel_rfl, ?hy⟩) hS0 ?rest
      case hy => (intro W hSw; clear hSw; go_simp; with_reducible rfl)
      case rest =>
      refine wpAnyH_take (i := 3) (v := ?_) rfl (by kernel_rfl) (by kernel_rfl) (by kernel_rfl) (fun _ _ _ h => h) (Or.inl ⟨by kernel_rfl, ?hy⟩) hS0 ?rest
      case hy => (intro W hSw; clear hSw; go_simp; with_reducible rfl)
      case rest =>
      refine wpAnyH_take (i := 4) (v := ?_) rfl (by kernel_rfl) (by kernel_rfl) (by kernel_rfl) (fun _ _ _ h => h) (Or.inl ⟨by kernel_rfl, ?hy⟩) hS0 ?rest
      case hy => (intro W hSw; clear hSw; go_simp; with_reducible rfl)
      case rest =>
      refine wpAnyH_take (i := 5) (v := undef) rfl (by kernel_rfl) (by kernel_rfl) (by kernel_rfl) (fun _ _ _ h => h) (Or.inr ⟨by kernel_rfl, rfl⟩) hS0 ?_
      try go_simp
      refine wpAnyH_take (i := 6) (v := undef) rfl (by kernel_rfl) (by kernel_rfl) (by kernel_rfl) (fun _ _ _ h => h) (Or.inr ⟨by kernel_rfl, rfl⟩) hS0 ?_
      refine wpAnyH_take (i := 7) (v := undef) rfl (by kernel_rfl) (by kernel_rfl) (by kernel_rfl) (fun _ _ _ h => h) (Or.inr ⟨by kernel_rfl, rfl⟩) hS0 ?_
      refine wpAnyH_take (i := 8) (v := undef) rfl (by kernel_rfl) (by kernel_rfl) (by kernel_rfl) (fun _ _ _ h => h) (Or.inr ⟨by kernel_rfl, rfl⟩) hS0 ?_
      refine wpAnyH_take (i := 9) (v := undef) rfl (by kernel_rfl) (by kernel_rfl) (by kernel_rfl) (fun _ _ _ h => h) (Or.inr ⟨by kernel_rfl, rfl⟩) hS0 ?_
      refine wpAnyH_take (i := 10) (v := undef) rfl (by kernel_rfl) (by kernel_rfl) (by kernel_rfl) (fun _ _ _ h => h) (Or.inr ⟨by kernel_rfl, rfl⟩) hS0 ?_
      refine wpAnyH_take (i := 11) (v := undef) rfl (by kernel_rfl) (by kernel_rfl) (by kernel_rfl) (fun _ _ _ h => h) (Or.inr ⟨by kernel_rfl, rfl⟩) hS0 ?_
      try go_simp
      refine wpAnyH_take (i := 12) (v := undef) rfl (by kernel_rfl) (by kernel_rfl) (by kernel_rfl) (fun _ _ _ h => h) (Or.inr ⟨by kernel_rfl, rfl⟩) hS0 ?_
      refine wpAnyH_take (i := 13) (v := ?_) rfl (by kernel_rfl) (by kernel_rfl) (by kernel_rfl) (fun _ _ _ h => h) (Or.inl ⟨by kernel_rfl, ?hy⟩) hS0 ?rest
      case hy => (intro W hSw; clear hSw; go_simp; with_reducible rfl)
      case rest =>
      refine wpAnyH_done (by kernel_rfl) ?_ _
      have hcb := HCB.out (fun h => hix h.1)
      have HCOL := Lib.hid hcb
      have HS0 := Lib.hid hS0
      clear hcb hix hbe hS0
      go_wp2_with fail
      have HSHB : Hid (∀ (W : World) (A : Option Addr) (c : Nat), Rd W 1 A ((khTx x.seeds nd l.length x.random).length + (igT cm.2 n l.length sw.l).length) ((khTx x.seeds nd l.length x.random).map Value.string ++ (igT cm.2 n l.length sw.l).map Value.string) → Calls Tryz.prog 30 #[.slice A ((khTx x.seeds nd l.length x.random).length + (igT cm.2 n l.length sw.l).length) c] W fun e w' => e = .returned (.bool true) ∧ Below W.heap.size W w') := Lib.hid (fun W A c hR => by
        have := rshown30_any A c _ W (Strs_two hR rfl) (by rw [List.length_append]; have := HT3L.out; have := HIGL.out sw.l.length; rw [HIGA.out] at this; omega) (fun s hs => (List.mem_append.1 hs).elim (HSMB.out.1 s) (HSMB.out.2 s)) HCOL.out
        rw [List.length_append] at this
        exact this)
      have HSHT2 := HSHT
      have HT3L2 := HT3L
      have HSHB2 := HSHB
      clear HCOL HSMB HSHT HT3L HSHB HCA HCB
      generalize khTx x.seeds nd l.length x.random = T3 at *
      obtain ⟨i0, hi0, hz0, hz1, hz2⟩ := info_parts info_strg
      have HI := Lib.hid (And.intro hi0 (And.intro hz0 (And.intro hz1 hz2)))
      clear hi0 hz0 hz1 hz2
      refine wp_region_held_drew (S := fun W => Below w5.heap.size w5 W) (by kernel_rfl) (HS0.out.drew) (fun hS0 => ?_)
      refine wpAnyH_take (i := 0) (v := ?_) rfl (by kernel_rfl) (by kernel_rfl) (by kernel_rfl) (fun _ _ _ h => h) (Or.inl ⟨by kernel_rfl, ?hy⟩) hS0 ?rest
      case hy => (intro W hSw; clear hSw; go_simp; with_reducible rfl)
      case rest =>
      refine wpAnyH_take (i := 1) (v := ?_) rfl (by kernel_rfl) (by kernel_rfl) (by kernel_rfl) (fun _ _ _ h => h) (Or.inl ⟨by kernel_rfl, ?hy⟩) hS0 ?rest
      case hy => (intro W hSw; clear hSw; go_simp; with_reducible rfl)
      case rest =>
      refine wpAnyH_take (i := 2) (v := ?_) rfl (by kernel_rfl) (by kernel_rfl) (by kernel_rfl) (fun _ _ _ h => h) (Or.inl ⟨by kernel_rfl, ?hy⟩) hS0 ?rest
      case hy => (intro W hSw; clear hSw; go_simp; with_reducible rfl)
      case rest =>
      refine wpAnyH_take (i := 3) (v := ?_) rfl (by kernel_rfl) (by kernel_rfl) (by kernel_rfl) (fun _ _ _ h => h) (Or.inl ⟨by kernel_rfl, ?hy⟩) hS0 ?rest
      case hy => (intro W hSw; clear hSw; go_simp; with_reducible rfl)
      case rest =>
      refine wpAnyH_take (i := 4) (v := ?_) rfl (by kernel_rfl) (by kernel_rfl) (by kernel_rfl) (fun _ _ _ h => h) (Or.inl ⟨by kernel_rfl, ?hy⟩) hS0 ?rest
      case hy => (intro W hSw; obtain ⟨c0, c1, c2⟩ := HKR.out W hSw; have cl := lt_of_cell c0; clear hSw; go_simp; with_reducible rfl)
      case rest =>
      refine wpAnyH_take (i := 5) (v := ?_) rfl (by kernel_rfl) (by kernel_rfl) (by kernel_rfl) (fun _ _ _ h => h) (Or.inl ⟨by kernel_rfl, ?hy⟩) hS0 ?rest
      case hy => (intro W hSw; clear hSw; go_simp; with_reducible rfl)
      case rest =>
      try go_simp
      refine wpAnyH_take (i := 6) (v := ?_) rfl (by kernel_rfl) (by kernel_rfl) (by kernel_rfl) (fun _ _ _ h => h) (Or.inl ⟨by kernel_rfl, ?hy⟩) hS0 ?rest
      case hy => (intro W hSw; clear hSw; go_simp; with_reducible rfl)
      case rest =>
      refine wpAnyH_take (i := 7) (v := ?_) rfl (by kernel_rfl) (by kernel_rfl) (by kernel_rfl) (fun _ _ _ h => h) (Or.inl ⟨by kernel_rfl, ?hy⟩) hS0 ?rest
      case hy => (intro W hSw; clear hSw; go_simp; with_reducible rfl)
      case rest =>
      refine wpAnyH_take (i := 8) (v := ?_) rfl (by kernel_rfl) (by kernel_rfl) (by kernel_rfl) (fun _ _ _ h => h) (Or.inl ⟨by kernel_rfl, ?hy⟩) hS0 ?rest
      case hy => (intro W hSw; clear hSw; go_simp; with_reducible rfl)
      case rest =>
      refine wpAnyH_take (i := 9) (v := ?_) rfl (by kernel_rfl) (by kernel_rfl) (by kernel_rfl) (fun _ _ _ h => h) (Or.inl ⟨by kernel_rfl, ?hy⟩) hS0 ?rest
      case hy => (intro W hSw; clear hSw; go_simp; with_reducible rfl)
      case rest =>
      refine wpAnyH_take (i := 10) (v := ?_) rfl (by kernel_rfl) (by kernel_rfl) (by kernel_rfl) (fun _ _ _ h => h) (Or.inl ⟨by kernel_rfl, ?hy⟩) hS0 ?rest
      case hy => (intro W hSw; clear hSw; go_simp; with_reducible rfl)
      case rest =>
      refine wpAnyH_take (i := 11) (v := ?_) rfl (by kernel_rfl) (by kernel_rfl) (by kernel_rfl) (fun _ _ _ h => h) (Or.inl ⟨by kernel_rfl, ?hy⟩) hS0 ?rest
      case hy => (intro W hSw; clear hSw; go_simp; with_reducible rfl)
      case rest =>
      try go_simp
      refine wpAnyH_take (i := 12) (v := ?_) rfl (by kernel_rfl) (by kernel_rfl) (by kernel_rfl) (fun _ _ _ h => h) (Or.inl ⟨by kernel_rfl, ?hy⟩) hS0 ?rest
      case hy => (intro W hSw; obtain ⟨c0, c1, c2⟩ := HKR.out W hSw; have cl := lt_of_cell c0; clear hSw; go_simp; with_reducible rfl)
      case rest =>
      refine wpAnyH_ready (rs := [13]) (by kernel_rfl) (by simp) ?_
      refine AllReadyH.cons rfl (fun K hK => ?_) (AllReadyH.nil)
      go_simp
      refine (HSHT2.out _ hS0).mono ?_
      rintro e w21 ⟨v21, rfl, ho, hb⟩
      have HY21 := Lib.hid (below_trans hS0 hb)
      have HO21 : Hid (w21.ownsRow w5.heap.size 9 1 v21 T3.length (T3.map Value.string)) := Lib.hid (row_mono ho hS0.size)
      clear ho hb
      go_simp
      refine hK.out _ _ HY21.out (fun hS1 => ?_)
      clear hK K
      refine wpAnyH_take (i := 14) (v := ?_) rfl (by kernel_rfl) (by kernel_rfl) (by kernel_rfl) (fun _ _ _ h => h) (Or.inl ⟨by kernel_rfl, ?hy⟩) hS1 ?rest
      case hy => (intro W hSw; clear hSw; go_simp; with_reducible rfl)
      case rest =>
      refine wpAnyH_done (by kernel_rfl) ?_ _
      clear hS0 hS1
      go_wp2_with fail
      go_loopw [26, 27] (fun u26 u27 wr => ∃ j : Nat, j ≤ sw.l.length ∧ u27 = .int .i64 j ∧ Below w5.heap.size w5 wr ∧ wr.ownsRow w5.heap.size 9 1 u26 (T3.length + (igT cm.2 n l.length (sw.l.take j)).length) (T3.map Value.string ++ (igT cm.2 n l.length (sw.l.take j)).map Value.string)) (fun _ u27 _ => sw.l.length - (intOf u27).toNat)
      case atStart => exact ⟨0, Nat.zero_le _, rfl, HY21.out, by rw [HIG0.out]; simpa using HO21.out⟩
      case round =>
      obtain ⟨j, hj, rfl, hb, ho⟩ := hrel
      have HBr := Lib.hid hb
      have HOr := Lib.hid ho
      clear hb ho
      by_cases hjl : j < sw.l.length
      case neg =>
        obtain rfl : j = sw.l.length := by omega
        obtain ⟨A22, c22, rfl, -, -, hr22⟩ := Rd.of_own HOr.out
        rw [HIGA.out] at hr22
        have HR22 := Lib.hid hr22
        clear hr22
        go_wp2_with fail
        rw [HIGA.out]
        refine (HSHB2.out wr A22 c22 HR22.out).mono ?_
        rintro e w23 ⟨rfl, hb⟩
        go_wp2
        go_ret
        exact ⟨rfl, below_trans HB5.out (below_trans HBr.out hb)⟩
      case pos =>
      have hji : (j : Int) < (sw.l.length : Int) := by omega
      obtain ⟨q, hq⟩ := get_some sw.l j hjl
      have HQM := Lib.hid (List.mem_of_getElem? hq)
      have HQE := Lib.hid hq
      obtain ⟨bW, oW, hWA, -⟩ := kp_cells (HSW.out w5 HB5.out).row hq
      have HQC : Hid (∀ W, Below w5.heap.size w5 W → ∃ b off, sw.A = some ⟨b, off, none⟩ ∧ W.cell? ⟨b, off + j * 4, none⟩ = some (.int .i64 q.ix) ∧ W.cell? ⟨b, off + j * 4 + 1, none⟩ = some (.int .i64 q.s.1) ∧ W.cell? ⟨b, off + j * 4 + 2, none⟩ = some (.int .i64 q.s.2) ∧ W.cell? ⟨b, off + j * 4 + 3, none⟩ = some (.slice q.A q.p.length q.c)) := Lib.hid (fun W hW => kp_cells (HSW.out W (below_trans HB5.out hW)).row HQE.out)
      have HWA := Lib.hid hWA
      clear hq
      rw [hWA]
      clear hWA
      go_wp2_with fail
      refine wp_region_held_drew (S := fun W => Below w5.heap.size w5 W) (by kernel_rfl) (HBr.out.drew) (fun hS0 => ?_)
      refine wpAnyH_take (i := 0) (v := ?_) rfl (by kernel_rfl) (by kernel_rfl) (by kernel_rfl) (fun _ _ _ h => h) (Or.inl ⟨by kernel_rfl, ?hy⟩) hS0 ?rest
      case hy => (intro W hSw; clear hSw; go_simp; with_reducible rfl)
      case rest =>
      refine wpAnyH_take (i := 1) (v := ?_) rfl (by kernel_rfl) (by kernel_rfl) (by kernel_rfl) (fun _ _ _ h => h) (Or.inl ⟨by kernel_rfl, ?hy⟩) hS0 ?rest
      case hy => (intro W hSw; have a0 := (HN8.out W hSw).of_cell (i := 0) rfl; have al := (HN8.out W hSw).lt; clear hSw; go_simp; with_reducible rfl)
      case rest =>
      refine wpAnyH_take (i := 2) (v := ?_) rfl (by kernel_rfl) (by kernel_rfl) (by kernel_rfl) (fun _ _ _ h => h) (Or.inl ⟨by kernel_rfl, ?hy⟩) hS0 ?rest
      case hy => (intro W hSw; clear hSw; go_simp; with_reducible rfl)
      case rest =>
      refine wpAnyH_take (i := 3) (v := ?_) rfl (by kernel_rfl) (by kernel_rfl) (by kernel_rfl) (fun _ _ _ h => h) (Or.inl ⟨by kernel_rfl, ?hy⟩) hS0 ?rest
      case hy => (intro W hSw; clear hSw; go_simp; with_reducible rfl)
      case rest =>
      refine wpAnyH_take (i := 4) (v := ?_) rfl (by kernel_rfl) (by kernel_rfl) (by kernel_rfl) (fun _ _ _ h => h) (Or.inl ⟨by kernel_rfl, ?hy⟩) hS0 ?rest
      case hy => (intro W hSw; obtain ⟨c0, c1⟩ := HCM.out W hSw; have cl := lt_of_cell c0; clear hSw; go_simp; with_reducible rfl)
      case rest =>
      refine wpAnyH_take (i := 5) (v := ?_) rfl (by kernel_rfl) (by kernel_rfl) (by kernel_rfl) (fun _ _ _ h => h) (Or.inl ⟨by kernel_rfl, ?hy⟩) hS0 ?rest
      case hy => (intro W hSw; clear hSw; go_simp; with_reducible rfl)
      case rest =>
      try go_simp
      refine wpAnyH_take (i := 6) (v := ?_) rfl (by kernel_rfl) (by kernel_rfl) (by kernel_rfl) (fun _ _ _ h => h) (Or.inl ⟨by kernel_rfl, ?hy⟩) hS0 ?rest
      case hy => (intro W hSw; clear hSw; go_simp; with_reducible rfl)
      case rest =>
      refine wpAnyH_take (i := 7) (v := ?_) rfl (by kernel_rfl) (by kernel_rfl) (by kernel_rfl) (fun _ _ _ h => h) (Or.inl ⟨by kernel_rfl, ?hy⟩) hS0 ?rest
      case hy => (intro W hSw; clear hSw; go_simp; with_reducible rfl)
      case rest =>
      refine wpAnyH_take (i := 8) (v := ?_) rfl (by kernel_rfl) (by kernel_rfl) (by kernel_rfl) (fun _ _ _ h => h) (Or.inl ⟨by kernel_rfl, ?hy⟩) hS0 ?rest
      case hy => (intro W hSw; clear hSw; go_simp; with_reducible rfl)
      case rest =>
      refine wpAnyH_take (i := 9) (v := ?_) rfl (by kernel_rfl) (by kernel_rfl) (by kernel_rfl) (fun _ _ _ h => h) (Or.inl ⟨by kernel_rfl, ?hy⟩) hS0 ?rest
      case hy => (intro W hSw; clear hSw; go_simp; with_reducible rfl)
      case rest =>
      refine wpAnyH_take (i := 10) (v := ?_) rfl (by kernel_rfl) (by kernel_rfl) (by kernel_rfl) (fun _ _ _ h => h) (Or.inl ⟨by kernel_rfl, ?hy⟩) hS0 ?rest
      case hy => (intro W hSw; clear hSw; go_simp; with_reducible rfl)
      case rest =>
      refine wpAnyH_take (i := 11) (v := ?_) rfl (by kernel_rfl) (by kernel_rfl) (by kernel_rfl) (fun _ _ _ h => h) (Or.inl ⟨by kernel_rfl, ?hy⟩) hS0 ?rest
      case hy => (intro W hSw; obtain ⟨b_, f_, he_, c0, c1, c2, c3⟩ := HQC.out W hSw; rw [HWA.out] at he_; cases he_; have cl := lt_of_cell c0; clear hSw; go_simp; with_reducible rfl)
      case rest =>
      try go_simp
      refine wpAnyH_ready (rs := [12]) (by kernel_rfl) (by simp) ?_
      refine AllReadyH.cons rfl (fun K hK => ?_) (AllReadyH.nil)
      go_simp
      refine (HKT.out q HQM.out _ hS0).mono ?_
      rintro e w24 ⟨rfl, hb⟩
      have HX24 := Lib.hid (below_trans hS0 hb)
      have HO24 := Lib.hid (row_below (w := World.drew wr) HOr.out hb)
      clear hb
      go_simp
      refine hK.out _ _ HX24.out (fun hS1 => ?_)
      clear hK K
      refine wpAnyH_done (by kernel_rfl) ?_ _
      clear hS0 hS1
      obtain ⟨kb, hkb⟩ : ∃ b, ktB cm.2 n l.length q = b := ⟨_, rfl⟩
      rw [hkb]
      have hstep := HIGT.out j q HQE.out
      rw [hkb] at hstep
      have HSTP := Lib.hid hstep
      have HKB := Lib.hid hkb
      clear hkb hstep
      cases kb
      case false =>
        go_wp2
        go_roundw
        case rel => exact ⟨j + 1, by omega, by go_num, HX24.out, by rw [HSTP.out, if_neg (by decide), List.append_nil]; exact HO24.out⟩
        case measure => first | (simp [intOf]; done) | (simp [intOf]; omega)
      case true =>
        obtain ⟨b_, f_, he_, c0, c1, c2, c3⟩ := HQC.out w24 HX24.out
        rw [HWA.out] at he_
        cases he_
        have cl := lt_of_cell c0
        go_wp2_with fail
        clear c0 c1 c2 c3 cl
        refine (HKX.out q HQM.out HKB.out w24 HX24.out).mono ?_
        rintro e w25 ⟨v25, rfl, ho, hb⟩
        have HX25 := Lib.hid (below_trans HX24.out hb)
        have HO25 := Lib.hid (row_below HO24.out hb)
        obtain ⟨A25, c25, rfl, -, -, hr25⟩ := Rd.of_own ho
        have HR25 := Lib.hid hr25
        have hkl : (kkTx n l.length q.ix.toNat q.s q.p).length ≤ 78 := by
          have h1 := HIGL.out (j + 1)
          rw [HSTP.out, List.length_append, if_pos trivial] at h1
          omega
        have HKL := Lib.hid hkl
        clear ho hb hr25 hkl
        obtain ⟨T4, hT4⟩ : ∃ T, kkTx n l.length q.ix.toNat q.s q.p = T := ⟨_, rfl⟩
        rw [hT4] at HR25 HKL HSTP ⊢
        go_wp2_with (at_builtin; refine wpList_app _ rfl (.tmp 192) (.tmp 200) 30 30 rfl w5.heap.size 9 9 i0 _ 1 16 Tryz.underlying30 Tryz.underlying30 HI.out.1 HI.out.2.1 HI.out.2.2.1 HI.out.2.2.2 rfl (by omega) _ (T3.length + (igT cm.2 n l.length (sw.l.take j)).length) _ rfl HO25.out A25 T4.length c25 (T4.map Value.string) rfl HR25.out (by intro u hu; obtain ⟨t, _, rfl⟩ := List.mem_map.1 hu; rfl) (by have := HT3L2.out; have := HIGL.out j; have := HKL.out; simp only [maxLen]; omega) (by have := HT3L2.out; have := HIGL.out j; have := HKL.out; omega) HX25.out.size ?_)
        intro v26 w26 hown hg
        have HX26 : Hid (Below w5.heap.size w5 w26) := Lib.hid (HX25.out.grown hg HX25.out.size (fun i hi => (HO25.out.lt i hi).1))
        have HO26 : Hid (w26.ownsRow w5.heap.size 9 1 v26 (T3.length + (igT cm.2 n l.length (sw.l.take (j + 1))).length) (T3.map Value.string ++ (igT cm.2 n l.length (sw.l.take (j + 1))).map Value.string)) := Lib.hid (by
          rw [HSTP.out, if_pos trivial, List.length_append, List.map_append, ← Nat.add_assoc]
          exact hown)
        clear hown hg
        go_wp2
        go_roundw
        case rel => exact ⟨j + 1, by omega, by go_num, HX26.out, HO26.out⟩
        case measure => first | (simp [intOf]; done) | (simp [intOf]; omega)
    case pos =>
    have HOI : Hid (∀ W, Below w5.heap.size w5 W → Blk W w.heap.size 32 #[.int .i64 ii, .int .i64 o.v, .string o.salt, .slice o.A o.p.length o.c]) := Lib.hid (fun W hW => by have := HOC.out W hW; rw [hix] at this; exact this)
    obtain ⟨ck, hck⟩ : ∃ b, ckB cm.1 (n : Int) o.ix o.v o.salt o.p = b := ⟨_, rfl⟩
    have HCKI : Hid (∀ W, Below w5.heap.size w5 W → Calls Tryz.prog 27 #[.agg #[.string cm.1, .string cm.2], .int .i64 n, .agg #[.int .i64 ii, .int .i64 o.v, .string o.salt, .slice o.A o.p.length o.c]] W fun e w' => e = .returned (.bool ck) ∧ Below W.heap.size W w') := Lib.hid (fun W hW => by have := HCK.out W hW; rw [hck, hix] at this; exact this)
    have HCKE := Lib.hid hck
    have HIX := Lib.hid hix
    clear hck hix
    refine wp_region_held_drew (S := fun W => Below w5.heap.size w5 W) (by kernel_rfl) (HB513.out.drew) (fun hS0 => ?_)
    refine wpAnyH_take (i := 0) (v := ?_) rfl (by kernel_rfl) (by kernel_rfl) (by kernel_rfl) (fun _ _ _ h => h) (Or.inl ⟨by kernel_rfl, ?hy⟩) hS0 ?rest
    case hy => (intro W hSw; clear hSw; go_simp; with_reducible rfl)
    case rest =>
    refine wpAnyH_take (i := 1) (v := ?_) rfl (by kernel_rfl) (by kernel_rfl) (by kernel_rfl) (fun _ _ _ h => h) (Or.inl ⟨by kernel_rfl, ?hy⟩) hS0 ?rest
    case hy => (intro W hSw; have z0 := (HOI.out W hSw).of_cell (i := 0) rfl; have z1 := (HOI.out W hSw).of_cell (i := 1) rfl; have z2 := (HOI.out W hSw).of_cell (i := 2) rfl; have z3 := (HOI.out W hSw).of_cell (i := 3) rfl; have zl := (HOI.out W hSw).lt; clear hSw; go_simp; with_reducible rfl)
    case rest =>
    refine wpAnyH_take (i := 2) (v := ?_) rfl (by kernel_rfl) (by kernel_rfl) (by kernel_rfl) (fun _ _ _ h => h) (Or.inl ⟨by kernel_rfl, ?hy⟩) hS0 ?rest
    case hy => (intro W hSw; clear hSw; go_simp; with_reducible rfl)
    case rest =>
    refine wpAnyH_take (i := 3) (v := ?_) rfl (by kernel_rfl) (by kernel_rfl) (by kernel_rfl) (fun _ _ _ h => h) (Or.inl ⟨by kernel_rfl, ?hy⟩) hS0 ?rest
    case hy => (intro W hSw; clear hSw; go_simp; with_reducible rfl)
    case rest =>
    refine wpAnyH_take (i := 4) (v := ?_) rfl (by kernel_rfl) (by kernel_rfl) (by kernel_rfl) (fun _ _ _ h => h) (Or.inl ⟨by kernel_rfl, ?hy⟩) hS0 ?rest
    case hy => (intro W hSw; clear hSw; go_simp; with_reducible rfl)
    case rest =>
    refine wpAnyH_take (i := 5) (v := ?_) rfl (by kernel_rfl) (by kernel_rfl) (by kernel_rfl) (fun _ _ _ h => h) (Or.inl ⟨by kernel_rfl, ?hy⟩) hS0 ?rest
    case hy => (intro W hSw; clear hSw; go_simp; with_reducible rfl)
    case rest =>
    try go_simp
    refine wpAnyH_take (i := 6) (v := ?_) rfl (by kernel_rfl) (by kernel_rfl) (by kernel_rfl) (fun _ _ _ h => h) (Or.inl ⟨by kernel_rfl, ?hy⟩) hS0 ?rest
    case hy => (intro W hSw; have a0 := (HN8.out W hSw).of_cell (i := 0) rfl; have al := (HN8.out W hSw).lt; clear hSw; go_simp; with_reducible rfl)
    case rest =>
    refine wpAnyH_take (i := 7) (v := ?_) rfl (by kernel_rfl) (by kernel_rfl) (by kernel_rfl) (fun _ _ _ h => h) (Or.inl ⟨by kernel_rfl, ?hy⟩) hS0 ?rest
    case hy => (intro W hSw; clear hSw; go_simp; with_reducible rfl)
    case rest =>
    refine wpAnyH_take (i := 8) (v := ?_) rfl (by kernel_rfl) (by kernel_rfl) (by kernel_rfl) (fun _ _ _ h => h) (Or.inl ⟨by kernel_rfl, ?hy⟩) hS0 ?rest
    case hy => (intro W hSw; clear hSw; go_simp; with_reducible rfl)
    case rest =>
    refine wpAnyH_take (i := 9) (v := ?_) rfl (by kernel_rfl) (by kernel_rfl) (by kernel_rfl) (fun _ _ _ h => h) (Or.inl ⟨by kernel_rfl, ?hy⟩) hS0 ?rest
    case hy => (intro W hSw; obtain ⟨c0, c1⟩ := HCM.out W hSw; have cl := lt_of_cell c0; clear hSw; go_simp; with_reducible rfl)
    case rest =>
    refine wpAnyH_take (i := 10) (v := ?_) rfl (by kernel_rfl) (by kernel_rfl) (by kernel_rfl) (fun _ _ _ h => h) (Or.inl ⟨by kernel_rfl, ?hy⟩) hS0 ?rest
    case hy => (intro W hSw; clear hSw; go_simp; with_reducible rfl)
    case rest =>
    refine wpAnyH_take (i := 11) (v := ?_) rfl (by kernel_rfl) (by kernel_rfl) (by kernel_rfl) (fun _ _ _ h => h) (Or.inl ⟨by kernel_rfl, ?hy⟩) hS0 ?rest
    case hy => (intro W hSw; have z0 := (HOI.out W hSw).of_cell (i := 0) rfl; have z1 := (HOI.out W hSw).of_cell (i := 1) rfl; have z2 := (HOI.out W hSw).of_cell (i := 2) rfl; have z3 := (HOI.out W hSw).of_cell (i := 3) rfl; have zl := (HOI.out W hSw).lt; clear hSw; go_simp; with_reducible rfl)
    case rest =>
    try go_simp
    refine wpAnyH_ready (rs := [12]) (by kernel_rfl) (by simp) ?_
    refine AllReadyH.cons rfl (fun K hK => ?_) (AllReadyH.nil)
    go_simp
    refine (HCKI.out _ hS0).mono ?_
    rintro e w14 ⟨rfl, hb⟩
    have HX14 := Lib.hid (below_trans hS0 hb)
    clear hb
    go_simp
    refine hK.out _ _ HX14.out (fun hS1 => ?_)
    clear hK K
    refine wpAnyH_take (i := 13) (v := ?_) rfl (by kernel_rfl) (by kernel_rfl) (by kernel_rfl) (fun _ _ _ h => h) (Or.inl ⟨by kernel_rfl, ?hy⟩) hS1 ?rest
    case hy => (intro W hSw; clear hSw; go_simp; with_reducible rfl)
    case rest =>
    refine wpAnyH_done (by kernel_rfl) ?_ _
    clear hS0 hS1
    cases ck
    case false =>
      have hcb := HCB.out (fun h => by rw [HCKE.out] at h; exact absurd h.2 (by decide))
      have HCOL := Lib.hid hcb
      have HS0 := Lib.hid HX14.out
      clear hcb
      go_wp2_with fail
      have HSHB : Hid (∀ (W : World) (A : Option Addr) (c : Nat), Rd W 1 A ((khTx x.seeds nd l.length x.random).length + (igT cm.2 n l.length sw.l).length) ((khTx x.seeds nd l.length x.random).map Value.string ++ (igT cm.2 n l.length sw.l).map Value.string) → Calls Tryz.prog 30 #[.slice A ((khTx x.seeds nd l.length x.random).length + (igT cm.2 n l.length sw.l).length) c] W fun e w' => e = .returned (.bool true) ∧ Below W.heap.size W w') := Lib.hid (fun W A c hR => by
        have := rshown30_any A c _ W (Strs_two hR rfl) (by rw [List.length_append]; have := HT3L.out; have := HIGL.out sw.l.length; rw [HIGA.out] at this; omega) (fun s hs => (List.mem_append.1 hs).elim (HSMB.out.1 s) (HSMB.out.2 s)) HCOL.out
        rw [List.length_append] at this
        exact this)
      have HSHT2 := HSHT
      have HT3L2 := HT3L
      have HSHB2 := HSHB
      clear HCOL HSMB HSHT HT3L HSHB HCA HCB
      generalize khTx x.seeds nd l.length x.random = T3 at *
      obtain ⟨i0, hi0, hz0, hz1, hz2⟩ := info_parts info_strg
      have HI := Lib.hid (And.intro hi0 (And.intro hz0 (And.intro hz1 hz2)))
      clear hi0 hz0 hz1 hz2
      refine wp_region_held_drew (S := fun W => Below w5.heap.size w5 W) (by kernel_rfl) (HS0.out.drew) (fun hS0 => ?_)
      refine wpAnyH_take (i := 0) (v := ?_) rfl (by kernel_rfl) (by kernel_rfl) (by kernel_rfl) (fun _ _ _ h => h) (Or.inl ⟨by kernel_rfl, ?hy⟩) hS0 ?rest
      case hy => (intro W hSw; clear hSw; go_simp; with_reducible rfl)
      case rest =>
      refine wpAnyH_take (i := 1) (v := ?_) rfl (by kernel_rfl) (by kernel_rfl) (by kernel_rfl) (fun _ _ _ h => h) (Or.inl ⟨by kernel_rfl, ?hy⟩) hS0 ?rest
      case hy => (intro W hSw; clear hSw; go_simp; with_reducible rfl)
      case rest =>
      refine wpAnyH_take (i := 2) (v := ?_) rfl (by kernel_rfl) (by kernel_rfl) (by kernel_rfl) (fun _ _ _ h => h) (Or.inl ⟨by kernel_rfl, ?hy⟩) hS0 ?rest
      case hy => (intro W hSw; clear hSw; go_simp; with_reducible rfl)
      case rest =>
      refine wpAnyH_take (i := 3) (v := ?_) rfl (by kernel_rfl) (by kernel_rfl) (by kernel_rfl) (fun _ _ _ h => h) (Or.inl ⟨by kernel_rfl, ?hy⟩) hS0 ?rest
      case hy => (intro W hSw; clear hSw; go_simp; with_reducible rfl)
      case rest =>
      refine wpAnyH_take (i := 4) (v := ?_) rfl (by kernel_rfl) (by kernel_rfl) (by kernel_rfl) (fun _ _ _ h => h) (Or.inl ⟨by kernel_rfl, ?hy⟩) hS0 ?rest
      case hy => (intro W hSw; obtain ⟨c0, c1, c2⟩ := HKR.out W hSw; have cl := lt_of_cell c0; clear hSw; go_simp; with_reducible rfl)
      case rest =>
      refine wpAnyH_take (i := 5) (v := ?_) rfl (by kernel_rfl) (by kernel_rfl) (by kernel_rfl) (fun _ _ _ h => h) (Or.inl ⟨by kernel_rfl, ?hy⟩) hS0 ?rest
      case hy => (intro W hSw; clear hSw; go_simp; with_reducible rfl)
      case rest =>
      try go_simp
      refine wpAnyH_take (i := 6) (v := ?_) rfl (by kernel_rfl) (by kernel_rfl) (by kernel_rfl) (fun _ _ _ h => h) (Or.inl ⟨by kernel_rfl, ?hy⟩) hS0 ?rest
      case hy => (intro W hSw; clear hSw; go_simp; with_reducible rfl)
      case rest =>
      refine wpAnyH_take (i := 7) (v := ?_) rfl (by kernel_rfl) (by kernel_rfl) (by kernel_rfl) (fun _ _ _ h => h) (Or.inl ⟨by kernel_rfl, ?hy⟩) hS0 ?rest
      case hy => (intro W hSw; clear hSw; go_simp; with_reducible rfl)
      case rest =>
      refine wpAnyH_take (i := 8) (v := ?_) rfl (by kernel_rfl) (by kernel_rfl) (by kernel_rfl) (fun _ _ _ h => h) (Or.inl ⟨by kernel_rfl, ?hy⟩) hS0 ?rest
      case hy => (intro W hSw; clear hSw; go_simp; with_reducible rfl)
      case rest =>
      refine wpAnyH_take (i := 9) (v := ?_) rfl (by kernel_rfl) (by kernel_rfl) (by kernel_rfl) (fun _ _ _ h => h) (Or.inl ⟨by kernel_rfl, ?hy⟩) hS0 ?rest
      case hy => (intro W hSw; clear hSw; go_simp; with_reducible rfl)
      case rest =>
      refine wpAnyH_take (i := 10) (v := ?_) rfl (by kernel_rfl) (by kernel_rfl) (by kernel_rfl) (fun _ _ _ h => h) (Or.inl ⟨by kernel_rfl, ?hy⟩) hS0 ?rest
      case hy => (intro W hSw; clear hSw; go_simp; with_reducible rfl)
      case rest =>
      refine wpAnyH_take (i := 11) (v := ?_) rfl (by kernel_rfl) (by kernel_rfl) (by kernel_rfl) (fun _ _ _ h => h) (Or.inl ⟨by kernel_rfl, ?hy⟩) hS0 ?rest
      case hy => (intro W hSw; clear hSw; go_simp; with_reducible rfl)
      case rest =>
      try go_simp
      refine wpAnyH_take (i := 12) (v := ?_) rfl (by kernel_rfl) (by kernel_rfl) (by kernel_rfl) (fun _ _ _ h => h) (Or.inl ⟨by kernel_rfl, ?hy⟩) hS0 ?rest
      case hy => (intro W hSw; obtain ⟨c0, c1, c2⟩ := HKR.out W hSw; have cl := lt_of_cell c0; clear hSw; go_simp; with_reducible rfl)
      case rest =>
      refine wpAnyH_ready (rs := [13]) (by kernel_rfl) (by simp) ?_
      refine AllReadyH.cons rfl (fun K hK => ?_) (AllReadyH.nil)
      go_simp
      refine (HSHT2.out _ hS0).mono ?_
      rintro e w21 ⟨v21, rfl, ho, hb⟩
      have HY21 := Lib.hid (below_trans hS0 hb)
      have HO21 : Hid (w21.ownsRow w5.heap.size 9 1 v21 T3.length (T3.map Value.string)) := Lib.hid (row_mono ho hS0.size)
      clear ho hb
      go_simp
      refine hK.out _ _ HY21.out (fun hS1 => ?_)
      clear hK K
      refine wpAnyH_take (i := 14) (v := ?_) rfl (by kernel_rfl) (by kernel_rfl) (by kernel_rfl) (fun _ _ _ h => h) (Or.inl ⟨by kernel_rfl, ?hy⟩) hS1 ?rest
      case hy => (intro W hSw; clear hSw; go_simp; with_reducible rfl)
      case rest =>
      refine wpAnyH_done (by kernel_rfl) ?_ _
      clear hS0 hS1
      go_wp2_with fail
      go_loopw [26, 27] (fun u26 u27 wr => ∃ j : Nat, j ≤ sw.l.length ∧ u27 = .int .i64 j ∧ Below w5.heap.size w5 wr ∧ wr.ownsRow w5.heap.size 9 1 u26 (T3.length + (igT cm.2 n l.length (sw.l.take j)).length) (T3.map Value.string ++ (igT cm.2 n l.length (sw.l.take j)).map Value.string)) (fun _ u27 _ => sw.l.length - (intOf u27).toNat)
      case atStart => exact ⟨0, Nat.zero_le _, rfl, HY21.out, by rw [HIG0.out]; simpa using HO21.out⟩
      case round =>
      obtain ⟨j, hj, rfl, hb, ho⟩ := hrel
      have HBr := Lib.hid hb
      have HOr := Lib.hid ho
      clear hb ho
      by_cases hjl : j < sw.l.length
      case neg =>
        obtain rfl : j = sw.l.length := by omega
        obtain ⟨A22, c22, rfl, -, -, hr22⟩ := Rd.of_own HOr.out
        rw [HIGA.out] at hr22
        have HR22 := Lib.hid hr22
        clear hr22
        go_wp2_with fail
        rw [HIGA.out]
        refine (HSHB2.out wr A22 c22 HR22.out).mono ?_
        rintro e w23 ⟨rfl, hb⟩
        go_wp2
        go_ret
        exact ⟨rfl, below_trans HB5.out (below_trans HBr.out hb)⟩
      case pos =>
      have hji : (j : Int) < (sw.l.length : Int) := by omega
      obtain ⟨q, hq⟩ := get_some sw.l j hjl
      have HQM := Lib.hid (List.mem_of_getElem? hq)
      have HQE := Lib.hid hq
      obtain ⟨bW, oW, hWA, -⟩ := kp_cells (HSW.out w5 HB5.out).row hq
      have HQC : Hid (∀ W, Below w5.heap.size w5 W → ∃ b off, sw.A = some ⟨b, off, none⟩ ∧ W.cell? ⟨b, off + j * 4, none⟩ = some (.int .i64 q.ix) ∧ W.cell? ⟨b, off + j * 4 + 1, none⟩ = some (.int .i64 q.s.1) ∧ W.cell? ⟨b, off + j * 4 + 2, none⟩ = some (.int .i64 q.s.2) ∧ W.cell? ⟨b, off + j * 4 + 3, none⟩ = some (.slice q.A q.p.length q.c)) := Lib.hid (fun W hW => kp_cells (HSW.out W (below_trans HB5.out hW)).row HQE.out)
      have HWA := Lib.hid hWA
      clear hq
      rw [hWA]
      clear hWA
      go_wp2_with fail
      refine wp_region_held_drew (S := fun W => Below w5.heap.size w5 W) (by kernel_rfl) (HBr.out.drew) (fun hS0 => ?_)
      refine wpAnyH_take (i := 0) (v := ?_) rfl (by kernel_rfl) (by kernel_rfl) (by kernel_rfl) (fun _ _ _ h => h) (Or.inl ⟨by kernel_rfl, ?hy⟩) hS0 ?rest
      case hy => (intro W hSw; clear hSw; go_simp; with_reducible rfl)
      case rest =>
      refine wpAnyH_take (i := 1) (v := ?_) rfl (by kernel_rfl) (by kernel_rfl) (by kernel_rfl) (fun _ _ _ h => h) (Or.inl ⟨by kernel_rfl, ?hy⟩) hS0 ?rest
      case hy => (intro W hSw; have a0 := (HN8.out W hSw).of_cell (i := 0) rfl; have al := (HN8.out W hSw).lt; clear hSw; go_simp; with_reducible rfl)
      case rest =>
      refine wpAnyH_take (i := 2) (v := ?_) rfl (by kernel_rfl) (by kernel_rfl) (by kernel_rfl) (fun _ _ _ h => h) (Or.inl ⟨by kernel_rfl, ?hy⟩) hS0 ?rest
      case hy => (intro W hSw; clear hSw; go_simp; with_reducible rfl)
      case rest =>
      refine wpAnyH_take (i := 3) (v := ?_) rfl (by kernel_rfl) (by kernel_rfl) (by kernel_rfl) (fun _ _ _ h => h) (Or.inl ⟨by kernel_rfl, ?hy⟩) hS0 ?rest
      case hy => (intro W hSw; clear hSw; go_simp; with_reducible rfl)
      case rest =>
      refine wpAnyH_take (i := 4) (v := ?_) rfl (by kernel_rfl) (by kernel_rfl) (by kernel_rfl) (fun _ _ _ h => h) (Or.inl ⟨by kernel_rfl, ?hy⟩) hS0 ?rest
      case hy => (intro W hSw; obtain ⟨c0, c1⟩ := HCM.out W hSw; have cl := lt_of_cell c0; clear hSw; go_simp; with_reducible rfl)
      case rest =>
      refine wpAnyH_take (i := 5) (v := ?_) rfl (by kernel_rfl) (by kernel_rfl) (by kernel_rfl) (fun _ _ _ h => h) (Or.inl ⟨by kernel_rfl, ?hy⟩) hS0 ?rest
      case hy => (intro W hSw; clear hSw; go_simp; with_reducible rfl)
      case rest =>
      try go_simp
      refine wpAnyH_take (i := 6) (v := ?_) rfl (by kernel_rfl) (by kernel_rfl) (by kernel_rfl) (fun _ _ _ h => h) (Or.inl ⟨by kernel_rfl, ?hy⟩) hS0 ?rest
      case hy => (intro W hSw; clear hSw; go_simp; with_reducible rfl)
      case rest =>
      refine wpAnyH_take (i := 7) (v := ?_) rfl (by kernel_rfl) (by kernel_rfl) (by kernel_rfl) (fun _ _ _ h => h) (Or.inl ⟨by kernel_rfl, ?hy⟩) hS0 ?rest
      case hy => (intro W hSw; clear hSw; go_simp; with_reducible rfl)
      case rest =>
      refine wpAnyH_take (i := 8) (v := ?_) rfl (by kernel_rfl) (by kernel_rfl) (by kernel_rfl) (fun _ _ _ h => h) (Or.inl ⟨by kernel_rfl, ?hy⟩) hS0 ?rest
      case hy => (intro W hSw; clear hSw; go_simp; with_reducible rfl)
      case rest =>
      refine wpAnyH_take (i := 9) (v := ?_) rfl (by kernel_rfl) (by kernel_rfl) (by kernel_rfl) (fun _ _ _ h => h) (Or.inl ⟨by kernel_rfl, ?hy⟩) hS0 ?rest
      case hy => (intro W hSw; clear hSw; go_simp; with_reducible rfl)
      case rest =>
      refine wpAnyH_take (i := 10) (v := ?_) rfl (by kernel_rfl) (by kernel_rfl) (by kernel_rfl) (fun _ _ _ h => h) (Or.inl ⟨by kernel_rfl, ?hy⟩) hS0 ?rest
      case hy => (intro W hSw; clear hSw; go_simp; with_reducible rfl)
      case rest =>
      refine wpAnyH_take (i := 11) (v := ?_) rfl (by kernel_rfl) (by kernel_rfl) (by kernel_rfl) (fun _ _ _ h => h) (Or.inl ⟨by kernel_rfl, ?hy⟩) hS0 ?rest
      case hy => (intro W hSw; obtain ⟨b_, f_, he_, c0, c1, c2, c3⟩ := HQC.out W hSw; rw [HWA.out] at he_; cases he_; have cl := lt_of_cell c0; clear hSw; go_simp; with_reducible rfl)
      case rest =>
      try go_simp
      refine wpAnyH_ready (rs := [12]) (by kernel_rfl) (by simp) ?_
      refine AllReadyH.cons rfl (fun K hK => ?_) (AllReadyH.nil)
      go_simp
      refine (HKT.out q HQM.out _ hS0).mono ?_
      rintro e w24 ⟨rfl, hb⟩
      have HX24 := Lib.hid (below_trans hS0 hb)
      have HO24 := Lib.hid (row_below (w := World.drew wr) HOr.out hb)
      clear hb
      go_simp
      refine hK.out _ _ HX24.out (fun hS1 => ?_)
      clear hK K
      refine wpAnyH_done (by kernel_rfl) ?_ _
      clear hS0 hS1
      obtain ⟨kb, hkb⟩ : ∃ b, ktB cm.2 n l.length q = b := ⟨_, rfl⟩
      rw [hkb]
      have hstep := HIGT.out j q HQE.out
      rw [hkb] at hstep
      have HSTP := Lib.hid hstep
      have HKB := Lib.hid hkb
      clear hkb hstep
      cases kb
      case false =>
        go_wp2
        go_roundw
        case rel => exact ⟨j + 1, by omega, by go_num, HX24.out, by rw [HSTP.out, if_neg (by decide), List.append_nil]; exact HO24.out⟩
        case measure => first | (simp [intOf]; done) | (simp [intOf]; omega)
      case true =>
        obtain ⟨b_, f_, he_, c0, c1, c2, c3⟩ := HQC.out w24 HX24.out
        rw [HWA.out] at he_
        cases he_
        have cl := lt_of_cell c0
        go_wp2_with fail
        clear c0 c1 c2 c3 cl
        refine (HKX.out q HQM.out HKB.out w24 HX24.out).mono ?_
        rintro e w25 ⟨v25, rfl, ho, hb⟩
        have HX25 := Lib.hid (below_trans HX24.out hb)
        have HO25 := Lib.hid (row_below HO24.out hb)
        obtain ⟨A25, c25, rfl, -, -, hr25⟩ := Rd.of_own ho
        have HR25 := Lib.hid hr25
        have hkl : (kkTx n l.length q.ix.toNat q.s q.p).length ≤ 78 := by
          have h1 := HIGL.out (j + 1)
          rw [HSTP.out, List.length_append, if_pos trivial] at h1
          omega
        have HKL := Lib.hid hkl
        clear ho hb hr25 hkl
        obtain ⟨T4, hT4⟩ : ∃ T, kkTx n l.length q.ix.toNat q.s q.p = T := ⟨_, rfl⟩
        rw [hT4] at HR25 HKL HSTP ⊢
        go_wp2_with (at_builtin; refine wpList_app _ rfl (.tmp 192) (.tmp 200) 30 30 rfl w5.heap.size 9 9 i0 _ 1 16 Tryz.underlying30 Tryz.underlying30 HI.out.1 HI.out.2.1 HI.out.2.2.1 HI.out.2.2.2 rfl (by omega) _ (T3.length + (igT cm.2 n l.length (sw.l.take j)).length) _ rfl HO25.out A25 T4.length c25 (T4.map Value.string) rfl HR25.out (by intro u hu; obtain ⟨t, _, rfl⟩ := List.mem_map.1 hu; rfl) (by have := HT3L2.out; have := HIGL.out j; have := HKL.out; simp only [maxLen]; omega) (by have := HT3L2.out; have := HIGL.out j; have := HKL.out; omega) HX25.out.size ?_)
        intro v26 w26 hown hg
        have HX26 : Hid (Below w5.heap.size w5 w26) := Lib.hid (HX25.out.grown hg HX25.out.size (fun i hi => (HO25.out.lt i hi).1))
        have HO26 : Hid (w26.ownsRow w5.heap.size 9 1 v26 (T3.length + (igT cm.2 n l.length (sw.l.take (j + 1))).length) (T3.map Value.string ++ (igT cm.2 n l.length (sw.l.take (j + 1))).map Value.string)) := Lib.hid (by
          rw [HSTP.out, if_pos trivial, List.length_append, List.map_append, ← Nat.add_assoc]
          exact hown)
        clear hown hg
        go_wp2
        go_roundw
        case rel => exact ⟨j + 1, by omega, by go_num, HX26.out, HO26.out⟩
        case measure => first | (simp [intOf]; done) | (simp [intOf]; omega)
    case true =>
      have hca := HCA.out ⟨HIX.out, HCKE.out⟩
      rw [HIX.out, Int.toNat_natCast] at hca
      obtain ⟨hin, hv0, hv1, hpl, hpD, hcol⟩ := hca
      obtain ⟨hsd, hsl6⟩ : sdV x.seeds = true ∧ x.seeds.length ≤ 600 := ⟨HDV.out.sd, HDV.out.few⟩
      have hofit := sh_fit HSH.out.1 (HOG.out w13 (below_trans HB5.out HB513.out))
      have hs60 : x.salt.size ≤ 200 := by
        have h1 := (HF.out.each x (List.mem_of_getElem? HX.out.1)).2.1
        have h2 := okK_dv HOKX.out
        unfold dvB sdOk at h2
        simp only [Bool.and_eq_true, decide_eq_true_eq] at h2
        omega
      have HT1S : Hid (∀ s ∈ ksTx x.seeds x.salt, s.size ≤ 1000000000) := Lib.hid (ksTx_small hsd hsl6 (by omega))
      have HT1L : Hid ((ksTx x.seeds x.salt).length ≤ 3000) := Lib.hid (ksTx_len _ _ hsl6)
      have HT2S : Hid (∀ s ∈ koTx n ii o.v.toNat o.salt o.p, s.size ≤ 1000000000) := Lib.hid (koTx_small (by have := HN6.out; omega) (by omega) (by have := hofit.2.2.1; omega) hpD)
      have HT2L : Hid ((koTx n ii o.v.toNat o.salt o.p).length ≤ 14) := Lib.hid (by rw [koTx_len, ← hpl]; have := hofit.2.1; omega)
      have HST : Hid (∀ W, Below w5.heap.size w5 W → Calls Tryz.prog 31 #[.slice x.SA n x.sc, .string x.salt] W fun e w' => ∃ v, e = .returned v ∧ w'.ownsRow W.heap.size 9 1 v (ksTx x.seeds x.salt).length ((ksTx x.seeds x.salt).map Value.string) ∧ Below W.heap.size W w') := Lib.hid (fun W hW => by
        have hk := HIN.out x (List.mem_of_getElem? HX.out.1) W (below_trans HB5.out hW)
        have := rstexts_any x.SA x.sc x.seeds x.salt W hk.s hsd hsl6 hs60
        rw [HXL.out] at this
        exact this)
      have HOT : Hid (∀ W, Below w5.heap.size w5 W → Calls Tryz.prog 32 #[.int .i64 n, .agg #[.int .i64 ii, .int .i64 o.v, .string o.salt, .slice o.A o.p.length o.c]] W fun e w' => ∃ v, e = .returned v ∧ w'.ownsRow W.heap.size 9 1 v (koTx n ii o.v.toNat o.salt o.p).length ((koTx n ii o.v.toNat o.salt o.p).map Value.string) ∧ Below W.heap.size W w') := Lib.hid (fun W hW => by
        have hO := HOG.out W (below_trans HB5.out hW)
        have := rotexts_any n ii o.v.toNat o.salt o.A o.c o.p W (by have := HN6.out; omega) hin (by omega) (by have := hofit.2.2.1; omega) hO.p hpl hO.cap hofit.2.2.2
        rw [show ((o.v.toNat : Nat) : Int) = o.v from Int.toNat_of_nonneg hv0] at this
        exact this)
      have HSH2 : Hid (∀ (W : World) (A : Option Addr) (c : Nat), Rd W 1 A ((ksTx x.seeds x.salt).length + (koTx n ii o.v.toNat o.salt o.p).length) ((ksTx x.seeds x.salt).map Value.string ++ (koTx n ii o.v.toNat o.salt o.p).map Value.string) → Calls Tryz.prog 30 #[.slice A ((ksTx x.seeds x.salt).length + (koTx n ii o.v.toNat o.salt o.p).length) c] W fun e w' => e = .returned (.bool true) ∧ Below W.heap.size W w') := Lib.hid (fun W A c hR => by
        have := rshown30_any A c _ W (Strs_two hR rfl) (by rw [List.length_append]; have := HT1L.out; have := HT2L.out; omega) (fun s hs => (List.mem_append.1 hs).elim (HT1S.out s) (HT2S.out s)) hcol
        rw [List.length_append] at this
        exact this)
      clear hin hv0 hv1 hpl hpD hcol hsd hsl6 hofit hs60 HT1S HT2S
      generalize ksTx x.seeds x.salt = T1 at *
      generalize koTx n ii o.v.toNat o.salt o.p = T2 at *
      obtain ⟨i0, hi0, hz0, hz1, hz2⟩ := info_parts info_strg
      have HI := Lib.hid (And.intro hi0 (And.intro hz0 (And.intro hz1 hz2)))
      clear hi0 hz0 hz1 hz2
      go_wp2_with fail
      refine wp_region_held_drew (S := fun W => Below w5.heap.size w5 W) (by kernel_rfl) (HX14.out.drew) (fun hS0 => ?_)
      refine wpAnyH_take (i := 0) (v := ?_) rfl (by kernel_rfl) (by kernel_rfl) (by kernel_rfl) (fun _ _ _ h => h) (Or.inl ⟨by kernel_rfl, ?hy⟩) hS0 ?rest
      case hy => (intro W hSw; clear hSw; go_simp; with_reducible rfl)
      case rest =>
      refine wpAnyH_take (i := 1) (v := ?_) rfl (by kernel_rfl) (by kernel_rfl) (by kernel_rfl) (fun _ _ _ h => h) (Or.inl ⟨by kernel_rfl, ?hy⟩) hS0 ?rest
      case hy => (intro W hSw; clear hSw; go_simp; with_reducible rfl)
      case rest =>
      refine wpAnyH_take (i := 2) (v := ?_) rfl (by kernel_rfl) (by kernel_rfl) (by kernel_rfl) (fun _ _ _ h => h) (Or.inl ⟨by kernel_rfl, ?hy⟩) hS0 ?rest
      case hy => (intro W hSw; clear hSw; go_simp; with_reducible rfl)
      case rest =>
      refine wpAnyH_take (i := 3) (v := ?_) rfl (by kernel_rfl) (by kernel_rfl) (by kernel_rfl) (fun _ _ _ h => h) (Or.inl ⟨by kernel_rfl, ?hy⟩) hS0 ?rest
      case hy => (intro W hSw; clear hSw; go_simp; with_reducible rfl)
      case rest =>
      refine wpAnyH_take (i := 4) (v := ?_) rfl (by kernel_rfl) (by kernel_rfl) (by kernel_rfl) (fun _ _ _ h => h) (Or.inl ⟨by kernel_rfl, ?hy⟩) hS0 ?rest
      case hy => (intro W hSw; clear hSw; go_simp; with_reducible rfl)
      case rest =>
      refine wpAnyH_take (i := 5) (v := ?_) rfl (by kernel_rfl) (by kernel_rfl) (by kernel_rfl) (fun _ _ _ h => h) (Or.inl ⟨by kernel_rfl, ?hy⟩) hS0 ?rest
      case hy => (intro W hSw; clear hSw; go_simp; with_reducible rfl)
      case rest =>
      try go_simp
      refine wpAnyH_take (i := 6) (v := ?_) rfl (by kernel_rfl) (by kernel_rfl) (by kernel_rfl) (fun _ _ _ h => h) (Or.inl ⟨by kernel_rfl, ?hy⟩) hS0 ?rest
      case hy => (intro W hSw; obtain ⟨c0, c1, c2⟩ := HKR.out W hSw; have cl := lt_of_cell c0; clear hSw; go_simp; with_reducible rfl)
      case rest =>
      refine wpAnyH_take (i := 7) (v := ?_) rfl (by kernel_rfl) (by kernel_rfl) (by kernel_rfl) (fun _ _ _ h => h) (Or.inl ⟨by kernel_rfl, ?hy⟩) hS0 ?rest
      case hy => (intro W hSw; clear hSw; go_simp; with_reducible rfl)
      case rest =>
      refine wpAnyH_take (i := 8) (v := ?_) rfl (by kernel_rfl) (by kernel_rfl) (by kernel_rfl) (fun _ _ _ h => h) (Or.inl ⟨by kernel_rfl, ?hy⟩) hS0 ?rest
      case hy => (intro W hSw; clear hSw; go_simp; with_reducible rfl)
      case rest =>
      refine wpAnyH_take (i := 9) (v := ?_) rfl (by kernel_rfl) (by kernel_rfl) (by kernel_rfl) (fun _ _ _ h => h) (Or.inl ⟨by kernel_rfl, ?hy⟩) hS0 ?rest
      case hy => (intro W hSw; clear hSw; go_simp; with_reducible rfl)
      case rest =>
      refine wpAnyH_take (i := 10) (v := ?_) rfl (by kernel_rfl) (by kernel_rfl) (by kernel_rfl) (fun _ _ _ h => h) (Or.inl ⟨by kernel_rfl, ?hy⟩) hS0 ?rest
      case hy => (intro W hSw; clear hSw; go_simp; with_reducible rfl)
      case rest =>
      refine wpAnyH_take (i := 11) (v := ?_) rfl (by kernel_rfl) (by kernel_rfl) (by kernel_rfl) (fun _ _ _ h => h) (Or.inl ⟨by kernel_rfl, ?hy⟩) hS0 ?rest
      case hy => (intro W hSw; obtain ⟨c0, c1, c2⟩ := HKR.out W hSw; have cl := lt_of_cell c0; clear hSw; go_simp; with_reducible rfl)
      case rest =>
      try go_simp
      refine wpAnyH_take (i := 13) (v := ?_) rfl (by kernel_rfl) (by kernel_rfl) (by kernel_rfl) (fun _ _ _ h => h) (Or.inl ⟨by kernel_rfl, ?hy⟩) hS0 ?rest
      case hy => (intro W hSw; clear hSw; go_simp; with_reducible rfl)
      case rest =>
      refine wpAnyH_take (i := 14) (v := ?_) rfl (by kernel_rfl) (by kernel_rfl) (by kernel_rfl) (fun _ _ _ h => h) (Or.inl ⟨by kernel_rfl, ?hy⟩) hS0 ?rest
      case hy => (intro W hSw; have z0 := (HOI.out W hSw).of_cell (i := 0) rfl; have z1 := (HOI.out W hSw).of_cell (i := 1) rfl; have z2 := (HOI.out W hSw).of_cell (i := 2) rfl; have z3 := (HOI.out W hSw).of_cell (i := 3) rfl; have zl := (HOI.out W hSw).lt; clear hSw; go_simp; with_reducible rfl)
      case rest =>
      refine wpAnyH_ready (rs := [12]) (by kernel_rfl) (by simp) ?_
      refine AllReadyH.cons rfl (fun K hK => ?_) (AllReadyH.nil)
      go_simp
      refine (HST.out _ hS0).mono ?_
      rintro e w15 ⟨v15, rfl, ho, hb⟩
      have HY15 := Lib.hid (below_trans hS0 hb)
      have HO15 : Hid (w15.ownsRow w5.heap.size 9 1 v15 T1.length (T1.map Value.string)) := Lib.hid (row_mono ho hS0.size)
      clear ho hb
      go_simp
      refine hK.out _ _ HY15.out (fun hS1 => ?_)
      clear hK K
      refine wpAnyH_ready (rs := [15]) (by kernel_rfl) (by simp) ?_
      refine AllReadyH.cons rfl (fun K hK => ?_) (AllReadyH.nil)
      go_simp
      refine (HOT.out _ hS1).mono ?_
      rintro e w16 ⟨v16, rfl, ho, hb⟩
      have HY16 := Lib.hid (below_trans hS1 hb)
      have HO16 := Lib.hid (row_below HO15.out hb)
      obtain ⟨A16, c16, rfl, -, -, hr16⟩ := Rd.of_own ho
      have HR16 := Lib.hid hr16
      clear ho hb hr16
      go_simp
      refine hK.out _ _ HY16.out (fun hS2 => ?_)
      clear hK K
      refine wpAnyH_ready (rs := [16]) (by kernel_rfl) (by simp) ?_
      refine AllReadyH.cons rfl (fun K hK => ?_) (AllReadyH.nil)
      refine step_appT w16 (by kernel_rfl) (.tmp 152) (.tmp 155) 30 30 rfl w5.heap.size 9 9 i0 _ 1 16 Tryz.underlying30 Tryz.underlying30 HI.out.1 HI.out.2.1 HI.out.2.2.1 HI.out.2.2.2 rfl (by omega) v15 T1.length _ (by kernel_rfl) HO16.out A16 T2.length c16 (T2.map Value.string) (by kernel_rfl) HR16.out (by intro u hu; obtain ⟨t, _, rfl⟩ := List.mem_map.1 hu; rfl) (by have := HT1L.out; have := HT2L.out; simp only [maxLen]; omega) (by have := HT1L.out; have := HT2L.out; omega) HY16.out.size ?_
      intro v17 w17 hown hg
      have HY17 : Hid (Below w5.heap.size w5 w17) := Lib.hid (HY16.out.grown hg HY16.out.size (fun j hj => (HO16.out.lt j hj).1))
      obtain ⟨A17, c17, rfl, -, -, hr17⟩ := Rd.of_own hown
      have HR17 := Lib.hid hr17
      clear hown hg hr17
      refine hK.out _ _ HY17.out (fun hS3 => ?_)
      clear hK K
      refine wpAnyH_ready (rs := [17]) (by kernel_rfl) (by simp) ?_
      refine AllReadyH.cons rfl (fun K hK => ?_) (AllReadyH.nil)
      go_simp
      refine (HSH2.out w17 A17 c17 HR17.out).mono ?_
      rintro e w18 ⟨rfl, hb⟩
      have HY18 := Lib.hid (below_trans HY17.out hb)
      clear hb
      go_simp
      refine hK.out _ _ HY18.out (fun hS4 => ?_)
      clear hK K
      refine wpAnyH_take (i := 18) (v := ?_) rfl (by kernel_rfl) (by kernel_rfl) (by kernel_rfl) (fun _ _ _ h => h) (Or.inl ⟨by kernel_rfl, ?hy⟩) hS4 ?rest
      case hy => (intro W hSw; clear hSw; go_simp; with_reducible rfl)
      case rest =>
      refine wpAnyH_take (i := 19) (v := ?_) rfl (by kernel_rfl) (by kernel_rfl) (by kernel_rfl) (fun _ _ _ h => h) (Or.inl ⟨by kernel_rfl, ?hy⟩) hS4 ?rest
      case hy => (intro W hSw; clear hSw; go_simp; with_reducible rfl)
      case rest =>
      refine wpAnyH_done (by kernel_rfl) ?_ _
      go_wp2
      go_ret
      exact ⟨rfl, below_trans HB5.out HY18.out⟩
  · skip
    clear hz
    go_wp2_with fail
    by_cases hix : o.ix = (ii : Int)
    case neg =>
      have hbe : (o.ix == (ii : Int)) = false := by simpa using hix
      refine wp_region_held_drew (S := fun W => Below w5.heap.size w5 W) (by kernel_rfl) (HB513.out.drew) (fun hS0 => ?_)
      refine wpAnyH_take (i := 0) (v := ?_) rfl (by kernel_rfl) (by kernel_rfl) (by kernel_rfl) (fun _ _ _ h => h) (Or.inl ⟨by kernel_rfl, ?hy⟩) hS0 ?rest
      case hy => (intro W hSw; clear hSw; go_simp; with_reducible rfl)
      case rest =>
      refine wpAnyH_take (i := 1) (v := ?_) rfl (by kernel_rfl) (by kernel_rfl) (by kernel_rfl) (fun _ _ _ h => h) (Or.inl ⟨by kernel_rfl, ?hy⟩) hS0 ?rest
      case hy => (intro W hSw; have z0 := (HOC.out W hSw).of_cell (i := 0) rfl; have z1 := (HOC.out W hSw).of_cell (i := 1) rfl; have z2 := (HOC.out W hSw).of_cell (i := 2) rfl; have z3 := (HOC.out W hSw).of_cell (i := 3) rfl; have zl := (HOC.out W hSw).lt; clear hSw; go_simp; with_reducible rfl)
      case rest =>
      refine wpAnyH_take (i := 2) (v := ?_) rfl (by kernel_rfl) (by kernel_rfl) (by kernel_rfl) (fun _ _ _ h => h) (Or.inl ⟨by kernel_rfl, ?hy⟩) hS0 ?rest
      case hy => (intro W hSw; clear hSw; go_simp; with_reducible rfl)
      case rest =>
      refine wpAnyH_take (i := 3) (v := ?_) rfl (by kernel_rfl) (by kernel_rfl) (by kernel_rfl) (fun _ _ _ h => h) (Or.inl ⟨by kernel_rfl, ?hy⟩) hS0 ?rest
      case hy => (intro W hSw; clear hSw; go_simp; with_reducible rfl)
      case rest =>
      refine wpAnyH_take (i := 4) (v := ?_) rfl (by kernel_rfl) (by kernel_rfl) (by kernel_rfl) (fun _ _ _ h => h) (Or.inl ⟨by kernel_rfl, ?hy⟩) hS0 ?rest
      case hy => (intro W hSw; clear hSw; go_simp; with_reducible rfl)
      case rest =>
      refine wpAnyH_take (i := 5) (v := undef) rfl (by kernel_rfl) (by kernel_rfl) (by kernel_rfl) (fun _ _ _ h => h) (Or.inr ⟨by kernel_rfl, rfl⟩) hS0 ?_
      try go_simp
      refine wpAnyH_take (i := 6) (v := undef) rfl (by kernel_rfl) (by kernel_rfl) (by kernel_rfl) (fun _ _ _ h => h) (Or.inr ⟨by kernel_rfl, rfl⟩) hS0 ?_
      refine wpAnyH_take (i := 7) (v := undef) rfl (by kernel_rfl) (by kernel_rfl) (by kernel_rfl) (fun _ _ _ h => h) (Or.inr ⟨by kernel_rfl, rfl⟩) hS0 ?_
      refine wpAnyH_take (i := 8) (v := undef) rfl (by kernel_rfl) (by kernel_rfl) (by kernel_rfl) (fun _ _ _ h => h) (Or.inr ⟨by kernel_rfl, rfl⟩) hS0 ?_
      refine wpAnyH_take (i := 9) (v := undef) rfl (by kernel_rfl) (by kernel_rfl) (by kernel_rfl) (fun _ _ _ h => h) (Or.inr ⟨by kernel_rfl, rfl⟩) hS0 ?_
      refine wpAnyH_take (i := 10) (v := undef) rfl (by kernel_rfl) (by kernel_rfl) (by kernel_rfl) (fun _ _ _ h => h) (Or.inr ⟨by kernel_rfl, rfl⟩) hS0 ?_
      refine wpAnyH_take (i := 11) (v := undef) rfl (by kernel_rfl) (by kernel_rfl) (by kernel_rfl) (fun _ _ _ h => h) (Or.inr ⟨by kernel_rfl, rfl⟩) hS0 ?_
      try go_simp
      refine wpAnyH_take (i := 12) (v := undef) rfl (by kernel_rfl) (by kernel_rfl) (by kernel_rfl) (fun _ _ _ h => h) (Or.inr ⟨by kernel_rfl, rfl⟩) hS0 ?_
      refine wpAnyH_take (i := 13) (v := ?_) rfl (by kernel_rfl) (by kernel_rfl) (by kernel_rfl) (fun _ _ _ h => h) (Or.inl ⟨by kernel_rfl, ?hy⟩) hS0 ?rest
      case hy => (intro W hSw; clear hSw; go_simp; with_reducible rfl)
      case rest =>
      refine wpAnyH_done (by kernel_rfl) ?_ _
      have hcb := HCB.out (fun h => hix h.1)
      have HCOL := Lib.hid hcb
      have HS0 := Lib.hid hS0
      clear hcb hix hbe hS0
      go_wp2_with fail
      have HSHB : Hid (∀ (W : World) (A : Option Addr) (c : Nat), Rd W 1 A ((khTx x.seeds nd l.length x.random).length + (igT cm.2 n l.length sw.l).length) ((khTx x.seeds nd l.length x.random).map Value.string ++ (igT cm.2 n l.length sw.l).map Value.string) → Calls Tryz.prog 30 #[.slice A ((khTx x.seeds nd l.length x.random).length + (igT cm.2 n l.length sw.l).length) c] W fun e w' => e = .returned (.bool true) ∧ Below W.heap.size W w') := Lib.hid (fun W A c hR => by
        have := rshown30_any A c _ W (Strs_two hR rfl) (by rw [List.length_append]; have := HT3L.out; have := HIGL.out sw.l.length; rw [HIGA.out] at this; omega) (fun s hs => (List.mem_append.1 hs).elim (HSMB.out.1 s) (HSMB.out.2 s)) HCOL.out
        rw [List.length_append] at this
        exact this)
      have HSHT2 := HSHT
      have HT3L2 := HT3L
      have HSHB2 := HSHB
      clear HCOL HSMB HSHT HT3L HSHB HCA HCB
      generalize khTx x.seeds nd l.length x.random = T3 at *
      obtain ⟨i0, hi0, hz0, hz1, hz2⟩ := info_parts info_strg
      have HI := Lib.hid (And.intro hi0 (And.intro hz0 (And.intro hz1 hz2)))
      clear hi0 hz0 hz1 hz2
      refine wp_region_held_drew (S := fun W => Below w5.heap.size w5 W) (by kernel_rfl) (HS0.out.drew) (fun hS0 => ?_)
      refine wpAnyH_take (i := 0) (v := ?_) rfl (by kernel_rfl) (by kernel_rfl) (by kernel_rfl) (fun _ _ _ h => h) (Or.inl ⟨by kernel_rfl, ?hy⟩) hS0 ?rest
      case hy => (intro W hSw; clear hSw; go_simp; with_reducible rfl)
      case rest =>
      refine wpAnyH_take (i := 1) (v := ?_) rfl (by kernel_rfl) (by kernel_rfl) (by kernel_rfl) (fun _ _ _ h => h) (Or.inl ⟨by kernel_rfl, ?hy⟩) hS0 ?rest
      case hy => (intro W hSw; clear hSw; go_simp; with_reducible rfl)
      case rest =>
      refine wpAnyH_take (i := 2) (v := ?_) rfl (by kernel_rfl) (by kernel_rfl) (by kernel_rfl) (fun _ _ _ h => h) (Or.inl ⟨by kernel_rfl, ?hy⟩) hS0 ?rest
      case hy => (intro W hSw; clear hSw; go_simp; with_reducible rfl)
      case rest =>
      refine wpAnyH_take (i := 3) (v := ?_) rfl (by kernel_rfl) (by kernel_rfl) (by kernel_rfl) (fun _ _ _ h => h) (Or.inl ⟨by kernel_rfl, ?hy⟩) hS0 ?rest
      case hy => (intro W hSw; clear hSw; go_simp; with_reducible rfl)
      case rest =>
      refine wpAnyH_take (i := 4) (v := ?_) rfl (by kernel_rfl) (by kernel_rfl) (by kernel_rfl) (fun _ _ _ h => h) (Or.inl ⟨by kernel_rfl, ?hy⟩) hS0 ?rest
      case hy => (intro W hSw; obtain ⟨c0, c1, c2⟩ := HKR.out W hSw; have cl := lt_of_cell c0; clear hSw; go_simp; with_reducible rfl)
      case rest =>
      refine wpAnyH_take (i := 5) (v := ?_) rfl (by kernel_rfl) (by kernel_rfl) (by kernel_rfl) (fun _ _ _ h => h) (Or.inl ⟨by kernel_rfl, ?hy⟩) hS0 ?rest
      case hy => (intro W hSw; clear hSw; go_simp; with_reducible rfl)
      case rest =>
      try go_simp
      refine wpAnyH_take (i := 6) (v := ?_) rfl (by kernel_rfl) (by kernel_rfl) (by kernel_rfl) (fun _ _ _ h => h) (Or.inl ⟨by kernel_rfl, ?hy⟩) hS0 ?rest
      case hy => (intro W hSw; clear hSw; go_simp; with_reducible rfl)
      case rest =>
      refine wpAnyH_take (i := 7) (v := ?_) rfl (by kernel_rfl) (by kernel_rfl) (by kernel_rfl) (fun _ _ _ h => h) (Or.inl ⟨by kernel_rfl, ?hy⟩) hS0 ?rest
      case hy => (intro W hSw; clear hSw; go_simp; with_reducible rfl)
      case rest =>
      refine wpAnyH_take (i := 8) (v := ?_) rfl (by kernel_rfl) (by kernel_rfl) (by kernel_rfl) (fun _ _ _ h => h) (Or.inl ⟨by kernel_rfl, ?hy⟩) hS0 ?rest
      case hy => (intro W hSw; clear hSw; go_simp; with_reducible rfl)
      case rest =>
      refine wpAnyH_take (i := 9) (v := ?_) rfl (by kernel_rfl) (by kernel_rfl) (by kernel_rfl) (fun _ _ _ h => h) (Or.inl ⟨by kernel_rfl, ?hy⟩) hS0 ?rest
      case hy => (intro W hSw; clear hSw; go_simp; with_reducible rfl)
      case rest =>
      refine wpAnyH_take (i := 10) (v := ?_) rfl (by kernel_rfl) (by kernel_rfl) (by kernel_rfl) (fun _ _ _ h => h) (Or.inl ⟨by kernel_rfl, ?hy⟩) hS0 ?rest
      case hy => (intro W hSw; clear hSw; go_simp; with_reducible rfl)
      case rest =>
      refine wpAnyH_take (i := 11) (v := ?_) rfl (by kernel_rfl) (by kernel_rfl) (by kernel_rfl) (fun _ _ _ h => h) (Or.inl ⟨by kernel_rfl, ?hy⟩) hS0 ?rest
      case hy => (intro W hSw; clear hSw; go_simp; with_reducible rfl)
      case rest =>
      try go_simp
      refine wpAnyH_take (i := 12) (v := ?_) rfl (by kernel_rfl) (by kernel_rfl) (by kernel_rfl) (fun _ _ _ h => h) (Or.inl ⟨by kernel_rfl, ?hy⟩) hS0 ?rest
      case hy => (intro W hSw; obtain ⟨c0, c1, c2⟩ := HKR.out W hSw; have cl := lt_of_cell c0; clear hSw; go_simp; with_reducible rfl)
      case rest =>
      refine wpAnyH_ready (rs := [13]) (by kernel_rfl) (by simp) ?_
      refine AllReadyH.cons rfl (fun K hK => ?_) (AllReadyH.nil)
      go_simp
      refine (HSHT2.out _ hS0).mono ?_
      rintro e w21 ⟨v21, rfl, ho, hb⟩
      have HY21 := Lib.hid (below_trans hS0 hb)
      have HO21 : Hid (w21.ownsRow w5.heap.size 9 1 v21 T3.length (T3.map Value.string)) := Lib.hid (row_mono ho hS0.size)
      clear ho hb
      go_simp
      refine hK.out _ _ HY21.out (fun hS1 => ?_)
      clear hK K
      refine wpAnyH_take (i := 14) (v := ?_) rfl (by kernel_rfl) (by kernel_rfl) (by kernel_rfl) (fun _ _ _ h => h) (Or.inl ⟨by kernel_rfl, ?hy⟩) hS1 ?rest
      case hy => (intro W hSw; clear hSw; go_simp; with_reducible rfl)
      case rest =>
      refine wpAnyH_done (by kernel_rfl) ?_ _
      clear hS0 hS1
      go_wp2_with fail
      go_loopw [26, 27] (fun u26 u27 wr => ∃ j : Nat, j ≤ sw.l.length ∧ u27 = .int .i64 j ∧ Below w5.heap.size w5 wr ∧ wr.ownsRow w5.heap.size 9 1 u26 (T3.length + (igT cm.2 n l.length (sw.l.take j)).length) (T3.map Value.string ++ (igT cm.2 n l.length (sw.l.take j)).map Value.string)) (fun _ u27 _ => sw.l.length - (intOf u27).toNat)
      case atStart => exact ⟨0, Nat.zero_le _, rfl, HY21.out, by rw [HIG0.out]; simpa using HO21.out⟩
      case round =>
      obtain ⟨j, hj, rfl, hb, ho⟩ := hrel
      have HBr := Lib.hid hb
      have HOr := Lib.hid ho
      clear hb ho
      by_cases hjl : j < sw.l.length
      case neg =>
        obtain rfl : j = sw.l.length := by omega
        obtain ⟨A22, c22, rfl, -, -, hr22⟩ := Rd.of_own HOr.out
        rw [HIGA.out] at hr22
        have HR22 := Lib.hid hr22
        clear hr22
        go_wp2_with fail
        rw [HIGA.out]
        refine (HSHB2.out wr A22 c22 HR22.out).mono ?_
        rintro e w23 ⟨rfl, hb⟩
        go_wp2
        go_ret
        exact ⟨rfl, below_trans HB5.out (below_trans HBr.out hb)⟩
      case pos =>
      have hji : (j : Int) < (sw.l.length : Int) := by omega
      obtain ⟨q, hq⟩ := get_some sw.l j hjl
      have HQM := Lib.hid (List.mem_of_getElem? hq)
      have HQE := Lib.hid hq
      obtain ⟨bW, oW, hWA, -⟩ := kp_cells (HSW.out w5 HB5.out).row hq
      have HQC : Hid (∀ W, Below w5.heap.size w5 W → ∃ b off, sw.A = some ⟨b, off, none⟩ ∧ W.cell? ⟨b, off + j * 4, none⟩ = some (.int .i64 q.ix) ∧ W.cell? ⟨b, off + j * 4 + 1, none⟩ = some (.int .i64 q.s.1) ∧ W.cell? ⟨b, off + j * 4 + 2, none⟩ = some (.int .i64 q.s.2) ∧ W.cell? ⟨b, off + j * 4 + 3, none⟩ = some (.slice q.A q.p.length q.c)) := Lib.hid (fun W hW => kp_cells (HSW.out W (below_trans HB5.out hW)).row HQE.out)
      have HWA := Lib.hid hWA
      clear hq
      rw [hWA]
      clear hWA
      go_wp2_with fail
      refine wp_region_held_drew (S := fun W => Below w5.heap.size w5 W) (by kernel_rfl) (HBr.out.drew) (fun hS0 => ?_)
      refine wpAnyH_take (i := 0) (v := ?_) rfl (by kernel_rfl) (by kernel_rfl) (by kernel_rfl) (fun _ _ _ h => h) (Or.inl ⟨by kernel_rfl, ?hy⟩) hS0 ?rest
      case hy => (intro W hSw; clear hSw; go_simp; with_reducible rfl)
      case rest =>
      refine wpAnyH_take (i := 1) (v := ?_) rfl (by kernel_rfl) (by kernel_rfl) (by kernel_rfl) (fun _ _ _ h => h) (Or.inl ⟨by kernel_rfl, ?hy⟩) hS0 ?rest
      case hy => (intro W hSw; have a0 := (HN8.out W hSw).of_cell (i := 0) rfl; have al := (HN8.out W hSw).lt; clear hSw; go_simp; with_reducible rfl)
      case rest =>
      refine wpAnyH_take (i := 2) (v := ?_) rfl (by kernel_rfl) (by kernel_rfl) (by kernel_rfl) (fun _ _ _ h => h) (Or.inl ⟨by kernel_rfl, ?hy⟩) hS0 ?rest
      case hy => (intro W hSw; clear hSw; go_simp; with_reducible rfl)
      case rest =>
      refine wpAnyH_take (i := 3) (v := ?_) rfl (by kernel_rfl) (by kernel_rfl) (by kernel_rfl) (fun _ _ _ h => h) (Or.inl ⟨by kernel_rfl, ?hy⟩) hS0 ?rest
      case hy => (intro W hSw; clear hSw; go_simp; with_reducible rfl)
      case rest =>
      refine wpAnyH_take (i := 4) (v := ?_) rfl (by kernel_rfl) (by kernel_rfl) (by kernel_rfl) (fun _ _ _ h => h) (Or.inl ⟨by kernel_rfl, ?hy⟩) hS0 ?rest
      case hy => (intro W hSw; obtain ⟨c0, c1⟩ := HCM.out W hSw; have cl := lt_of_cell c0; clear hSw; go_simp; with_reducible rfl)
      case rest =>
      refine wpAnyH_take (i := 5) (v := ?_) rfl (by kernel_rfl) (by kernel_rfl) (by kernel_rfl) (fun _ _ _ h => h) (Or.inl ⟨by kernel_rfl, ?hy⟩) hS0 ?rest
      case hy => (intro W hSw; clear hSw; go_simp; with_reducible rfl)
      case rest =>
      try go_simp
      refine wpAnyH_take (i := 6) (v := ?_) rfl (by kernel_rfl) (by kernel_rfl) (by kernel_rfl) (fun _ _ _ h => h) (Or.inl ⟨by kernel_rfl, ?hy⟩) hS0 ?rest
      case hy => (intro W hSw; clear hSw; go_simp; with_reducible rfl)
      case rest =>
      refine wpAnyH_take (i := 7) (v := ?_) rfl (by kernel_rfl) (by kernel_rfl) (by kernel_rfl) (fun _ _ _ h => h) (Or.inl ⟨by kernel_rfl, ?hy⟩) hS0 ?rest
      case hy => (intro W hSw; clear hSw; go_simp; with_reducible rfl)
      case rest =>
      refine wpAnyH_take (i := 8) (v := ?_) rfl (by kernel_rfl) (by kernel_rfl) (by kernel_rfl) (fun _ _ _ h => h) (Or.inl ⟨by kernel_rfl, ?hy⟩) hS0 ?rest
      case hy => (intro W hSw; clear hSw; go_simp; with_reducible rfl)
      case rest =>
      refine wpAnyH_take (i := 9) (v := ?_) rfl (by kernel_rfl) (by kernel_rfl) (by kernel_rfl) (fun _ _ _ h => h) (Or.inl ⟨by kernel_rfl, ?hy⟩) hS0 ?rest
      case hy => (intro W hSw; clear hSw; go_simp; with_reducible rfl)
      case rest =>
      refine wpAnyH_take (i := 10) (v := ?_) rfl (by kernel_rfl) (by kernel_rfl) (by kernel_rfl) (fun _ _ _ h => h) (Or.inl ⟨by kernel_rfl, ?hy⟩) hS0 ?rest
      case hy => (intro W hSw; clear hSw; go_simp; with_reducible rfl)
      case rest =>
      refine wpAnyH_take (i := 11) (v := ?_) rfl (by kernel_rfl) (by kernel_rfl) (by kernel_rfl) (fun _ _ _ h => h) (Or.inl ⟨by kernel_rfl, ?hy⟩) hS0 ?rest
      case hy => (intro W hSw; obtain ⟨b_, f_, he_, c0, c1, c2, c3⟩ := HQC.out W hSw; rw [HWA.out] at he_; cases he_; have cl := lt_of_cell c0; clear hSw; go_simp; with_reducible rfl)
      case rest =>
      try go_simp
      refine wpAnyH_ready (rs := [12]) (by kernel_rfl) (by simp) ?_
      refine AllReadyH.cons rfl (fun K hK => ?_) (AllReadyH.nil)
      go_simp
      refine (HKT.out q HQM.out _ hS0).mono ?_
      rintro e w24 ⟨rfl, hb⟩
      have HX24 := Lib.hid (below_trans hS0 hb)
      have HO24 := Lib.hid (row_below (w := World.drew wr) HOr.out hb)
      clear hb
      go_simp
      refine hK.out _ _ HX24.out (fun hS1 => ?_)
      clear hK K
      refine wpAnyH_done (by kernel_rfl) ?_ _
      clear hS0 hS1
      obtain ⟨kb, hkb⟩ : ∃ b, ktB cm.2 n l.length q = b := ⟨_, rfl⟩
      rw [hkb]
      have hstep := HIGT.out j q HQE.out
      rw [hkb] at hstep
      have HSTP := Lib.hid hstep
      have HKB := Lib.hid hkb
      clear hkb hstep
      cases kb
      case false =>
        go_wp2
        go_roundw
        case rel => exact ⟨j + 1, by omega, by go_num, HX24.out, by rw [HSTP.out, if_neg (by decide), List.append_nil]; exact HO24.out⟩
        case measure => first | (simp [intOf]; done) | (simp [intOf]; omega)
      case true =>
        obtain ⟨b_, f_, he_, c0, c1, c2, c3⟩ := HQC.out w24 HX24.out
        rw [HWA.out] at he_
        cases he_
        have cl := lt_of_cell c0
        go_wp2_with fail
        clear c0 c1 c2 c3 cl
        refine (HKX.out q HQM.out HKB.out w24 HX24.out).mono ?_
        rintro e w25 ⟨v25, rfl, ho, hb⟩
        have HX25 := Lib.hid (below_trans HX24.out hb)
        have HO25 := Lib.hid (row_below HO24.out hb)
        obtain ⟨A25, c25, rfl, -, -, hr25⟩ := Rd.of_own ho
        have HR25 := Lib.hid hr25
        have hkl : (kkTx n l.length q.ix.toNat q.s q.p).length ≤ 78 := by
          have h1 := HIGL.out (j + 1)
          rw [HSTP.out, List.length_append, if_pos trivial] at h1
          omega
        have HKL := Lib.hid hkl
        clear ho hb hr25 hkl
        obtain ⟨T4, hT4⟩ : ∃ T, kkTx n l.length q.ix.toNat q.s q.p = T := ⟨_, rfl⟩
        rw [hT4] at HR25 HKL HSTP ⊢
        go_wp2_with (at_builtin; refine wpList_app _ rfl (.tmp 192) (.tmp 200) 30 30 rfl w5.heap.size 9 9 i0 _ 1 16 Tryz.underlying30 Tryz.underlying30 HI.out.1 HI.out.2.1 HI.out.2.2.1 HI.out.2.2.2 rfl (by omega) _ (T3.length + (igT cm.2 n l.length (sw.l.take j)).length) _ rfl HO25.out A25 T4.length c25 (T4.map Value.string) rfl HR25.out (by intro u hu; obtain ⟨t, _, rfl⟩ := List.mem_map.1 hu; rfl) (by have := HT3L2.out; have := HIGL.out j; have := HKL.out; simp only [maxLen]; omega) (by have := HT3L2.out; have := HIGL.out j; have := HKL.out; omega) HX25.out.size ?_)
        intro v26 w26 hown hg
        have HX26 : Hid (Below w5.heap.size w5 w26) := Lib.hid (HX25.out.grown hg HX25.out.size (fun i hi => (HO25.out.lt i hi).1))
        have HO26 : Hid (w26.ownsRow w5.heap.size 9 1 v26 (T3.length + (igT cm.2 n l.length (sw.l.take (j + 1))).length) (T3.map Value.string ++ (igT cm.2 n l.length (sw.l.take (j + 1))).map Value.string)) := Lib.hid (by
          rw [HSTP.out, if_pos trivial, List.length_append, List.map_append, ← Nat.add_assoc]
          exact hown)
        clear hown hg
        go_wp2
        go_roundw
        case rel => exact ⟨j + 1, by omega, by go_num, HX26.out, HO26.out⟩
        case measure => first | (simp [intOf]; done) | (simp [intOf]; omega)
    case pos =>
    have HOI : Hid (∀ W, Below w5.heap.size w5 W → Blk W w.heap.size 32 #[.int .i64 ii, .int .i64 o.v, .string o.salt, .slice o.A o.p.length o.c]) := Lib.hid (fun W hW => by have := HOC.out W hW; rw [hix] at this; exact this)
    obtain ⟨ck, hck⟩ : ∃ b, ckB cm.1 (n : Int) o.ix o.v o.salt o.p = b := ⟨_, rfl⟩
    have HCKI : Hid (∀ W, Below w5.heap.size w5 W → Calls Tryz.prog 27 #[.agg #[.string cm.1, .string cm.2], .int .i64 n, .agg #[.int .i64 ii, .int .i64 o.v, .string o.salt, .slice o.A o.p.length o.c]] W fun e w' => e = .returned (.bool ck) ∧ Below W.heap.size W w') := Lib.hid (fun W hW => by have := HCK.out W hW; rw [hck, hix] at this; exact this)
    have HCKE := Lib.hid hck
    have HIX := Lib.hid hix
    clear hck hix
    refine wp_region_held_drew (S := fun W => Below w5.heap.size w5 W) (by kernel_rfl) (HB513.out.drew) (fun hS0 => ?_)
    refine wpAnyH_take (i := 0) (v := ?_) rfl (by kernel_rfl) (by kernel_rfl) (by kernel_rfl) (fun _ _ _ h => h) (Or.inl ⟨by kernel_rfl, ?hy⟩) hS0 ?rest
    case hy => (intro W hSw; clear hSw; go_simp; with_reducible rfl)
    case rest =>
    refine wpAnyH_take (i := 1) (v := ?_) rfl (by kernel_rfl) (by kernel_rfl) (by kernel_rfl) (fun _ _ _ h => h) (Or.inl ⟨by kernel_rfl, ?hy⟩) hS0 ?rest
    case hy => (intro W hSw; have z0 := (HOI.out W hSw).of_cell (i := 0) rfl; have z1 := (HOI.out W hSw).of_cell (i := 1) rfl; have z2 := (HOI.out W hSw).of_cell (i := 2) rfl; have z3 := (HOI.out W hSw).of_cell (i := 3) rfl; have zl := (HOI.out W hSw).lt; clear hSw; go_simp; with_reducible rfl)
    case rest =>
    refine wpAnyH_take (i := 2) (v := ?_) rfl (by kernel_rfl) (by kernel_rfl) (by kernel_rfl) (fun _ _ _ h => h) (Or.inl ⟨by kernel_rfl, ?hy⟩) hS0 ?rest
    case hy => (intro W hSw; clear hSw; go_simp; with_reducible rfl)
    case rest =>
    refine wpAnyH_take (i := 3) (v := ?_) rfl (by kernel_rfl) (by kernel_rfl) (by kernel_rfl) (fun _ _ _ h => h) (Or.inl ⟨by kernel_rfl, ?hy⟩) hS0 ?rest
    case hy => (intro W hSw; clear hSw; go_simp; with_reducible rfl)
    case rest =>
    refine wpAnyH_take (i := 4) (v := ?_) rfl (by kernel_rfl) (by kernel_rfl) (by kernel_rfl) (fun _ _ _ h => h) (Or.inl ⟨by kernel_rfl, ?hy⟩) hS0 ?rest
    case hy => (intro W hSw; clear hSw; go_simp; with_reducible rfl)
    case rest =>
    refine wpAnyH_take (i := 5) (v := ?_) rfl (by kernel_rfl) (by kernel_rfl) (by kernel_rfl) (fun _ _ _ h => h) (Or.inl ⟨by kernel_rfl, ?hy⟩) hS0 ?rest
    case hy => (intro W hSw; clear hSw; go_simp; with_reducible rfl)
    case rest =>
    try go_simp
    refine wpAnyH_take (i := 6) (v := ?_) rfl (by kernel_rfl) (by kernel_rfl) (by kernel_rfl) (fun _ _ _ h => h) (Or.inl ⟨by kernel_rfl, ?hy⟩) hS0 ?rest
    case hy => (intro W hSw; have a0 := (HN8.out W hSw).of_cell (i := 0) rfl; have al := (HN8.out W hSw).lt; clear hSw; go_simp; with_reducible rfl)
    case rest =>
    refine wpAnyH_take (i := 7) (v := ?_) rfl (by kernel_rfl) (by kernel_rfl) (by kernel_rfl) (fun _ _ _ h => h) (Or.inl ⟨by kernel_rfl, ?hy⟩) hS0 ?rest
    case hy => (intro W hSw; clear hSw; go_simp; with_reducible rfl)
    case rest =>
    refine wpAnyH_take (i := 8) (v := ?_) rfl (by kernel_rfl) (by kernel_rfl) (by kernel_rfl) (fun _ _ _ h => h) (Or.inl ⟨by kernel_rfl, ?hy⟩) hS0 ?rest
    case hy => (intro W hSw; clear hSw; go_simp; with_reducible rfl)
    case rest =>
    refine wpAnyH_take (i := 9) (v := ?_) rfl (by kernel_rfl) (by kernel_rfl) (by kernel_rfl) (fun _ _ _ h => h) (Or.inl ⟨by kernel_rfl, ?hy⟩) hS0 ?rest
    case hy => (intro W hSw; obtain ⟨c0, c1⟩ := HCM.out W hSw; have cl := lt_of_cell c0; clear hSw; go_simp; with_reducible rfl)
    case rest =>
    refine wpAnyH_take (i := 10) (v := ?_) rfl (by kernel_rfl) (by kernel_rfl) (by kernel_rfl) (fun _ _ _ h => h) (Or.inl ⟨by kernel_rfl, ?hy⟩) hS0 ?rest
    case hy => (intro W hSw; clear hSw; go_simp; with_reducible rfl)
    case rest =>
    refine wpAnyH_take (i := 11) (v := ?_) rfl (by kernel_rfl) (by kernel_rfl) (by kernel_rfl) (fun _ _ _ h => h) (Or.inl ⟨by kernel_rfl, ?hy⟩) hS0 ?rest
    case hy => (intro W hSw; have z0 := (HOI.out W hSw).of_cell (i := 0) rfl; have z1 := (HOI.out W hSw).of_cell (i := 1) rfl; have z2 := (HOI.out W hSw).of_cell (i := 2) rfl; have z3 := (HOI.out W hSw).of_cell (i := 3) rfl; have zl := (HOI.out W hSw).lt; clear hSw; go_simp; with_reducible rfl)
    case rest =>
    try go_simp
    refine wpAnyH_ready (rs := [12]) (by kernel_rfl) (by simp) ?_
    refine AllReadyH.cons rfl (fun K hK => ?_) (AllReadyH.nil)
    go_simp
    refine (HCKI.out _ hS0).mono ?_
    rintro e w14 ⟨rfl, hb⟩
    have HX14 := Lib.hid (below_trans hS0 hb)
    clear hb
    go_simp
    refine hK.out _ _ HX14.out (fun hS1 => ?_)
    clear hK K
    refine wpAnyH_take (i := 13) (v := ?_) rfl (by kernel_rfl) (by kernel_rfl) (by kernel_rfl) (fun _ _ _ h => h) (Or.inl ⟨by kernel_rfl, ?hy⟩) hS1 ?rest
    case hy => (intro W hSw; clear hSw; go_simp; with_reducible rfl)
    case rest =>
    refine wpAnyH_done (by kernel_rfl) ?_ _
    clear hS0 hS1
    cases ck
    case false =>
      have hcb := HCB.out (fun h => by rw [HCKE.out] at h; exact absurd h.2 (by decide))
      have HCOL := Lib.hid hcb
      have HS0 := Lib.hid HX14.out
      clear hcb
      go_wp2_with fail
      have HSHB : Hid (∀ (W : World) (A : Option Addr) (c : Nat), Rd W 1 A ((khTx x.seeds nd l.length x.random).length + (igT cm.2 n l.length sw.l).length) ((khTx x.seeds nd l.length x.random).map Value.string ++ (igT cm.2 n l.length sw.l).map Value.string) → Calls Tryz.prog 30 #[.slice A ((khTx x.seeds nd l.length x.random).length + (igT cm.2 n l.length sw.l).length) c] W fun e w' => e = .returned (.bool true) ∧ Below W.heap.size W w') := Lib.hid (fun W A c hR => by
        have := rshown30_any A c _ W (Strs_two hR rfl) (by rw [List.length_append]; have := HT3L.out; have := HIGL.out sw.l.length; rw [HIGA.out] at this; omega) (fun s hs => (List.mem_append.1 hs).elim (HSMB.out.1 s) (HSMB.out.2 s)) HCOL.out
        rw [List.length_append] at this
        exact this)
      have HSHT2 := HSHT
      have HT3L2 := HT3L
      have HSHB2 := HSHB
      clear HCOL HSMB HSHT HT3L HSHB HCA HCB
      generalize khTx x.seeds nd l.length x.random = T3 at *
      obtain ⟨i0, hi0, hz0, hz1, hz2⟩ := info_parts info_strg
      have HI := Lib.hid (And.intro hi0 (And.intro hz0 (And.intro hz1 hz2)))
      clear hi0 hz0 hz1 hz2
      refine wp_region_held_drew (S := fun W => Below w5.heap.size w5 W) (by kernel_rfl) (HS0.out.drew) (fun hS0 => ?_)
      refine wpAnyH_take (i := 0) (v := ?_) rfl (by kernel_rfl) (by kernel_rfl) (by kernel_rfl) (fun _ _ _ h => h) (Or.inl ⟨by kernel_rfl, ?hy⟩) hS0 ?rest
      case hy => (intro W hSw; clear hSw; go_simp; with_reducible rfl)
      case rest =>
      refine wpAnyH_take (i := 1) (v := ?_) rfl (by kernel_rfl) (by kernel_rfl) (by kernel_rfl) (fun _ _ _ h => h) (Or.inl ⟨by kernel_rfl, ?hy⟩) hS0 ?rest
      case hy => (intro W hSw; clear hSw; go_simp; with_reducible rfl)
      case rest =>
      refine wpAnyH_take (i := 2) (v := ?_) rfl (by kernel_rfl) (by kernel_rfl) (by kernel_rfl) (fun _ _ _ h => h) (Or.inl ⟨by kernel_rfl, ?hy⟩) hS0 ?rest
      case hy => (intro W hSw; clear hSw; go_simp; with_reducible rfl)
      case rest =>
      refine wpAnyH_take (i := 3) (v := ?_) rfl (by kernel_rfl) (by kernel_rfl) (by kernel_rfl) (fun _ _ _ h => h) (Or.inl ⟨by kernel_rfl, ?hy⟩) hS0 ?rest
      case hy => (intro W hSw; clear hSw; go_simp; with_reducible rfl)
      case rest =>
      refine wpAnyH_take (i := 4) (v := ?_) rfl (by kernel_rfl) (by kernel_rfl) (by kernel_rfl) (fun _ _ _ h => h) (Or.inl ⟨by kernel_rfl, ?hy⟩) hS0 ?rest
      case hy => (intro W hSw; obtain ⟨c0, c1, c2⟩ := HKR.out W hSw; have cl := lt_of_cell c0; clear hSw; go_simp; with_reducible rfl)
      case rest =>
      refine wpAnyH_take (i := 5) (v := ?_) rfl (by kernel_rfl) (by kernel_rfl) (by kernel_rfl) (fun _ _ _ h => h) (Or.inl ⟨by kernel_rfl, ?hy⟩) hS0 ?rest
      case hy => (intro W hSw; clear hSw; go_simp; with_reducible rfl)
      case rest =>
      try go_simp
      refine wpAnyH_take (i := 6) (v := ?_) rfl (by kernel_rfl) (by kernel_rfl) (by kernel_rfl) (fun _ _ _ h => h) (Or.inl ⟨by kernel_rfl, ?hy⟩) hS0 ?rest
      case hy => (intro W hSw; clear hSw; go_simp; with_reducible rfl)
      case rest =>
      refine wpAnyH_take (i := 7) (v := ?_) rfl (by kernel_rfl) (by kernel_rfl) (by kernel_rfl) (fun _ _ _ h => h) (Or.inl ⟨by kernel_rfl, ?hy⟩) hS0 ?rest
      case hy => (intro W hSw; clear hSw; go_simp; with_reducible rfl)
      case rest =>
      refine wpAnyH_take (i := 8) (v := ?_) rfl (by kernel_rfl) (by kernel_rfl) (by kernel_rfl) (fun _ _ _ h => h) (Or.inl ⟨by kernel_rfl, ?hy⟩) hS0 ?rest
      case hy => (intro W hSw; clear hSw; go_simp; with_reducible rfl)
      case rest =>
      refine wpAnyH_take (i := 9) (v := ?_) rfl (by kernel_rfl) (by kernel_rfl) (by kernel_rfl) (fun _ _ _ h => h) (Or.inl ⟨by kernel_rfl, ?hy⟩) hS0 ?rest
      case hy => (intro W hSw; clear hSw; go_simp; with_reducible rfl)
      case rest =>
      refine wpAnyH_take (i := 10) (v := ?_) rfl (by kernel_rfl) (by kernel_rfl) (by kernel_rfl) (fun _ _ _ h => h) (Or.inl ⟨by kernel_rfl, ?hy⟩) hS0 ?rest
      case hy => (intro W hSw; clear hSw; go_simp; with_reducible rfl)
      case rest =>
      refine wpAnyH_take (i := 11) (v := ?_) rfl (by kernel_rfl) (by kernel_rfl) (by kernel_rfl) (fun _ _ _ h => h) (Or.inl ⟨by kernel_rfl, ?hy⟩) hS0 ?rest
      case hy => (intro W hSw; clear hSw; go_simp; with_reducible rfl)
      case rest =>
      try go_simp
      refine wpAnyH_take (i := 12) (v := ?_) rfl (by kernel_rfl) (by kernel_rfl) (by kernel_rfl) (fun _ _ _ h => h) (Or.inl ⟨by kernel_rfl, ?hy⟩) hS0 ?rest
      case hy => (intro W hSw; obtain ⟨c0, c1, c2⟩ := HKR.out W hSw; have cl := lt_of_cell c0; clear hSw; go_simp; with_reducible rfl)
      case rest =>
      refine wpAnyH_ready (rs := [13]) (by kernel_rfl) (by simp) ?_
      refine AllReadyH.cons rfl (fun K hK => ?_) (AllReadyH.nil)
      go_simp
      refine (HSHT2.out _ hS0).mono ?_
      rintro e w21 ⟨v21, rfl, ho, hb⟩
      have HY21 := Lib.hid (below_trans hS0 hb)
      have HO21 : Hid (w21.ownsRow w5.heap.size 9 1 v21 T3.length (T3.map Value.string)) := Lib.hid (row_mono ho hS0.size)
      clear ho hb
      go_simp
      refine hK.out _ _ HY21.out (fun hS1 => ?_)
      clear hK K
      refine wpAnyH_take (i := 14) (v := ?_) rfl (by kernel_rfl) (by kernel_rfl) (by kernel_rfl) (fun _ _ _ h => h) (Or.inl ⟨by kernel_rfl, ?hy⟩) hS1 ?rest
      case hy => (intro W hSw; clear hSw; go_simp; with_reducible rfl)
      case rest =>
      refine wpAnyH_done (by kernel_rfl) ?_ _
      clear hS0 hS1
      go_wp2_with fail
      go_loopw [26, 27] (fun u26 u27 wr => ∃ j : Nat, j ≤ sw.l.length ∧ u27 = .int .i64 j ∧ Below w5.heap.size w5 wr ∧ wr.ownsRow w5.heap.size 9 1 u26 (T3.length + (igT cm.2 n l.length (sw.l.take j)).length) (T3.map Value.string ++ (igT cm.2 n l.length (sw.l.take j)).map Value.string)) (fun _ u27 _ => sw.l.length - (intOf u27).toNat)
      case atStart => exact ⟨0, Nat.zero_le _, rfl, HY21.out, by rw [HIG0.out]; simpa using HO21.out⟩
      case round =>
      obtain ⟨j, hj, rfl, hb, ho⟩ := hrel
      have HBr := Lib.hid hb
      have HOr := Lib.hid ho
      clear hb ho
      by_cases hjl : j < sw.l.length
      case neg =>
        obtain rfl : j = sw.l.length := by omega
        obtain ⟨A22, c22, rfl, -, -, hr22⟩ := Rd.of_own HOr.out
        rw [HIGA.out] at hr22
        have HR22 := Lib.hid hr22
        clear hr22
        go_wp2_with fail
        rw [HIGA.out]
        refine (HSHB2.out wr A22 c22 HR22.out).mono ?_
        rintro e w23 ⟨rfl, hb⟩
        go_wp2
        go_ret
        exact ⟨rfl, below_trans HB5.out (below_trans HBr.out hb)⟩
      case pos =>
      have hji : (j : Int) < (sw.l.length : Int) := by omega
      obtain ⟨q, hq⟩ := get_some sw.l j hjl
      have HQM := Lib.hid (List.mem_of_getElem? hq)
      have HQE := Lib.hid hq
      obtain ⟨bW, oW, hWA, -⟩ := kp_cells (HSW.out w5 HB5.out).row hq
      have HQC : Hid (∀ W, Below w5.heap.size w5 W → ∃ b off, sw.A = some ⟨b, off, none⟩ ∧ W.cell? ⟨b, off + j * 4, none⟩ = some (.int .i64 q.ix) ∧ W.cell? ⟨b, off + j * 4 + 1, none⟩ = some (.int .i64 q.s.1) ∧ W.cell? ⟨b, off + j * 4 + 2, none⟩ = some (.int .i64 q.s.2) ∧ W.cell? ⟨b, off + j * 4 + 3, none⟩ = some (.slice q.A q.p.length q.c)) := Lib.hid (fun W hW => kp_cells (HSW.out W (below_trans HB5.out hW)).row HQE.out)
      have HWA := Lib.hid hWA
      clear hq
      rw [hWA]
      clear hWA
      go_wp2_with fail
      refine wp_region_held_drew (S := fun W => Below w5.heap.size w5 W) (by kernel_rfl) (HBr.out.drew) (fun hS0 => ?_)
      refine wpAnyH_take (i := 0) (v := ?_) rfl (by kernel_rfl) (by kernel_rfl) (by kernel_rfl) (fun _ _ _ h => h) (Or.inl ⟨by kernel_rfl, ?hy⟩) hS0 ?rest
      case hy => (intro W hSw; clear hSw; go_simp; with_reducible rfl)
      case rest =>
      refine wpAnyH_take (i := 1) (v := ?_) rfl (by kernel_rfl) (by kernel_rfl) (by kernel_rfl) (fun _ _ _ h => h) (Or.inl ⟨by kernel_rfl, ?hy⟩) hS0 ?rest
      case hy => (intro W hSw; have a0 := (HN8.out W hSw).of_cell (i := 0) rfl; have al := (HN8.out W hSw).lt; clear hSw; go_simp; with_reducible rfl)
      case rest =>
      refine wpAnyH_take (i := 2) (v := ?_) rfl (by kernel_rfl) (by kernel_rfl) (by kernel_rfl) (fun _ _ _ h => h) (Or.inl ⟨by kernel_rfl, ?hy⟩) hS0 ?rest
      case hy => (intro W hSw; clear hSw; go_simp; with_reducible rfl)
      case rest =>
      refine wpAnyH_take (i := 3) (v := ?_) rfl (by kernel_rfl) (by kernel_rfl) (by kernel_rfl) (fun _ _ _ h => h) (Or.inl ⟨by kernel_rfl, ?hy⟩) hS0 ?rest
      case hy => (intro W hSw; clear hSw; go_simp; with_reducible rfl)
      case rest =>
      refine wpAnyH_take (i := 4) (v := ?_) rfl (by kernel_rfl) (by kernel_rfl) (by kernel_rfl) (fun _ _ _ h => h) (Or.inl ⟨by kernel_rfl, ?hy⟩) hS0 ?rest
      case hy => (intro W hSw; obtain ⟨c0, c1⟩ := HCM.out W hSw; have cl := lt_of_cell c0; clear hSw; go_simp; with_reducible rfl)
      case rest =>
      refine wpAnyH_take (i := 5) (v := ?_) rfl (by kernel_rfl) (by kernel_rfl) (by kernel_rfl) (fun _ _ _ h => h) (Or.inl ⟨by kernel_rfl, ?hy⟩) hS0 ?rest
      case hy => (intro W hSw; clear hSw; go_simp; with_reducible rfl)
      case rest =>
      try go_simp
      refine wpAnyH_take (i := 6) (v := ?_) rfl (by kernel_rfl) (by kernel_rfl) (by kernel_rfl) (fun _ _ _ h => h) (Or.inl ⟨by kernel_rfl, ?hy⟩) hS0 ?rest
      case hy => (intro W hSw; clear hSw; go_simp; with_reducible rfl)
      case rest =>
      refine wpAnyH_take (i := 7) (v := ?_) rfl (by kernel_rfl) (by kernel_rfl) (by kernel_rfl) (fun _ _ _ h => h) (Or.inl ⟨by kernel_rfl, ?hy⟩) hS0 ?rest
      case hy => (intro W hSw; clear hSw; go_simp; with_reducible rfl)
      case rest =>
      refine wpAnyH_take (i := 8) (v := ?_) rfl (by kernel_rfl) (by kernel_rfl) (by kernel_rfl) (fun _ _ _ h => h) (Or.inl ⟨by kernel_rfl, ?hy⟩) hS0 ?rest
      case hy => (intro W hSw; clear hSw; go_simp; with_reducible rfl)
      case rest =>
      refine wpAnyH_take (i := 9) (v := ?_) rfl (by kernel_rfl) (by kernel_rfl) (by kernel_rfl) (fun _ _ _ h => h) (Or.inl ⟨by kernel_rfl, ?hy⟩) hS0 ?rest
      case hy => (intro W hSw; clear hSw; go_simp; with_reducible rfl)
      case rest =>
      refine wpAnyH_take (i := 10) (v := ?_) rfl (by kernel_rfl) (by kernel_rfl) (by kernel_rfl) (fun _ _ _ h => h) (Or.inl ⟨by kernel_rfl, ?hy⟩) hS0 ?rest
      case hy => (intro W hSw; clear hSw; go_simp; with_reducible rfl)
      case rest =>
      refine wpAnyH_take (i := 11) (v := ?_) rfl (by kernel_rfl) (by kernel_rfl) (by kernel_rfl) (fun _ _ _ h => h) (Or.inl ⟨by kernel_rfl, ?hy⟩) hS0 ?rest
      case hy => (intro W hSw; obtain ⟨b_, f_, he_, c0, c1, c2, c3⟩ := HQC.out W hSw; rw [HWA.out] at he_; cases he_; have cl := lt_of_cell c0; clear hSw; go_simp; with_reducible rfl)
      case rest =>
      try go_simp
      refine wpAnyH_ready (rs := [12]) (by kernel_rfl) (by simp) ?_
      refine AllReadyH.cons rfl (fun K hK => ?_) (AllReadyH.nil)
      go_simp
      refine (HKT.out q HQM.out _ hS0).mono ?_
      rintro e w24 ⟨rfl, hb⟩
      have HX24 := Lib.hid (below_trans hS0 hb)
      have HO24 := Lib.hid (row_below (w := World.drew wr) HOr.out hb)
      clear hb
      go_simp
      refine hK.out _ _ HX24.out (fun hS1 => ?_)
      clear hK K
      refine wpAnyH_done (by kernel_rfl) ?_ _
      clear hS0 hS1
      obtain ⟨kb, hkb⟩ : ∃ b, ktB cm.2 n l.length q = b := ⟨_, rfl⟩
      rw [hkb]
      have hstep := HIGT.out j q HQE.out
      rw [hkb] at hstep
      have HSTP := Lib.hid hstep
      have HKB := Lib.hid hkb
      clear hkb hstep
      cases kb
      case false =>
        go_wp2
        go_roundw
        case rel => exact ⟨j + 1, by omega, by go_num, HX24.out, by rw [HSTP.out, if_neg (by decide), List.append_nil]; exact HO24.out⟩
        case measure => first | (simp [intOf]; done) | (simp [intOf]; omega)
      case true =>
        obtain ⟨b_, f_, he_, c0, c1, c2, c3⟩ := HQC.out w24 HX24.out
        rw [HWA.out] at he_
        cases he_
        have cl := lt_of_cell c0
        go_wp2_with fail
        clear c0 c1 c2 c3 cl
        refine (HKX.out q HQM.out HKB.out w24 HX24.out).mono ?_
        rintro e w25 ⟨v25, rfl, ho, hb⟩
        have HX25 := Lib.hid (below_trans HX24.out hb)
        have HO25 := Lib.hid (row_below HO24.out hb)
        obtain ⟨A25, c25, rfl, -, -, hr25⟩ := Rd.of_own ho
        have HR25 := Lib.hid hr25
        have hkl : (kkTx n l.length q.ix.toNat q.s q.p).length ≤ 78 := by
          have h1 := HIGL.out (j + 1)
          rw [HSTP.out, List.length_append, if_pos trivial] at h1
          omega
        have HKL := Lib.hid hkl
        clear ho hb hr25 hkl
        obtain ⟨T4, hT4⟩ : ∃ T, kkTx n l.length q.ix.toNat q.s q.p = T := ⟨_, rfl⟩
        rw [hT4] at HR25 HKL HSTP ⊢
        go_wp2_with (at_builtin; refine wpList_app _ rfl (.tmp 192) (.tmp 200) 30 30 rfl w5.heap.size 9 9 i0 _ 1 16 Tryz.underlying30 Tryz.underlying30 HI.out.1 HI.out.2.1 HI.out.2.2.1 HI.out.2.2.2 rfl (by omega) _ (T3.length + (igT cm.2 n l.length (sw.l.take j)).length) _ rfl HO25.out A25 T4.length c25 (T4.map Value.string) rfl HR25.out (by intro u hu; obtain ⟨t, _, rfl⟩ := List.mem_map.1 hu; rfl) (by have := HT3L2.out; have := HIGL.out j; have := HKL.out; simp only [maxLen]; omega) (by have := HT3L2.out; have := HIGL.out j; have := HKL.out; omega) HX25.out.size ?_)
        intro v26 w26 hown hg
        have HX26 : Hid (Below w5.heap.size w5 w26) := Lib.hid (HX25.out.grown hg HX25.out.size (fun i hi => (HO25.out.lt i hi).1))
        have HO26 : Hid (w26.ownsRow w5.heap.size 9 1 v26 (T3.length + (igT cm.2 n l.length (sw.l.take (j + 1))).length) (T3.map Value.string ++ (igT cm.2 n l.length (sw.l.take (j + 1))).map Value.string)) := Lib.hid (by
          rw [HSTP.out, if_pos trivial, List.length_append, List.map_append, ← Nat.add_assoc]
          exact hown)
        clear hown hg
        go_wp2
        go_roundw
        case rel => exact ⟨j + 1, by omega, by go_num, HX26.out, HO26.out⟩
        case measure => first | (simp [intOf]; done) | (simp [intOf]; omega)
    case true =>
      have hca := HCA.out ⟨HIX.out, HCKE.out⟩
      rw [HIX.out, Int.toNat_natCast] at hca
      obtain ⟨hin, hv0, hv1, hpl, hpD, hcol⟩ := hca
      obtain ⟨hsd, hsl6⟩ : sdV x.seeds = true ∧ x.seeds.length ≤ 600 := ⟨HDV.out.sd, HDV.out.few⟩
      have hofit := sh_fit HSH.out.1 (HOG.out w13 (below_trans HB5.out HB513.out))
      have hs60 : x.salt.size ≤ 200 := by
        have h1 := (HF.out.each x (List.mem_of_getElem? HX.out.1)).2.1
        have h2 := okK_dv HOKX.out
        unfold dvB sdOk at h2
        simp only [Bool.and_eq_true, decide_eq_true_eq] at h2
        omega
      have HT1S : Hid (∀ s ∈ ksTx x.seeds x.salt, s.size ≤ 1000000000) := Lib.hid (ksTx_small hsd hsl6 (by omega))
      have HT1L : Hid ((ksTx x.seeds x.salt).length ≤ 3000) := Lib.hid (ksTx_len _ _ hsl6)
      have HT2S : Hid (∀ s ∈ koTx n ii o.v.toNat o.salt o.p, s.size ≤ 1000000000) := Lib.hid (koTx_small (by have := HN6.out; omega) (by omega) (by have := hofit.2.2.1; omega) hpD)
      have HT2L : Hid ((koTx n ii o.v.toNat o.salt o.p).length ≤ 14) := Lib.hid (by rw [koTx_len, ← hpl]; have := hofit.2.1; omega)
      have HST : Hid (∀ W, Below w5.heap.size w5 W → Calls Tryz.prog 31 #[.slice x.SA n x.sc, .string x.salt] W fun e w' => ∃ v, e = .returned v ∧ w'.ownsRow W.heap.size 9 1 v (ksTx x.seeds x.salt).length ((ksTx x.seeds x.salt).map Value.string) ∧ Below W.heap.size W w') := Lib.hid (fun W hW => by
        have hk := HIN.out x (List.mem_of_getElem? HX.out.1) W (below_trans HB5.out hW)
        have := rstexts_any x.SA x.sc x.seeds x.salt W hk.s hsd hsl6 hs60
        rw [HXL.out] at this
        exact this)
      have HOT : Hid (∀ W, Below w5.heap.size w5 W → Calls Tryz.prog 32 #[.int .i64 n, .agg #[.int .i64 ii, .int .i64 o.v, .string o.salt, .slice o.A o.p.length o.c]] W fun e w' => ∃ v, e = .returned v ∧ w'.ownsRow W.heap.size 9 1 v (koTx n ii o.v.toNat o.salt o.p).length ((koTx n ii o.v.toNat o.salt o.p).map Value.string) ∧ Below W.heap.size W w') := Lib.hid (fun W hW => by
        have hO := HOG.out W (below_trans HB5.out hW)
        have := rotexts_any n ii o.v.toNat o.salt o.A o.c o.p W (by have := HN6.out; omega) hin (by omega) (by have := hofit.2.2.1; omega) hO.p hpl hO.cap hofit.2.2.2
        rw [show ((o.v.toNat : Nat) : Int) = o.v from Int.toNat_of_nonneg hv0] at this
        exact this)
      have HSH2 : Hid (∀ (W : World) (A : Option Addr) (c : Nat), Rd W 1 A ((ksTx x.seeds x.salt).length + (koTx n ii o.v.toNat o.salt o.p).length) ((ksTx x.seeds x.salt).map Value.string ++ (koTx n ii o.v.toNat o.salt o.p).map Value.string) → Calls Tryz.prog 30 #[.slice A ((ksTx x.seeds x.salt).length + (koTx n ii o.v.toNat o.salt o.p).length) c] W fun e w' => e = .returned (.bool true) ∧ Below W.heap.size W w') := Lib.hid (fun W A c hR => by
        have := rshown30_any A c _ W (Strs_two hR rfl) (by rw [List.length_append]; have := HT1L.out; have := HT2L.out; omega) (fun s hs => (List.mem_append.1 hs).elim (HT1S.out s) (HT2S.out s)) hcol
        rw [List.length_append] at this
        exact this)
      clear hin hv0 hv1 hpl hpD hcol hsd hsl6 hofit hs60 HT1S HT2S
      generalize ksTx x.seeds x.salt = T1 at *
      generalize koTx n ii o.v.toNat o.salt o.p = T2 at *
      obtain ⟨i0, hi0, hz0, hz1, hz2⟩ := info_parts info_strg
      have HI := Lib.hid (And.intro hi0 (And.intro hz0 (And.intro hz1 hz2)))
      clear hi0 hz0 hz1 hz2
      go_wp2_with fail
      refine wp_region_held_drew (S := fun W => Below w5.heap.size w5 W) (by kernel_rfl) (HX14.out.drew) (fun hS0 => ?_)
      refine wpAnyH_take (i := 0) (v := ?_) rfl (by kernel_rfl) (by kernel_rfl) (by kernel_rfl) (fun _ _ _ h => h) (Or.inl ⟨by kernel_rfl, ?hy⟩) hS0 ?rest
      case hy => (intro W hSw; clear hSw; go_simp; with_reducible rfl)
      case rest =>
      refine wpAnyH_take (i := 1) (v := ?_) rfl (by kernel_rfl) (by kernel_rfl) (by kernel_rfl) (fun _ _ _ h => h) (Or.inl ⟨by kernel_rfl, ?hy⟩) hS0 ?rest
      case hy => (intro W hSw; clear hSw; go_simp; with_reducible rfl)
      case rest =>
      refine wpAnyH_take (i := 2) (v := ?_) rfl (by kernel_rfl) (by kernel_rfl) (by kernel_rfl) (fun _ _ _ h => h) (Or.inl ⟨by kernel_rfl, ?hy⟩) hS0 ?rest
      case hy => (intro W hSw; clear hSw; go_simp; with_reducible rfl)
      case rest =>
      refine wpAnyH_take (i := 3) (v := ?_) rfl (by kernel_rfl) (by kernel_rfl) (by kernel_rfl) (fun _ _ _ h => h) (Or.inl ⟨by kernel_rfl, ?hy⟩) hS0 ?rest
      case hy => (intro W hSw; clear hSw; go_simp; with_reducible rfl)
      case rest =>
      refine wpAnyH_take (i := 4) (v := ?_) rfl (by kernel_rfl) (by kernel_rfl) (by kernel_rfl) (fun _ _ _ h => h) (Or.inl ⟨by kernel_rfl, ?hy⟩) hS0 ?rest
      case hy => (intro W hSw; clear hSw; go_simp; with_reducible rfl)
      case rest =>
      refine wpAnyH_take (i := 5) (v := ?_) rfl (by kernel_rfl) (by kernel_rfl) (by kernel_rfl) (fun _ _ _ h => h) (Or.inl ⟨by kernel_rfl, ?hy⟩) hS0 ?rest
      case hy => (intro W hSw; clear hSw; go_simp; with_reducible rfl)
      case rest =>
      try go_simp
      refine wpAnyH_take (i := 6) (v := ?_) rfl (by kernel_rfl) (by kernel_rfl) (by kernel_rfl) (fun _ _ _ h => h) (Or.inl ⟨by kernel_rfl, ?hy⟩) hS0 ?rest
      case hy => (intro W hSw; obtain ⟨c0, c1, c2⟩ := HKR.out W hSw; have cl := lt_of_cell c0; clear hSw; go_simp; with_reducible rfl)
      case rest =>
      refine wpAnyH_take (i := 7) (v := ?_) rfl (by kernel_rfl) (by kernel_rfl) (by kernel_rfl) (fun _ _ _ h => h) (Or.inl ⟨by kernel_rfl, ?hy⟩) hS0 ?rest
      case hy => (intro W hSw; clear hSw; go_simp; with_reducible rfl)
      case rest =>
      refine wpAnyH_take (i := 8) (v := ?_) rfl (by kernel_rfl) (by kernel_rfl) (by kernel_rfl) (fun _ _ _ h => h) (Or.inl ⟨by kernel_rfl, ?hy⟩) hS0 ?rest
      case hy => (intro W hSw; clear hSw; go_simp; with_reducible rfl)
      case rest =>
      refine wpAnyH_take (i := 9) (v := ?_) rfl (by kernel_rfl) (by kernel_rfl) (by kernel_rfl) (fun _ _ _ h => h) (Or.inl ⟨by kernel_rfl, ?hy⟩) hS0 ?rest
      case hy => (intro W hSw; clear hSw; go_simp; with_reducible rfl)
      case rest =>
      refine wpAnyH_take (i := 10) (v := ?_) rfl (by kernel_rfl) (by kernel_rfl) (by kernel_rfl) (fun _ _ _ h => h) (Or.inl ⟨by kernel_rfl, ?hy⟩) hS0 ?rest
      case hy => (intro W hSw; clear hSw; go_simp; with_reducible rfl)
      case rest =>
      refine wpAnyH_take (i := 11) (v := ?_) rfl (by kernel_rfl) (by kernel_rfl) (by kernel_rfl) (fun _ _ _ h => h) (Or.inl ⟨by kernel_rfl, ?hy⟩) hS0 ?rest
      case hy => (intro W hSw; obtain ⟨c0, c1, c2⟩ := HKR.out W hSw; have cl := lt_of_cell c0; clear hSw; go_simp; with_reducible rfl)
      case rest =>
      try go_simp
      refine wpAnyH_take (i := 13) (v := ?_) rfl (by kernel_rfl) (by kernel_rfl) (by kernel_rfl) (fun _ _ _ h => h) (Or.inl ⟨by kernel_rfl, ?hy⟩) hS0 ?rest
      case hy => (intro W hSw; clear hSw; go_simp; with_reducible rfl)
      case rest =>
      refine wpAnyH_take (i := 14) (v := ?_) rfl (by kernel_rfl) (by kernel_rfl) (by kernel_rfl) (fun _ _ _ h => h) (Or.inl ⟨by kernel_rfl, ?hy⟩) hS0 ?rest
      case hy => (intro W hSw; have z0 := (HOI.out W hSw).of_cell (i := 0) rfl; have z1 := (HOI.out W hSw).of_cell (i := 1) rfl; have z2 := (HOI.out W hSw).of_cell (i := 2) rfl; have z3 := (HOI.out W hSw).of_cell (i := 3) rfl; have zl := (HOI.out W hSw).lt; clear hSw; go_simp; with_reducible rfl)
      case rest =>
      refine wpAnyH_ready (rs := [12]) (by kernel_rfl) (by simp) ?_
      refine AllReadyH.cons rfl (fun K hK => ?_) (AllReadyH.nil)
      go_simp
      refine (HST.out _ hS0).mono ?_
      rintro e w15 ⟨v15, rfl, ho, hb⟩
      have HY15 := Lib.hid (below_trans hS0 hb)
      have HO15 : Hid (w15.ownsRow w5.heap.size 9 1 v15 T1.length (T1.map Value.string)) := Lib.hid (row_mono ho hS0.size)
      clear ho hb
      go_simp
      refine hK.out _ _ HY15.out (fun hS1 => ?_)
      clear hK K
      refine wpAnyH_ready (rs := [15]) (by kernel_rfl) (by simp) ?_
      refine AllReadyH.cons rfl (fun K hK => ?_) (AllReadyH.nil)
      go_simp
      refine (HOT.out _ hS1).mono ?_
      rintro e w16 ⟨v16, rfl, ho, hb⟩
      have HY16 := Lib.hid (below_trans hS1 hb)
      have HO16 := Lib.hid (row_below HO15.out hb)
      obtain ⟨A16, c16, rfl, -, -, hr16⟩ := Rd.of_own ho
      have HR16 := Lib.hid hr16
      clear ho hb hr16
      go_simp
      refine hK.out _ _ HY16.out (fun hS2 => ?_)
      clear hK K
      refine wpAnyH_ready (rs := [16]) (by kernel_rfl) (by simp) ?_
      refine AllReadyH.cons rfl (fun K hK => ?_) (AllReadyH.nil)
      refine step_appT w16 (by kernel_rfl) (.tmp 152) (.tmp 155) 30 30 rfl w5.heap.size 9 9 i0 _ 1 16 Tryz.underlying30 Tryz.underlying30 HI.out.1 HI.out.2.1 HI.out.2.2.1 HI.out.2.2.2 rfl (by omega) v15 T1.length _ (by kernel_rfl) HO16.out A16 T2.length c16 (T2.map Value.string) (by kernel_rfl) HR16.out (by intro u hu; obtain ⟨t, _, rfl⟩ := List.mem_map.1 hu; rfl) (by have := HT1L.out; have := HT2L.out; simp only [maxLen]; omega) (by have := HT1L.out; have := HT2L.out; omega) HY16.out.size ?_
      intro v17 w17 hown hg
      have HY17 : Hid (Below w5.heap.size w5 w17) := Lib.hid (HY16.out.grown hg HY16.out.size (fun j hj => (HO16.out.lt j hj).1))
      obtain ⟨A17, c17, rfl, -, -, hr17⟩ := Rd.of_own hown
      have HR17 := Lib.hid hr17
      clear hown hg hr17
      refine hK.out _ _ HY17.out (fun hS3 => ?_)
      clear hK K
      refine wpAnyH_ready (rs := [17]) (by kernel_rfl) (by simp) ?_
      refine AllReadyH.cons rfl (fun K hK => ?_) (AllReadyH.nil)
      go_simp
      refine (HSH2.out w17 A17 c17 HR17.out).mono ?_
      rintro e w18 ⟨rfl, hb⟩
      have HY18 := Lib.hid (below_trans HY17.out hb)
      clear hb
      go_simp
      refine hK.out _ _ HY18.out (fun hS4 => ?_)
      clear hK K
      refine wpAnyH_take (i := 18) (v := ?_) rfl (by kernel_rfl) (by kernel_rfl) (by kernel_rfl) (fun _ _ _ h => h) (Or.inl ⟨by kernel_rfl, ?hy⟩) hS4 ?rest
      case hy => (intro W hSw; clear hSw; go_simp; with_reducible rfl)
      case rest =>
      refine wpAnyH_take (i := 19) (v := ?_) rfl (by kernel_rfl) (by kernel_rfl) (by kernel_rfl) (fun _ _ _ h => h) (Or.inl ⟨by kernel_rfl, ?hy⟩) hS4 ?rest
      case hy => (intro W hSw; clear hSw; go_simp; with_reducible rfl)
      case rest =>
      refine wpAnyH_done (by kernel_rfl) ?_ _
      go_wp2
      go_ret
      exact ⟨rfl, below_trans HB5.out HY18.out⟩
end

end Go.Proofs.YtjfondfjdhjooaaGreatDoor
