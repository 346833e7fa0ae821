/- Chapter 30, plain: a keeper that gives any opening, any shares in front of its own. Chapter 30: the law KeeperBinds. Chapter 30, plain: what the law KeeperIgnores says of the second draw. -/
import Derived.Test.YtjfondfjdhjooaaGreatDoorCbK
namespace Go.Proofs.YtjfondfjdhjooaaGreatDoor
set_option linter.unusedVariables false
set_option linter.unusedSimpArgs false

section
open Go.RowKit

theorem nodup_sub_len {α : Type} [BEq α] [LawfulBEq α] (l : List α) : ∀ (m : List α), l.Nodup → (∀ x, x ∈ l → x ∈ m) → l.length ≤ m.length := by
  induction l with
  | nil => intro m _ _; exact Nat.zero_le _
  | cons a l ih =>
    intro m hn hs
    rw [List.nodup_cons] at hn
    have ha := hs a List.mem_cons_self
    have := ih (m.erase a) hn.2 (fun x hx => by
      have hne : x ≠ a := fun e => hn.1 (e ▸ hx)
      exact (List.mem_erase_of_ne hne).2 (hs x (List.mem_cons_of_mem _ hx)))
    rw [List.length_erase_of_mem ha] at this
    have hpos := List.length_pos_of_mem ha
    rw [List.length_cons]
    omega
/-- The own shares behind any others: the seed, or one of the others counts with another value. -/
theorem kjn_ign {m : Nat} {need i : Int} {kr : Kr} (h : okK m need i kr = true) (shares own : List Kp) (hown : KpsOk kr need.toNat m i.toNat m own) :
    kjn (cmK m need kr).2 (kr.seeds.length : Int) (m : Int) i (shares ++ own) need = (kr.seeds[i.toNat]?.getD 0, 0) ∨ ∃ q, q ∈ shares ∧ kgood (cmK m need kr).2 (kr.seeds.length : Int) (m : Int) i q = true ∧ q.s.2 ≠ evp (kpoly kr.seeds need.toNat kr.random i.toNat) q.s.1 := by
  by_cases hall : ∀ q, q ∈ shares → kgood (cmK m need kr).2 (kr.seeds.length : Int) (m : Int) i q = true → q.s.2 = evp (kpoly kr.seeds need.toNat kr.random i.toNat) q.s.1
  case neg =>
    refine .inr ?_
    apply Classical.byContradiction
    intro hc
    apply hall
    intro q hq hg
    apply Classical.byContradiction
    intro hne
    exact hc ⟨q, hq, hg, hne⟩
  case pos =>
  refine .inl ?_
  obtain ⟨v, hv, hv0, hv1, hi, hil, h6⟩ := okK_seed h
  obtain ⟨n, rfl, hok⟩ := okK_num h
  rw [Int.toNat_natCast] at hall hown
  have hon : On (kpoly kr.seeds n kr.random i.toNat) (jfd (cmK m (n : Int) kr).2 (kr.seeds.length : Int) (m : Int) i (shares ++ own)) := jfd_on (by have := hok.m7; omega) (fun k hk hg => by
    rcases List.mem_append.1 hk with hk | hk
    · exact hall k hk hg
    · obtain ⟨j, A, c, _, rfl⟩ := hown.each hk
      rfl)
  have hp0 : evp (kpoly kr.seeds n kr.random i.toNat) 0 = v := by
    unfold kpoly
    rw [hv]
    simp only [Option.getD_some, evp]
    omega
  have hpl : (kpoly kr.seeds n kr.random i.toNat).length ≤ n := by
    unfold kpoly
    have := hok.one
    simp only [List.length_cons, List.length_take]
    omega
  have hlen : n ≤ (jfd (cmK m (n : Int) kr).2 (kr.seeds.length : Int) (m : Int) i (shares ++ own)).length := by
    have h4 := (jfold_mem (cmK m (n : Int) kr).2 (kr.seeds.length : Int) (m : Int) i (shares ++ own) []).2.2.2
    have hsub : ∀ x, x ∈ own.map (·.s.1) → x ∈ (jfd (cmK m (n : Int) kr).2 (kr.seeds.length : Int) (m : Int) i (shares ++ own)).map (·.1) := fun x hx => by
      obtain ⟨q, hq, rfl⟩ := List.mem_map.1 hx
      refine h4 q (List.mem_append.2 (.inr hq)) ?_
      obtain ⟨j, A, c, hj, rfl⟩ := hown.each hq
      have := kgood_own h j hj A c
      rw [Int.toNat_natCast] at this
      exact this
    have hl := nodup_sub_len _ _ hown.nodup hsub
    rw [List.length_map, List.length_map, hown.1] at hl
    have := hok.le
    omega
  have := kjn_ok (n := (kr.seeds.length : Int)) (kp := (m : Int)) (i := i) (l := shares ++ own) (root := (cmK m (n : Int) kr).2) (need := n) hon hok.one (by have := hok.le; have := hok.m7; omega) hpl hlen (by rw [hp0]; exact hv1)
  rw [this, hp0, hv]
  rfl
end

section
open Go.RowKit

theorem jb_smallK (l : List ByteArray) (h : ∀ s ∈ l, s.size ≤ 200) (hl : l.length ≤ 30) : (jb l).size ≤ 1000000000 := by
  have := jn_few l h
  have e : (jb l).size = (jn l).length := by
    show (jn _).toArray.size = _
    simp
  omega
theorem leaf_small (s : ByteArray) (hs : s.size ≤ 200) : (jb [bLeaf, s]).size ≤ 1000000000 := jb_smallK _ (by
  intro t h
  simp only [List.mem_cons, List.not_mem_nil, or_false] at h
  rcases h with rfl | rfl
  · decide
  · exact hs) (by simp)
theorem ksTx_small {l : List Int} {salt : ByteArray} (hsv : sdV l = true) (h6 : l.length ≤ 600) (hs : salt.size ≤ 400) : ∀ s ∈ ksTx l salt, s.size ≤ 1000000000 := fun s h => by
  rcases List.mem_append.1 h with h | h
  · obtain ⟨m, hm, hsm⟩ := List.mem_flatten.1 h
    obtain ⟨i, hi, rfl⟩ := List.mem_mapIdx.1 hm
    have hr := sdV_at hsv (List.getElem?_eq_getElem hi)
    simp only [List.mem_cons, List.not_mem_nil, or_false] at hsm
    rcases hsm with rfl | rfl | rfl
    · have := ktT_size salt i hs (by omega); omega
    · have := ksT_size i (l[i]).toNat (kslt salt i) (by omega) (by omega) (by rw [kslt_size]; omega); omega
    · exact leaf_small _ (by rw [dg_size]; omega)
  · exact txt_small _ (ksL_sm l salt) s h
theorem koTx_small {n i v : Nat} {s : ByteArray} {p : List ByteArray} (hi : i ≤ 1000000) (hv : v ≤ 1000000) (hs : s.size ≤ 200) (hp : allD p = true) : ∀ t ∈ koTx n i v s p, t.size ≤ 1000000000 := fun t h => by
  rcases List.mem_append.1 h with h | h
  · simp only [List.mem_cons, List.not_mem_nil, or_false] at h
    rcases h with rfl | rfl
    · have := ksT_size i v s hi hv (by omega); omega
    · exact leaf_small _ (by rw [dg_size]; omega)
  · exact ptx_small n i _ p hp (by have := isD_16 (ksLf_D i v s); omega) t h
theorem ksTx_len (l : List Int) (salt : ByteArray) (h6 : l.length ≤ 600) : (ksTx l salt).length ≤ 3000 := by
  have h1 := (txt_len (ksL l salt)).1
  rw [ksL_length] at h1
  have h2 : (l.mapIdx (ks3 salt)).flatten.length = 3 * l.length := by
    rw [List.length_flatten]
    have : (l.mapIdx (ks3 salt)).map List.length = List.replicate l.length 3 := by
      apply List.ext_getElem?
      intro j
      by_cases hj : j < l.length
      · simp [hj, ks3]
      · simp [hj]
    rw [this, List.sum_replicate_nat]
    omega
  rw [ksTx_eq, List.length_append, h2]
  omega
theorem koTx_len (n i v : Nat) (s : ByteArray) (p : List ByteArray) : (koTx n i v s p).length = 2 + plen n i := by
  unfold koTx
  rw [List.length_append, ptx_len]
  rfl
/-- An opening that Short lets pass fits. -/
theorem sh_fit {o : Og} {w : World} (h : shO o = true) (hi : OgIn w o) : OgFit w o ∧ o.p.length ≤ 12 ∧ o.salt.size ≤ 100 ∧ sm o.p := by
  unfold shO at h
  rw [Bool.and_eq_true] at h
  obtain ⟨h1, h2⟩ := of_decide_eq_true h.1
  have h3 := h.2
  unfold fewB at h3
  rw [Bool.and_eq_true] at h3
  have h4 : ∀ s, s ∈ o.p → s.size ≤ 100 := fun s hs => of_decide_eq_true (List.all_eq_true.1 h3.1 s hs)
  exact ⟨⟨hi.p, by omega, fun s hs => by have := h4 s hs; omega, by omega, hi.ix, hi.v⟩, h1, h2, fun s hs => by have := h4 s hs; omega⟩
theorem Strs_two {w : World} {A : Option Addr} {n : Nat} {l m : List ByteArray} (h : Rd w 1 A n (l.map Value.string ++ m.map Value.string)) (hn : n = l.length + m.length) : Strs w A (l ++ m) := by
  unfold Strs
  rw [List.map_append, List.length_append, ← hn]
  exact h

set_option maxRecDepth 100000 in
set_option maxHeartbeats 64000000 in
theorem kbinds_walk (kr : Kr) (need total i : Int) (o : Og) (w : World) (hT : Tabs w) (hI : KrIn w kr) (hO : OgIn w o) (hi : i64ok i) :
    Calls Tryz.prog 6 #[.slice kr.SA kr.seeds.length kr.sc, .string kr.salt, .int .i64 need, .int .i64 total, .slice kr.RA kr.random.length kr.rc, .int .i64 i, .agg #[.int .i64 o.ix, .int .i64 o.v, .string o.salt, .slice o.A o.p.length o.c]] w fun e w' => e = .returned (.bool true) ∧ Below w.heap.size w w' := by
  have HT : Hid (∀ W, Below w.heap.size w W → Tabs W) := Lib.hid (fun W hW => hT.below hW)
  have HIN : Hid (∀ W, Below w.heap.size w W → KrIn W kr) := Lib.hid (fun W hW => hI.below hW)
  have HOG : Hid (∀ W, Below w.heap.size w W → OgIn W o) := Lib.hid (fun W hW => hO.below hW)
  obtain ⟨w0, hw0⟩ : ∃ w0, w.alloc (.cells #[.int .i64 o.ix, .int .i64 o.v, .string o.salt, .slice o.A o.p.length o.c] 32) = w0 := ⟨_, rfl⟩
  have HB0 : Hid (Below w.heap.size w w0) := Lib.hid (by rw [← hw0]; exact below_alloc (Below.refl _ _) _)
  have HK : Hid (∀ W, Below w0.heap.size w0 W → Blk W w.heap.size 32 #[.int .i64 o.ix, .int .i64 o.v, .string o.salt, .slice o.A o.p.length o.c]) := Lib.hid (fun W hW => by
    have hb : Blk w0 w.heap.size 32 #[.int .i64 o.ix, .int .i64 o.v, .string o.salt, .slice o.A o.p.length o.c] := by rw [← hw0]; exact Blk.new w _ _ _ rfl
    exact (hW.block _ hb.lt).trans hb)
  clear hT hI hO
  go_enter Tryz.func6, Tryz.ntmps6
  go_wp2_with fail
  try rw [hw0]
  have HW0 := Lib.hid hw0
  clear hw0
  refine (khead_any w0 (HT.out w0 HB0.out)).mono ?_
  rintro e w1 ⟨rfl, hb⟩
  have HX1 := Lib.hid hb
  have HB1 := Lib.hid (below_trans HB0.out hb)
  clear hb
  go_wp2_with fail
  refine (rfew30_any kr.SA kr.sc kr.seeds kr.salt kr.RA kr.rc kr.random w1).mono ?_
  rintro e w1' ⟨rfl, rfl⟩
  obtain ⟨bf, hbf⟩ : ∃ b, fw30 kr.seeds kr.salt kr.random = b := ⟨_, rfl⟩
  rw [hbf]
  cases bf with
  | false =>
    clear hbf
    go_wp2
    go_ret
    exact ⟨rfl, HB1.out⟩
  | true =>
  have HF := Lib.hid (of_decide_eq_true hbf)
  clear hbf
  have z0 := (HK.out w1 HX1.out).of_cell (i := 0) rfl
  have z1 := (HK.out w1 HX1.out).of_cell (i := 1) rfl
  have z2 := (HK.out w1 HX1.out).of_cell (i := 2) rfl
  have z3 := (HK.out w1 HX1.out).of_cell (i := 3) rfl
  have zl := (HK.out w1 HX1.out).lt
  go_wp2_with fail
  clear z0 z1 z2 z3 zl
  refine (rshort_any (some ⟨w1.heap.size, 0, none⟩) 1 [o] none 0 [] _ (Rd_new w1 #[.int .i64 o.ix, .int .i64 o.v, .string o.salt, .slice o.A o.p.length o.c] _ 4 1 _ rfl rfl) (RowOf.nil _ _ _ _) (fun q hq => by rw [List.mem_singleton.1 hq]; exact HOG.out _ (below_alloc HB1.out _)) (fun q hq => (by cases hq)) (show 1 ≤ 9223372036854775807 by decide) (show 0 ≤ 9223372036854775807 by decide)).mono ?_
  rintro e w2 ⟨rfl, rfl⟩
  obtain ⟨bs, hbs⟩ : ∃ b, shB [o] [] = b := ⟨_, rfl⟩
  rw [hbs]
  have HB2 := Lib.hid (below_alloc HB1.out (.cells #[.int .i64 o.ix, .int .i64 o.v, .string o.salt, .slice o.A o.p.length o.c] 32))
  have HX2 := Lib.hid (below_alloc HX1.out (.cells #[.int .i64 o.ix, .int .i64 o.v, .string o.salt, .slice o.A o.p.length o.c] 32))
  generalize w1.alloc (.cells #[.int .i64 o.ix, .int .i64 o.v, .string o.salt, .slice o.A o.p.length o.c] 32) = w2 at *
  cases bs with
  | false =>
    clear hbs
    go_wp2
    go_ret
    exact ⟨rfl, HB2.out⟩
  | true =>
  have HSH : Hid (shO o = true) := Lib.hid (by unfold shB at hbs; simp at hbs; exact hbs)
  clear hbs
  obtain ⟨b1, hb1⟩ : ∃ b, dvB kr.seeds kr.salt need total kr.random = b := ⟨_, rfl⟩
  obtain ⟨b2, hb2⟩ : ∃ b, (sdOk kr.seeds kr.salt && wiB i 0 ((kr.seeds.length : Int) - 1)) = b := ⟨_, rfl⟩
  obtain ⟨e1, he1⟩ : ∃ e, (if b1 = true then (0 : Int) else 1) = e := ⟨_, rfl⟩
  obtain ⟨e2, he2⟩ : ∃ e, (if b2 = true then (0 : Int) else 1) = e := ⟨_, rfl⟩
  have HCM := kcommit_any kr.SA kr.sc kr.seeds kr.salt need total kr.RA kr.rc kr.random w2 (HIN.out w2 HB2.out).s (HIN.out w2 HB2.out).r (HIN.out w2 HB2.out).sl (HIN.out w2 HB2.out).salt (HIN.out w2 HB2.out).rc (HIN.out w2 HB2.out).rcm (HT.out w2 HB2.out)
  rw [hb1, he1] at HCM
  obtain ⟨cm, hcm⟩ : ∃ c, cmR kr.seeds kr.salt need total kr.random = c := ⟨_, rfl⟩
  rw [hcm] at HCM
  have HCM2 := Lib.hid HCM
  have HDV := Lib.hid hb1
  have HSO := Lib.hid hb2
  have HE1 := Lib.hid he1
  have HE2 := Lib.hid he2
  have HCME := Lib.hid hcm
  clear HCM hb1 hb2 he1 he2 hcm
  go_wp2_with fail
  refine HCM2.out.mono ?_
  rintro e w3 ⟨rfl, hb⟩
  have HB3 := Lib.hid (below_trans HB2.out hb)
  have HX3 := Lib.hid (below_trans HX2.out hb)
  clear hb HCM2
  obtain ⟨w4, hw4⟩ : ∃ w4, w3.alloc (.cells #[.string cm.1, .string cm.2] 29) = w4 := ⟨_, rfl⟩
  have HB4 : Hid (Below w.heap.size w w4) := Lib.hid (by rw [← hw4]; exact below_alloc HB3.out _)
  have HX4 : Hid (Below w0.heap.size w0 w4) := Lib.hid (by rw [← hw4]; exact below_alloc HX3.out _)
  have HCB4 : Hid (∀ W, Below w4.heap.size w4 W → Blk W w3.heap.size 29 #[.string cm.1, .string cm.2]) := Lib.hid (fun W hW => by
    have hb : Blk w4 w3.heap.size 29 #[.string cm.1, .string cm.2] := by rw [← hw4]; exact Blk.new w3 _ _ _ rfl
    exact (hW.block _ hb.lt).trans hb)
  have HOP := kopen_gen kr i w4 (HIN.out w4 HB4.out) (HT.out w4 HB4.out)
  rw [HSO.out, HE2.out] at HOP
  have HOP2 := Lib.hid HOP
  clear HOP
  go_wp2_with fail
  refine HOP2.out.mono ?_
  rintro e w5 ⟨own, rfl, hown, hpo, hpc, hb⟩
  have HX45 := Lib.hid hb
  have HB5 := Lib.hid (below_trans HB4.out hb)
  have HX5 := Lib.hid (below_trans HX4.out hb)
  have HPO := Lib.hid hpo
  have HOWN := Lib.hid hown
  clear hb HOP2 hown hpo
  obtain ⟨w6, hw6⟩ : ∃ w6, w5.alloc (.cells #[.int .i64 own.ix, .int .i64 own.v, .string own.salt, .slice own.A own.p.length own.c] 32) = w6 := ⟨_, rfl⟩
  have HB6 : Hid (Below w.heap.size w w6) := Lib.hid (by rw [← hw6]; exact below_alloc HB5.out _)
  have HX46 : Hid (Below w4.heap.size w4 w6) := Lib.hid (by rw [← hw6]; exact below_alloc HX45.out _)
  have HX6 : Hid (Below w0.heap.size w0 w6) := Lib.hid (by rw [← hw6]; exact below_alloc HX5.out _)
  have HOB6 : Hid (∀ W, Below w6.heap.size w6 W → Blk W w5.heap.size 32 #[.int .i64 own.ix, .int .i64 own.v, .string own.salt, .slice own.A own.p.length own.c]) := Lib.hid (fun W hW => by
    have hb : Blk w6 w5.heap.size 32 #[.int .i64 own.ix, .int .i64 own.v, .string own.salt, .slice own.A own.p.length own.c] := by rw [← hw6]; exact Blk.new w5 _ _ _ rfl
    exact (hW.block _ hb.lt).trans hb)
  have HPW6 : Hid (PathIn w6 own.A own.p) := Lib.hid (by rw [← hw6]; exact HPO.out.below (below_alloc (Below.refl _ _) _))
  by_cases hbb : b1 = true ∧ b2 = true
  case neg =>
    have hbb' : b1 = false ∨ (b1 = true ∧ b2 = false) := by cases b1 <;> cases b2 <;> simp_all
    clear hbb
    rcases hbb' with rfl | ⟨rfl, rfl⟩
    · have q1 : 1 = e1 := HE1.out
      subst q1
      go_wp2
      go_ret
      exact ⟨rfl, HB6.out⟩
    · have q1 : 0 = e1 := HE1.out
      have q2 : 1 = e2 := HE2.out
      subst q1 q2
      go_wp2
      go_ret
      exact ⟨rfl, HB6.out⟩
  case pos =>
  obtain ⟨rfl, rfl⟩ := hbb
  have q1 : 0 = e1 := HE1.out
  have q2 : 0 = e2 := HE2.out
  subst q1 q2
  have hwi := (Bool.and_eq_true _ _ ▸ HSO.out : sdOk kr.seeds kr.salt = true ∧ wiB i 0 ((kr.seeds.length : Int) - 1) = true)
  obtain ⟨nd, m, rfl, rfl, hdok⟩ := DivOk.of HDV.out
  have hok : okK m (nd : Int) i kr = true := by unfold okK; rw [HDV.out, hwi.2]; rfl
  obtain ⟨v, hv, hv0, hv1, hii, hil, h6⟩ := okK_seed hok
  obtain ⟨ii, rfl⟩ : ∃ n : Nat, i = (n : Int) := ⟨i.toNat, hii.symm⟩
  rw [Int.toNat_natCast] at hv hil
  have hsd := hwi.1
  have hsd1 : sdV kr.seeds = true ∧ kr.salt.size ≤ 400 := by
    unfold sdOk at hsd
    rw [Bool.and_eq_true] at hsd
    exact ⟨hsd.1, (of_decide_eq_true hsd.2).2.2⟩
  have hs60 : kr.salt.size ≤ 60 := by
    have h1 := hsd1.2
    have h2 := HF.out.2.1
    omega
  have hcm1 : cm.1 = rt (ksL kr.seeds kr.salt) := by
    have := cmK_eq hok
    unfold cmK at this
    rw [HCME.out] at this
    rw [this]
  obtain ⟨Ao, co, hoe⟩ := HOWN.out rfl
  rw [Int.toNat_natCast] at hoe
  have hoix : own.ix = (ii : Int) := by rw [hoe]; rfl
  have hov : own.v = v := by rw [hoe]; show kr.seeds[ii]?.getD 0 = v; rw [hv]; rfl
  have hck : ckB cm.1 (kr.seeds.length : Int) own.ix own.v own.salt own.p = true := by
    rw [hcm1, hoix, hov, hoe]
    exact ck_own hsd hv
  have hfit : OgFit w6 own := by
    have hp := HPW6.out
    rw [hoe] at hp ⊢
    have := og_fit hok (c := co) (by rw [Int.toNat_natCast]; exact hp)
    rw [Int.toNat_natCast] at this
    exact this
  obtain ⟨n0, hn0⟩ : ∃ n, kr.seeds.length = n := ⟨_, rfl⟩
  have HCK1 : Hid (∀ W, Below w6.heap.size w6 W → Calls Tryz.prog 27 #[.agg #[.string cm.1, .string cm.2], .int .i64 n0, .agg #[.int .i64 ii, .int .i64 v, .string own.salt, .slice own.A own.p.length own.c]] W fun e w' => e = .returned (.bool true) ∧ Below W.heap.size W w') := Lib.hid (fun W hW => by
    have := kcheck_any cm kr.seeds.length own W (hfit.below hW) ⟨by omega, by have := h6; omega⟩ (HT.out W (below_trans HB6.out hW))
    rw [hck, hoix, hov, hn0] at this
    exact this)
  have HCELL : Hid (∀ W, Below w6.heap.size w6 W → Blk W w5.heap.size 32 #[.int .i64 ii, .int .i64 v, .string own.salt, .slice own.A own.p.length own.c]) := Lib.hid (fun W hW => by
    have := HOB6.out W hW
    rw [hoix, hov] at this
    exact this)
  have HFACT := Lib.hid (And.intro hsd (And.intro hsd1 (And.intro hs60 (And.intro hcm1 (And.intro hv (And.intro hil h6))))))
  have hii2 : (ii : Int) < (kr.seeds.length : Int) := by omega
  obtain ⟨bS, oS, hSA, -⟩ := (HIN.out w6 HB6.out).s.2 (by omega)
  have HSA := Lib.hid hSA
  have HSC : Hid (∀ W, Below w.heap.size w W → W.cell? ⟨bS, oS + ii, none⟩ = some (.int .i64 v)) := Lib.hid (fun W hW => by
    obtain ⟨b, off, he, hc⟩ := (HIN.out W hW).s.2 (by omega)
    rw [hSA] at he
    cases he
    exact hc ii _ (by simp [hv]))
  obtain ⟨salt0, hsalt0⟩ : ∃ s, own.salt = s := ⟨_, rfl⟩
  obtain ⟨pl0, hpl0⟩ : ∃ n, own.p.length = n := ⟨_, rfl⟩
  obtain ⟨SA0, hSA0⟩ : ∃ A, kr.SA = A := ⟨_, rfl⟩
  rw [hSA0] at hSA
  subst hSA
  rw [hn0] at hii2
  have HN0 := Lib.hid hn0
  have HSA0 := Lib.hid hSA0
  clear hwi hdok hok hv hil h6 hsd hsd1 hs60 hcm1 hoe hoix hov hck hfit hii hsalt0 hpl0
  rw [hSA0, hn0]
  go_wp2_with fail
  refine wp_region_held_drew (S := fun W => Below w6.heap.size w6 W) (by kernel_rfl) ((Below.refl _ _).drew) (fun hS0 => ?_)
  refine wpAnyH_take (i := 0) (v := ?_) rfl (by kernel_rfl) (by kernel_rfl) (by kernel_rfl) (fun _ _ _ h => h) (Or.inl ⟨by kernel_rfl, ?hy⟩) hS0 ?rest
  case hy => (intro W hSw; have c0 := (HCB4.out W (below_trans HX46.out hSw)).of_cell (i := 0) rfl; have c1 := (HCB4.out W (below_trans HX46.out hSw)).of_cell (i := 1) rfl; have cl := (HCB4.out W (below_trans HX46.out hSw)).lt; clear hSw; go_simp; with_reducible rfl)
  case rest =>
  refine wpAnyH_take (i := 1) (v := ?_) rfl (by kernel_rfl) (by kernel_rfl) (by kernel_rfl) (fun _ _ _ h => h) (Or.inl ⟨by kernel_rfl, ?hy⟩) hS0 ?rest
  case hy => (intro W hSw; clear hSw; go_simp; with_reducible rfl)
  case rest =>
  refine wpAnyH_take (i := 2) (v := ?_) rfl (by kernel_rfl) (by kernel_rfl) (by kernel_rfl) (fun _ _ _ h => h) (Or.inl ⟨by kernel_rfl, ?hy⟩) hS0 ?rest
  case hy => (intro W hSw; clear hSw; go_simp; with_reducible rfl)
  case rest =>
  refine wpAnyH_take (i := 3) (v := ?_) rfl (by kernel_rfl) (by kernel_rfl) (by kernel_rfl) (fun _ _ _ h => h) (Or.inl ⟨by kernel_rfl, ?hy⟩) hS0 ?rest
  case hy => (intro W hSw; have c0 := (HCELL.out W hSw).of_cell (i := 0) rfl; have c1 := (HCELL.out W hSw).of_cell (i := 1) rfl; have c2 := (HCELL.out W hSw).of_cell (i := 2) rfl; have c3 := (HCELL.out W hSw).of_cell (i := 3) rfl; have cl := (HCELL.out W hSw).lt; clear hSw; go_simp; with_reducible rfl)
  case rest =>
  refine wpAnyH_ready (rs := [4]) (by kernel_rfl) (by simp) ?_
  refine AllReadyH.cons rfl (fun K hK => ?_) (AllReadyH.nil)
  go_simp
  refine (HCK1.out _ hS0).mono ?_
  rintro e w7 ⟨rfl, hb⟩
  have HX7 := Lib.hid (below_trans hS0 hb)
  clear hb
  go_simp
  refine hK.out _ _ HX7.out (fun hS1 => ?_)
  clear hK K
  refine wpAnyH_take (i := 5) (v := ?_) rfl (by kernel_rfl) (by kernel_rfl) (by kernel_rfl) (fun _ _ _ h => h) (Or.inl ⟨by kernel_rfl, ?hy⟩) hS1 ?rest
  case hy => (intro W hSw; clear hSw; go_simp; with_reducible rfl)
  case rest =>
  refine wpAnyH_take (i := 6) (v := ?_) rfl (by kernel_rfl) (by kernel_rfl) (by kernel_rfl) (fun _ _ _ h => h) (Or.inl ⟨by kernel_rfl, ?hy⟩) hS1 ?rest
  case hy => (intro W hSw; clear hSw; go_simp; with_reducible rfl)
  case rest =>
  try go_simp
  refine wpAnyH_take (i := 7) (v := ?_) rfl (by kernel_rfl) (by kernel_rfl) (by kernel_rfl) (fun _ _ _ h => h) (Or.inl ⟨by kernel_rfl, ?hy⟩) hS1 ?rest
  case hy => (intro W hSw; clear hSw; go_simp; with_reducible rfl)
  case rest =>
  refine wpAnyH_take (i := 8) (v := ?_) rfl (by kernel_rfl) (by kernel_rfl) (by kernel_rfl) (fun _ _ _ h => h) (Or.inl ⟨by kernel_rfl, ?hy⟩) hS1 ?rest
  case hy => (intro W hSw; have c0 := (HCELL.out W hSw).of_cell (i := 0) rfl; have c1 := (HCELL.out W hSw).of_cell (i := 1) rfl; have c2 := (HCELL.out W hSw).of_cell (i := 2) rfl; have c3 := (HCELL.out W hSw).of_cell (i := 3) rfl; have cl := (HCELL.out W hSw).lt; clear hSw; go_simp; with_reducible rfl)
  case rest =>
  refine wpAnyH_take (i := 9) (v := ?_) rfl (by kernel_rfl) (by kernel_rfl) (by kernel_rfl) (fun _ _ _ h => h) (Or.inl ⟨by kernel_rfl, ?hy⟩) hS1 ?rest
  case hy => (intro W hSw; clear hSw; go_simp; with_reducible rfl)
  case rest =>
  refine wpAnyH_take (i := 10) (v := ?_) rfl (by kernel_rfl) (by kernel_rfl) (by kernel_rfl) (fun _ _ _ h => h) (Or.inl ⟨by kernel_rfl, ?hy⟩) hS1 ?rest
  case hy => (intro W hSw; clear hSw; go_simp; with_reducible rfl)
  case rest =>
  refine wpAnyH_take (i := 11) (v := ?_) rfl (by kernel_rfl) (by kernel_rfl) (by kernel_rfl) (fun _ _ _ h => h) (Or.inl ⟨by kernel_rfl, ?hy⟩) hS1 ?rest
  case hy => (intro W hSw; clear hSw; go_simp; with_reducible rfl)
  case rest =>
  refine wpAnyH_take (i := 12) (v := ?_) rfl (by kernel_rfl) (by kernel_rfl) (by kernel_rfl) (fun _ _ _ h => h) (Or.inl ⟨by kernel_rfl, ?hy⟩) hS1 ?rest
  case hy => (intro W hSw; clear hSw; go_simp; with_reducible rfl)
  case rest =>
  try go_simp
  refine wpAnyH_take (i := 13) (v := ?_) rfl (by kernel_rfl) (by kernel_rfl) (by kernel_rfl) (fun _ _ _ h => h) (Or.inl ⟨by kernel_rfl, ?hy⟩) hS1 ?rest
  case hy => (intro W hSw; clear hSw; go_simp; with_reducible rfl)
  case rest =>
  refine wpAnyH_take (i := 14) (v := ?_) rfl (by kernel_rfl) (by kernel_rfl) (by kernel_rfl) (fun _ _ _ h => h) (Or.inl ⟨by kernel_rfl, ?hy⟩) hS1 ?rest
  case hy => (intro W hSw; have c0 := (HCELL.out W hSw).of_cell (i := 0) rfl; have c1 := (HCELL.out W hSw).of_cell (i := 1) rfl; have c2 := (HCELL.out W hSw).of_cell (i := 2) rfl; have c3 := (HCELL.out W hSw).of_cell (i := 3) rfl; have cl := (HCELL.out W hSw).lt; clear hSw; go_simp; with_reducible rfl)
  case rest =>
  refine wpAnyH_take (i := 15) (v := ?_) rfl (by kernel_rfl) (by kernel_rfl) (by kernel_rfl) (fun _ _ _ h => h) (Or.inl ⟨by kernel_rfl, ?hy⟩) hS1 ?rest
  case hy => (intro W hSw; clear hSw; go_simp; with_reducible rfl)
  case rest =>
  refine wpAnyH_take (i := 16) (v := ?_) rfl (by kernel_rfl) (by kernel_rfl) (by kernel_rfl) (fun _ _ _ h => h) (Or.inl ⟨by kernel_rfl, ?hy⟩) hS1 ?rest
  case hy => (intro W hSw; clear hSw; go_simp; with_reducible rfl)
  case rest =>
  refine wpAnyH_take (i := 17) (v := ?_) rfl (by kernel_rfl) (by kernel_rfl) (by kernel_rfl) (fun _ _ _ h => h) (Or.inl ⟨by kernel_rfl, ?hy⟩) hS1 ?rest
  case hy => (intro W hSw; clear hSw; go_simp; with_reducible rfl)
  case rest =>
  refine wpAnyH_take (i := 18) (v := ?_) rfl (by kernel_rfl) (by kernel_rfl) (by kernel_rfl) (fun _ _ _ h => h) (Or.inl ⟨by kernel_rfl, ?hy⟩) hS1 ?rest
  case hy => (intro W hSw; have c0 := HSC.out W (below_trans HB6.out hSw); have cl := lt_of_cell c0; clear hSw; go_simp; with_reducible rfl)
  case rest =>
  try go_simp
  refine wpAnyH_take (i := 19) (v := ?_) rfl (by kernel_rfl) (by kernel_rfl) (by kernel_rfl) (fun _ _ _ h => h) (Or.inl ⟨by kernel_rfl, ?hy⟩) hS1 ?rest
  case hy => (intro W hSw; clear hSw; go_simp; with_reducible rfl)
  case rest =>
  refine wpAnyH_take (i := 20) (v := ?_) rfl (by kernel_rfl) (by kernel_rfl) (by kernel_rfl) (fun _ _ _ h => h) (Or.inl ⟨by kernel_rfl, ?hy⟩) hS1 ?rest
  case hy => (intro W hSw; clear hSw; go_simp; with_reducible rfl)
  case rest =>
  refine wpAnyH_done (by kernel_rfl) ?_ _
  have HB7 := Lib.hid (below_trans HB6.out HX7.out)
  have HX07 := Lib.hid (below_trans HX6.out HX7.out)
  have c0 := (HCB4.out w7 (below_trans HX46.out HX7.out)).of_cell (i := 0) rfl
  have c1 := (HCB4.out w7 (below_trans HX46.out HX7.out)).of_cell (i := 1) rfl
  have cl := (HCB4.out w7 (below_trans HX46.out HX7.out)).lt
  have z0 := (HK.out w7 HX07.out).of_cell (i := 0) rfl
  have z1 := (HK.out w7 HX07.out).of_cell (i := 1) rfl
  have z2 := (HK.out w7 HX07.out).of_cell (i := 2) rfl
  have z3 := (HK.out w7 HX07.out).of_cell (i := 3) rfl
  have zl := (HK.out w7 HX07.out).lt
  obtain ⟨hofit, hop12, hos, hosm⟩ := sh_fit HSH.out (HOG.out w7 HB7.out)
  obtain ⟨ck, hck⟩ : ∃ b, ckB cm.1 (n0 : Int) o.ix o.v o.salt o.p = b := ⟨_, rfl⟩
  have h6 := HFACT.out.2.2.2.2.2.2
  have HCK := kcheck_any cm n0 o w7 hofit ⟨by omega, by omega⟩ (HT.out w7 HB7.out)
  rw [hck] at HCK
  have HCK2 := Lib.hid HCK
  have HCKE := Lib.hid hck
  have HOSM := Lib.hid (And.intro hos (And.intro hosm hop12))
  clear HCK hck hofit hop12 hos hosm h6 hS1 hS0
  go_wp2_with fail
  refine HCK2.out.mono ?_
  rintro e w8 ⟨rfl, hb⟩
  have HB8 := Lib.hid (below_trans HB7.out hb)
  have HX08 := Lib.hid (below_trans HX07.out hb)
  clear hb c0 c1 cl HCK2
  clear z0 z1 z2 z3 zl
  cases ck with
  | false =>
    go_wp2
    go_ret
    exact ⟨rfl, HB8.out⟩
  | true =>
  obtain ⟨hsd, ⟨hsv, hs400⟩, hs60, hcm1, hv, hil, h6⟩ := HFACT.out
  have hckt := HCKE.out
  rw [hcm1, ← HN0.out] at hckt
  obtain ⟨i', x, hix, hx, hpl, hpD, hv0', hv1', hbind⟩ := ck_bind hsv hckt
  have hil' := (List.getElem?_eq_some_iff.1 hx).1
  have HOP := kopen_gen kr o.ix w8 (HIN.out w8 HB8.out) (HT.out w8 HB8.out)
  have hcond : (sdOk kr.seeds kr.salt && wiB o.ix 0 ((kr.seeds.length : Int) - 1)) = true := by
    rw [hsd, Bool.true_and, hix]
    exact decide_eq_true ⟨by omega, by omega⟩
  rw [hcond, if_pos rfl] at HOP
  rw [HSA0.out, HN0.out] at HOP
  have HOP2 := Lib.hid HOP
  have HBD := Lib.hid (And.intro hix (And.intro hx (And.intro hpl (And.intro hpD (And.intro hv0' (And.intro hv1' hbind))))))
  clear HOP hsd hsv hs400 hcm1 hv h6 hckt hix hx hpl hpD hv0' hv1' hbind hcond
  have z0 := (HK.out w8 HX08.out).of_cell (i := 0) rfl
  have z1 := (HK.out w8 HX08.out).of_cell (i := 1) rfl
  have z2 := (HK.out w8 HX08.out).of_cell (i := 2) rfl
  have z3 := (HK.out w8 HX08.out).of_cell (i := 3) rfl
  have zl := (HK.out w8 HX08.out).lt
  go_wp2_with fail
  refine HOP2.out.mono ?_
  rintro e w9 ⟨rg, rfl, hrg, -, -, hb⟩
  have HB9 := Lib.hid (below_trans HB8.out hb)
  have HX09 := Lib.hid (below_trans HX08.out hb)
  obtain ⟨Ar, cr, hre⟩ := hrg trivial
  have HRE : Hid (rg.v = x ∧ rg.salt = kslt kr.salt i') := Lib.hid (by
    rw [hre, HBD.out.1, Int.toNat_natCast]
    refine ⟨?_, rfl⟩
    show kr.seeds[i']?.getD 0 = x
    rw [HBD.out.2.1]; rfl)
  clear hb hrg hre HOP2
  clear z0 z1 z2 z3 zl
  obtain ⟨w10, hw10⟩ : ∃ w10, w9.alloc (.cells #[.int .i64 rg.ix, .int .i64 rg.v, .string rg.salt, .slice rg.A rg.p.length rg.c] 32) = w10 := ⟨_, rfl⟩
  have HB10 : Hid (Below w.heap.size w w10) := Lib.hid (by rw [← hw10]; exact below_alloc HB9.out _)
  have HX010 : Hid (Below w0.heap.size w0 w10) := Lib.hid (by rw [← hw10]; exact below_alloc HX09.out _)
  have HRB : Hid (Blk w10 w9.heap.size 32 #[.int .i64 rg.ix, .int .i64 rg.v, .string rg.salt, .slice rg.A rg.p.length rg.c]) := Lib.hid (by rw [← hw10]; exact Blk.new w9 _ _ _ rfl)
  have y1 := HRB.out.of_cell (i := 1) rfl
  have y2 := HRB.out.of_cell (i := 2) rfl
  have yl := HRB.out.lt
  have z0 := (HK.out w10 HX010.out).of_cell (i := 0) rfl
  have z1 := (HK.out w10 HX010.out).of_cell (i := 1) rfl
  have z2 := (HK.out w10 HX010.out).of_cell (i := 2) rfl
  have z3 := (HK.out w10 HX010.out).of_cell (i := 3) rfl
  have zl := (HK.out w10 HX010.out).lt
  by_cases hsame : rg.v = o.v ∧ rg.salt = o.salt
  case pos =>
    obtain ⟨g1, g2⟩ := hsame
    rw [g1] at y1
    rw [g2] at y2
    clear g1 g2
    go_wp2
    go_ret
    exact ⟨rfl, HB10.out⟩
  case neg =>
  have hcol : Col (ksTx kr.seeds kr.salt ++ koTx kr.seeds.length i' o.v.toNat o.salt o.p) := by
    rcases HBD.out.2.2.2.2.2.2 with ⟨g1, g2⟩ | hc
    · exact absurd ⟨HRE.out.1.trans g1.symm, HRE.out.2.trans g2.symm⟩ hsame
    · exact hc
  have hT1s : ∀ s ∈ ksTx kr.seeds kr.salt, s.size ≤ 1000000000 := ksTx_small HFACT.out.2.1.1 HFACT.out.2.2.2.2.2.2 HFACT.out.2.1.2
  have hT1l : (ksTx kr.seeds kr.salt).length ≤ 3000 := ksTx_len _ _ HFACT.out.2.2.2.2.2.2
  have hT2s : ∀ s ∈ koTx kr.seeds.length i' o.v.toNat o.salt o.p, s.size ≤ 1000000000 := koTx_small (by have := HFACT.out.2.2.2.2.2.2; omega) (by have := HBD.out.2.2.2.2.2.1; omega) (by have := HOSM.out.1; omega) HBD.out.2.2.2.1
  have hT2l : (koTx kr.seeds.length i' o.v.toNat o.salt o.p).length ≤ 14 := by rw [koTx_len, ← HBD.out.2.2.1]; have := HOSM.out.2.2; omega
  have HST : Hid (∀ W, Below w.heap.size w W → Calls Tryz.prog 31 #[.slice (some ⟨bS, oS, none⟩) n0 kr.sc, .string kr.salt] W fun e w' => ∃ v, e = .returned v ∧ w'.ownsRow W.heap.size 9 1 v (ksTx kr.seeds kr.salt).length ((ksTx kr.seeds kr.salt).map Value.string) ∧ Below W.heap.size W w') := Lib.hid (fun W hW => by
    have := rstexts_any kr.SA kr.sc kr.seeds kr.salt W (HIN.out W hW).s HFACT.out.2.1.1 HFACT.out.2.2.2.2.2.2 (by have := HFACT.out.2.2.1; omega)
    rw [HSA0.out, HN0.out] at this
    exact this)
  have HOT : Hid (∀ W, Below w.heap.size w W → Calls Tryz.prog 32 #[.int .i64 n0, .agg #[.int .i64 o.ix, .int .i64 o.v, .string o.salt, .slice o.A o.p.length o.c]] W fun e w' => ∃ v, e = .returned v ∧ w'.ownsRow W.heap.size 9 1 v (koTx kr.seeds.length i' o.v.toNat o.salt o.p).length ((koTx kr.seeds.length i' o.v.toNat o.salt o.p).map Value.string) ∧ Below W.heap.size W w') := Lib.hid (fun W hW => by
    have hol := HBD.out.2.2.1
    have := rotexts_any kr.seeds.length i' o.v.toNat o.salt o.A o.c o.p W HFACT.out.2.2.2.2.2.2 hil' (by have := HBD.out.2.2.2.2.2.1; omega) (by have := HOSM.out.1; omega) (HOG.out W hW).p hol (HOG.out W hW).cap HOSM.out.2.1
    rw [show ((o.v.toNat : Nat) : Int) = o.v from Int.toNat_of_nonneg HBD.out.2.2.2.2.1, ← HBD.out.1, HN0.out] at this
    rw [HN0.out]
    exact this)
  have HSH2 : Hid (∀ (W : World) (A : Option Addr) (c : Nat), Rd W 1 A ((ksTx kr.seeds kr.salt).length + (koTx kr.seeds.length i' o.v.toNat o.salt o.p).length) ((ksTx kr.seeds kr.salt).map Value.string ++ (koTx kr.seeds.length i' o.v.toNat o.salt o.p).map Value.string) → Calls Tryz.prog 30 #[.slice A ((ksTx kr.seeds kr.salt).length + (koTx kr.seeds.length i' o.v.toNat o.salt o.p).length) c] W fun e w' => e = .returned (.bool true) ∧ Below W.heap.size W w') := Lib.hid (fun W A c hR => by
    have := rshown30_any A c _ W (Strs_two hR rfl) (by rw [List.length_append]; omega) (fun s hs => (List.mem_append.1 hs).elim (hT1s s) (hT2s s)) hcol
    rw [List.length_append] at this
    exact this)
  have HT1L := Lib.hid hT1l
  have HT2L := Lib.hid hT2l
  clear hcol hT1s hT1l hT2s hT2l
  generalize ksTx kr.seeds kr.salt = T1 at *
  generalize koTx kr.seeds.length i' o.v.toNat o.salt o.p = T2 at *
  obtain ⟨i0, hi0, hz0, hz1, hz2⟩ := info_parts info_strg
  have HI := Lib.hid (And.intro hi0 (And.intro hz0 (And.intro hz1 hz2)))
  clear hi0 hz0 hz1 hz2
  by_cases h1 : rg.v = o.v
  · skip
    have h2 : (rg.salt.toList == o.salt.toList) = false := (bne_of _ _ (fun h => hsame ⟨h1, h⟩)).1
    rw [h1] at y1
    clear h1 hsame
    go_wp2_with fail
    clear y1 y2 yl
    clear z0 z1 z2 z3 zl
    refine wp_region_held_drew (S := fun W => Below w10.heap.size w10 W) (by kernel_rfl) ((Below.refl _ _).drew) (fun hS0 => ?_)
    refine wpAnyH_take (i := 0) (v := ?_) rfl (by kernel_rfl) (by kernel_rfl) (by kernel_rfl) (fun _ _ _ h => h) (Or.inl ⟨by kernel_rfl, ?hy⟩) hS0 ?rest
    case hy => (intro W hSw; clear hSw; go_simp; with_reducible rfl)
    case rest =>
    refine wpAnyH_take (i := 1) (v := ?_) rfl (by kernel_rfl) (by kernel_rfl) (by kernel_rfl) (fun _ _ _ h => h) (Or.inl ⟨by kernel_rfl, ?hy⟩) hS0 ?rest
    case hy => (intro W hSw; clear hSw; go_simp; with_reducible rfl)
    case rest =>
    refine wpAnyH_take (i := 2) (v := ?_) rfl (by kernel_rfl) (by kernel_rfl) (by kernel_rfl) (fun _ _ _ h => h) (Or.inl ⟨by kernel_rfl, ?hy⟩) hS0 ?rest
    case hy => (intro W hSw; clear hSw; go_simp; with_reducible rfl)
    case rest =>
    refine wpAnyH_take (i := 3) (v := ?_) rfl (by kernel_rfl) (by kernel_rfl) (by kernel_rfl) (fun _ _ _ h => h) (Or.inl ⟨by kernel_rfl, ?hy⟩) hS0 ?rest
    case hy => (intro W hSw; clear hSw; go_simp; with_reducible rfl)
    case rest =>
    refine wpAnyH_take (i := 5) (v := ?_) rfl (by kernel_rfl) (by kernel_rfl) (by kernel_rfl) (fun _ _ _ h => h) (Or.inl ⟨by kernel_rfl, ?hy⟩) hS0 ?rest
    case hy => (intro W hSw; clear hSw; go_simp; with_reducible rfl)
    case rest =>
    refine wpAnyH_take (i := 6) (v := ?_) rfl (by kernel_rfl) (by kernel_rfl) (by kernel_rfl) (fun _ _ _ h => h) (Or.inl ⟨by kernel_rfl, ?hy⟩) hS0 ?rest
    case hy => (intro W hSw; clear hSw; go_simp; with_reducible rfl)
    case rest =>
    try go_simp
    refine wpAnyH_take (i := 7) (v := ?_) rfl (by kernel_rfl) (by kernel_rfl) (by kernel_rfl) (fun _ _ _ h => h) (Or.inl ⟨by kernel_rfl, ?hy⟩) hS0 ?rest
    case hy => (intro W hSw; have z0 := (HK.out W (below_trans HX010.out hSw)).of_cell (i := 0) rfl; have z1 := (HK.out W (below_trans HX010.out hSw)).of_cell (i := 1) rfl; have z2 := (HK.out W (below_trans HX010.out hSw)).of_cell (i := 2) rfl; have z3 := (HK.out W (below_trans HX010.out hSw)).of_cell (i := 3) rfl; have zl := (HK.out W (below_trans HX010.out hSw)).lt; clear hSw; go_simp; with_reducible rfl)
    case rest =>
    refine wpAnyH_ready (rs := [4]) (by kernel_rfl) (by simp) ?_
    refine AllReadyH.cons rfl (fun K hK => ?_) (AllReadyH.nil)
    go_simp
    refine (HST.out _ (below_trans HB10.out hS0)).mono ?_
    rintro e w11 ⟨v11, rfl, ho, hb⟩
    have HY11 := Lib.hid (below_trans hS0 hb)
    have HO11 : Hid (w11.ownsRow w10.heap.size 9 1 v11 T1.length (T1.map Value.string)) := Lib.hid (row_mono ho hS0.size)
    clear ho hb
    go_simp
    refine hK.out _ _ HY11.out (fun hS1 => ?_)
    clear hK K
    refine wpAnyH_ready (rs := [8]) (by kernel_rfl) (by simp) ?_
    refine AllReadyH.cons rfl (fun K hK => ?_) (AllReadyH.nil)
    go_simp
    refine (HOT.out _ (below_trans HB10.out hS1)).mono ?_
    rintro e w12 ⟨v12, rfl, ho, hb⟩
    have HY12 := Lib.hid (below_trans hS1 hb)
    have HO12 := Lib.hid (row_below HO11.out hb)
    obtain ⟨A12, c12, rfl, -, -, hr12⟩ := Rd.of_own ho
    have HR12 := Lib.hid hr12
    clear ho hb hr12
    go_simp
    refine hK.out _ _ HY12.out (fun hS2 => ?_)
    clear hK K
    refine wpAnyH_ready (rs := [9]) (by kernel_rfl) (by simp) ?_
    refine AllReadyH.cons rfl (fun K hK => ?_) (AllReadyH.nil)
    refine step_appT w12 (by kernel_rfl) (.tmp 113) (.tmp 117) 30 30 rfl w10.heap.size 9 9 i0 _ 1 16 Tryz.underlying30 Tryz.underlying30 HI.out.1 HI.out.2.1 HI.out.2.2.1 HI.out.2.2.2 rfl (by omega) v11 T1.length _ (by kernel_rfl) HO12.out A12 T2.length c12 (T2.map Value.string) (by kernel_rfl) HR12.out (by intro u hu; obtain ⟨t, _, rfl⟩ := List.mem_map.1 hu; rfl) (by have := HT1L.out; have := HT2L.out; simp only [maxLen]; omega) (by have := HT1L.out; have := HT2L.out; omega) HY12.out.size ?_
    intro v13 w13 hown hg
    have HY13 : Hid (Below w10.heap.size w10 w13) := Lib.hid (HY12.out.grown hg HY12.out.size (fun j hj => (HO12.out.lt j hj).1))
    obtain ⟨A13, c13, rfl, -, -, hr13⟩ := Rd.of_own hown
    have HR13 := Lib.hid hr13
    clear hown hg hr13
    refine hK.out _ _ HY13.out (fun hS3 => ?_)
    clear hK K
    refine wpAnyH_ready (rs := [10]) (by kernel_rfl) (by simp) ?_
    refine AllReadyH.cons rfl (fun K hK => ?_) (AllReadyH.nil)
    go_simp
    refine (HSH2.out w13 A13 c13 HR13.out).mono ?_
    rintro e w14 ⟨rfl, hb⟩
    have HY14 := Lib.hid (below_trans HY13.out hb)
    clear hb
    go_simp
    refine hK.out _ _ HY14.out (fun hS4 => ?_)
    clear hK K
    refine wpAnyH_take (i := 11) (v := ?_) rfl (by kernel_rfl) (by kernel_rfl) (by kernel_rfl) (fun _ _ _ h => h) (Or.inl ⟨by kernel_rfl, ?hy⟩) hS4 ?rest
    case hy => (intro W hSw; clear hSw; go_simp; with_reducible rfl)
    case rest =>
    refine wpAnyH_take (i := 12) (v := ?_) rfl (by kernel_rfl) (by kernel_rfl) (by kernel_rfl) (fun _ _ _ h => h) (Or.inl ⟨by kernel_rfl, ?hy⟩) hS4 ?rest
    case hy => (intro W hSw; clear hSw; go_simp; with_reducible rfl)
    case rest =>
    refine wpAnyH_done (by kernel_rfl) ?_ _
    go_wp2
    go_ret
    exact ⟨rfl, below_trans HB10.out HY14.out⟩
  · skip
    clear hsame
    go_wp2_with fail
    clear y1 y2 yl
    clear z0 z1 z2 z3 zl
    refine wp_region_held_drew (S := fun W => Below w10.heap.size w10 W) (by kernel_rfl) ((Below.refl _ _).drew) (fun hS0 => ?_)
    refine wpAnyH_take (i := 0) (v := ?_) rfl (by kernel_rfl) (by kernel_rfl) (by kernel_rfl) (fun _ _ _ h => h) (Or.inl ⟨by kernel_rfl, ?hy⟩) hS0 ?rest
    case hy => (intro W hSw; clear hSw; go_simp; with_reducible rfl)
    case rest =>
    refine wpAnyH_take (i := 1) (v := ?_) rfl (by kernel_rfl) (by kernel_rfl) (by kernel_rfl) (fun _ _ _ h => h) (Or.inl ⟨by kernel_rfl, ?hy⟩) hS0 ?rest
    case hy => (intro W hSw; clear hSw; go_simp; with_reducible rfl)
    case rest =>
    refine wpAnyH_take (i := 2) (v := ?_) rfl (by kernel_rfl) (by kernel_rfl) (by kernel_rfl) (fun _ _ _ h => h) (Or.inl ⟨by kernel_rfl, ?hy⟩) hS0 ?rest
    case hy => (intro W hSw; clear hSw; go_simp; with_reducible rfl)
    case rest =>
    refine wpAnyH_take (i := 3) (v := ?_) rfl (by kernel_rfl) (by kernel_rfl) (by kernel_rfl) (fun _ _ _ h => h) (Or.inl ⟨by kernel_rfl, ?hy⟩) hS0 ?rest
    case hy => (intro W hSw; clear hSw; go_simp; with_reducible rfl)
    case rest =>
    refine wpAnyH_take (i := 5) (v := ?_) rfl (by kernel_rfl) (by kernel_rfl) (by kernel_rfl) (fun _ _ _ h => h) (Or.inl ⟨by kernel_rfl, ?hy⟩) hS0 ?rest
    case hy => (intro W hSw; clear hSw; go_simp; with_reducible rfl)
    case rest =>
    refine wpAnyH_take (i := 6) (v := ?_) rfl (by kernel_rfl) (by kernel_rfl) (by kernel_rfl) (fun _ _ _ h => h) (Or.inl ⟨by kernel_rfl, ?hy⟩) hS0 ?rest
    case hy => (intro W hSw; clear hSw; go_simp; with_reducible rfl)
    case rest =>
    try go_simp
    refine wpAnyH_take (i := 7) (v := ?_) rfl (by kernel_rfl) (by kernel_rfl) (by kernel_rfl) (fun _ _ _ h => h) (Or.inl ⟨by kernel_rfl, ?hy⟩) hS0 ?rest
    case hy => (intro W hSw; have z0 := (HK.out W (below_trans HX010.out hSw)).of_cell (i := 0) rfl; have z1 := (HK.out W (below_trans HX010.out hSw)).of_cell (i := 1) rfl; have z2 := (HK.out W (below_trans HX010.out hSw)).of_cell (i := 2) rfl; have z3 := (HK.out W (below_trans HX010.out hSw)).of_cell (i := 3) rfl; have zl := (HK.out W (below_trans HX010.out hSw)).lt; clear hSw; go_simp; with_reducible rfl)
    case rest =>
    refine wpAnyH_ready (rs := [4]) (by kernel_rfl) (by simp) ?_
    refine AllReadyH.cons rfl (fun K hK => ?_) (AllReadyH.nil)
    go_simp
    refine (HST.out _ (below_trans HB10.out hS0)).mono ?_
    rintro e w11 ⟨v11, rfl, ho, hb⟩
    have HY11 := Lib.hid (below_trans hS0 hb)
    have HO11 : Hid (w11.ownsRow w10.heap.size 9 1 v11 T1.length (T1.map Value.string)) := Lib.hid (row_mono ho hS0.size)
    clear ho hb
    go_simp
    refine hK.out _ _ HY11.out (fun hS1 => ?_)
    clear hK K
    refine wpAnyH_ready (rs := [8]) (by kernel_rfl) (by simp) ?_
    refine AllReadyH.cons rfl (fun K hK => ?_) (AllReadyH.nil)
    go_simp
    refine (HOT.out _ (below_trans HB10.out hS1)).mono ?_
    rintro e w12 ⟨v12, rfl, ho, hb⟩
    have HY12 := Lib.hid (below_trans hS1 hb)
    have HO12 := Lib.hid (row_below HO11.out hb)
    obtain ⟨A12, c12, rfl, -, -, hr12⟩ := Rd.of_own ho
    have HR12 := Lib.hid hr12
    clear ho hb hr12
    go_simp
    refine hK.out _ _ HY12.out (fun hS2 => ?_)
    clear hK K
    refine wpAnyH_ready (rs := [9]) (by kernel_rfl) (by simp) ?_
    refine AllReadyH.cons rfl (fun K hK => ?_) (AllReadyH.nil)
    refine step_appT w12 (by kernel_rfl) (.tmp 113) (.tmp 117) 30 30 rfl w10.heap.size 9 9 i0 _ 1 16 Tryz.underlying30 Tryz.underlying30 HI.out.1 HI.out.2.1 HI.out.2.2.1 HI.out.2.2.2 rfl (by omega) v11 T1.length _ (by kernel_rfl) HO12.out A12 T2.length c12 (T2.map Value.string) (by kernel_rfl) HR12.out (by intro u hu; obtain ⟨t, _, rfl⟩ := List.mem_map.1 hu; rfl) (by have := HT1L.out; have := HT2L.out; simp only [maxLen]; omega) (by have := HT1L.out; have := HT2L.out; omega) HY12.out.size ?_
    intro v13 w13 hown hg
    have HY13 : Hid (Below w10.heap.size w10 w13) := Lib.hid (HY12.out.grown hg HY12.out.size (fun j hj => (HO12.out.lt j hj).1))
    obtain ⟨A13, c13, rfl, -, -, hr13⟩ := Rd.of_own hown
    have HR13 := Lib.hid hr13
    clear hown hg hr13
    refine hK.out _ _ HY13.out (fun hS3 => ?_)
    clear hK K
    refine wpAnyH_ready (rs := [10]) (by kernel_rfl) (by simp) ?_
    refine AllReadyH.cons rfl (fun K hK => ?_) (AllReadyH.nil)
    go_simp
    refine (HSH2.out w13 A13 c13 HR13.out).mono ?_
    rintro e w14 ⟨rfl, hb⟩
    have HY14 := Lib.hid (below_trans HY13.out hb)
    clear hb
    go_simp
    refine hK.out _ _ HY14.out (fun hS4 => ?_)
    clear hK K
    refine wpAnyH_take (i := 11) (v := ?_) rfl (by kernel_rfl) (by kernel_rfl) (by kernel_rfl) (fun _ _ _ h => h) (Or.inl ⟨by kernel_rfl, ?hy⟩) hS4 ?rest
    case hy => (intro W hSw; clear hSw; go_simp; with_reducible rfl)
    case rest =>
    refine wpAnyH_take (i := 12) (v := ?_) rfl (by kernel_rfl) (by kernel_rfl) (by kernel_rfl) (fun _ _ _ h => h) (Or.inl ⟨by kernel_rfl, ?hy⟩) hS4 ?rest
    case hy => (intro W hSw; clear hSw; go_simp; with_reducible rfl)
    case rest =>
    refine wpAnyH_done (by kernel_rfl) ?_ _
    go_wp2
    go_ret
    exact ⟨rfl, below_trans HB10.out HY14.out⟩
end

section
open Go.RowKit

theorem ign_one {l : List Kr} {need i : Int} {w : World} {CA OA KA : Option Addr} {cc oc kc : Nat} {os : List Og} {ks : List Kw} (h : NightRes l need i w CA cc OA oc KA kc os ks) (ha : l.all (okK l.length need i) = true) (n : Nat) (hn : ∀ kr, kr ∈ l → kr.seeds.length = n) {k : Nat} {x : Kr} (hx : l[k]? = some x) (o : Og) (b : Kw) {j : Nat} {kr : Kr} (hj : l[j]? = some kr) :
    (krs (l.map (cmK l.length need)) (n : Int) i (os.set k o) ((ks.set k b).map (·.l)) need)[j]? = some (if j = k then kone (cmK l.length need x) (n : Int) (l.length : Int) i o b.l need else (kr.seeds[i.toNat]?.getD 0, 0, false)) := by
  have hjl := (List.getElem?_eq_some_iff.1 hj).1
  have h1 : (l.map (cmK l.length need))[j]? = some (cmK l.length need kr) := by rw [List.getElem?_map, hj]; rfl
  by_cases hjk : j = k
  · subst hjk
    rw [hx] at hj
    cases hj
    have ho : (os.set j o)[j]? = some o := List.getElem?_set_self (by rw [h.ok.ol]; exact hjl)
    have hb : ((ks.set j b).map (·.l))[j]? = some b.l := by rw [List.getElem?_map, List.getElem?_set_self (by rw [h.ok.kl]; exact hjl)]; rfl
    rw [krs_get h1 ho hb, if_pos rfl, List.length_map]
  · have hm := List.mem_of_getElem? hj
    obtain ⟨A, c, ho⟩ := h.ok.o j kr hjl hj
    obtain ⟨a, ha', -⟩ := h.ok.k j kr hjl hj
    have ho' : (os.set k o)[j]? = some (ogOf kr i.toNat A c) := by rw [List.getElem?_set_ne (fun e => hjk e.symm)]; exact ho
    have h2 : ((ks.set k b).map (·.l))[j]? = some a.l := by rw [List.getElem?_map, List.getElem?_set_ne (fun e => hjk e.symm), ha']; rfl
    rw [krs_get h1 ho' h2, if_neg hjk, ← hn kr hm, kone_own (List.all_eq_true.1 ha kr hm)]
/-- Where the one keeper gives its seed in the end, the draw is the same. -/
theorem ign_draw {l : List Kr} {need i : Int} {w : World} {CA OA KA : Option Addr} {cc oc kc : Nat} {os : List Og} {ks : List Kw} (h : NightRes l need i w CA cc OA oc KA kc os ks) (ha : l.all (okK l.length need i) = true) (n : Nat) (hn : ∀ kr, kr ∈ l → kr.seeds.length = n) {k : Nat} {x : Kr} (hx : l[k]? = some x) (o : Og) (b : Kw)
    (hg : (kone (cmK l.length need x) (n : Int) (l.length : Int) i o b.l need).1 = x.seeds[i.toNat]?.getD 0) (he : (kone (cmK l.length need x) (n : Int) (l.length : Int) i o b.l need).2.1 = 0) :
    ∃ W, kall (krs (l.map (cmK l.length need)) (n : Int) i (os.set k o) ((ks.set k b).map (·.l)) need) = (sds l i.toNat l.length % 720, W, 0) := by
  have hlen : (krs (l.map (cmK l.length need)) (n : Int) i (os.set k o) ((ks.set k b).map (·.l)) need).length = l.length := by
    rw [krs_len (by rw [List.length_set, List.length_map]; exact h.ok.ol) (by rw [List.length_map, List.length_set, List.length_map]; exact h.ok.kl), List.length_map]
  have hat := fun (j : Nat) (kr : Kr) (hj : l[j]? = some kr) => ign_one h ha n hn hx o b hj
  generalize krs (l.map (cmK l.length need)) (n : Int) i (os.set k o) ((ks.set k b).map (·.l)) need = rs at *
  generalize kone (cmK l.length need x) (n : Int) (l.length : Int) i o b.l need = r at *
  have h0 : ∀ (j : Nat) (r' : Int × Int × Bool), rs[j]? = some r' → r'.2.1 = 0 := fun j r' hr => by
    obtain ⟨kr, hkr⟩ := get_some l j (by rw [← hlen]; exact (List.getElem?_eq_some_iff.1 hr).1)
    rw [hat j kr hkr] at hr
    split at hr
    · cases hr; exact he
    · cases hr; rfl
  have hs : ∀ j, j ≤ l.length → ksum rs j = sds l i.toNat j % 720 := fun j => by
    induction j with
    | zero => intro _; rfl
    | succ j ih =>
      intro hj
      have i1 := ih (by omega)
      obtain ⟨kr, hkr⟩ := get_some l j (by omega)
      have hr := hat j kr hkr
      by_cases hjk : j = k
      · subst hjk
        rw [hx] at hkr
        cases hkr
        rw [if_pos rfl] at hr
        obtain ⟨r1, r2, r3⟩ := r
        simp only at hg he
        rw [ksum_succ hr, i1, sds, hx, hg]
        simp only [Option.bind_some]
        omega
      · rw [if_neg hjk] at hr
        rw [ksum_succ hr, i1, sds, hkr]
        simp only [Option.bind_some]
        omega
  exact ⟨kwh rs l.length, by rw [kall_ok h0, hlen, hs _ (Nat.le_refl _)]⟩

/-! ### what counts binds -/
theorem kt_bind {m : Nat} {need i : Int} {kr : Kr} (hok : okK m need i kr = true) {q : Kp} (hq : ktB (cmK m need kr).2 kr.seeds.length m q = true) :
    (0 ≤ q.ix ∧ q.ix < kr.seeds.length) ∧ (1 ≤ q.s.1 ∧ q.s.1 ≤ m) ∧ (0 ≤ q.s.2 ∧ q.s.2 < 2147483647) ∧ q.p.length = plen (kr.seeds.length * m) (q.ix.toNat * m + (q.s.1 - 1).toNat) ∧ allD q.p = true ∧ (q.s.2 = evp (kpoly kr.seeds need.toNat kr.random q.ix.toNat) q.s.1 ∨ Col (khTx kr.seeds need.toNat m kr.random ++ kkTx kr.seeds.length m q.ix.toNat q.s q.p)) := by
  unfold ktB wiB validB elemB at hq
  simp only [Bool.and_eq_true, decide_eq_true_eq] at hq
  obtain ⟨⟨⟨⟨h1, h2⟩, ⟨h3, h4⟩, h5, h6⟩, h7⟩, h8⟩ := hq
  obtain ⟨j, hj⟩ : ∃ j : Nat, q.ix = j := ⟨q.ix.toNat, by omega⟩
  rw [cmK_eq hok, hj] at h8
  obtain ⟨g1, g2, g3⟩ := kv_bind (l := kr.seeds) (i := j) (by omega) h3 h7 h5 h8
  refine ⟨⟨h1, by omega⟩, ⟨h3, h7⟩, ⟨h5, h6⟩, ?_, g2, ?_⟩
  · rw [hj, Int.toNat_natCast]; exact g1
  · rw [hj, Int.toNat_natCast]; exact g3
/-- The strings of the shares that count. -/
def igT (root : ByteArray) (n kp : Nat) (sh : List Kp) : List ByteArray := sh.flatMap fun q => if ktB root n kp q then kkTx n kp q.ix.toNat q.s q.p else []
theorem igT_take (root : ByteArray) (n kp : Nat) {sh : List Kp} {j : Nat} {q : Kp} (h : sh[j]? = some q) : igT root n kp (sh.take (j + 1)) = igT root n kp (sh.take j) ++ (if ktB root n kp q then kkTx n kp q.ix.toNat q.s q.p else []) := by
  unfold igT
  rw [List.take_add_one, h, List.flatMap_append]
  simp
theorem ign_colA {m : Nat} {need i : Int} {kr : Kr} (hok : okK m need i kr = true) {o : Og} {L : List Kp} (hc : o.ix = i ∧ ckB (cmK m need kr).1 (kr.seeds.length : Int) o.ix o.v o.salt o.p = true)
    (hbad : ¬ ((kone (cmK m need kr) (kr.seeds.length : Int) (m : Int) i o L need).1 = kr.seeds[i.toNat]?.getD 0 ∧ (kone (cmK m need kr) (kr.seeds.length : Int) (m : Int) i o L need).2.1 = 0)) :
    o.ix.toNat < kr.seeds.length ∧ 0 ≤ o.v ∧ o.v ≤ 719 ∧ o.p.length = plen kr.seeds.length o.ix.toNat ∧ allD o.p = true ∧ Col (ksTx kr.seeds kr.salt ++ koTx kr.seeds.length o.ix.toNat o.v.toNat o.salt o.p) := by
  have hdv := okK_dv hok
  unfold dvB sdOk at hdv
  simp only [Bool.and_eq_true] at hdv
  have hck := hc.2
  rw [cmK_eq hok] at hck
  obtain ⟨j, x, hj, hx, g1, g2, g3, g4, g5⟩ := ck_bind hdv.1.1 hck
  have hjl := (List.getElem?_eq_some_iff.1 hx).1
  have e : o.ix.toNat = j := by omega
  have ei : i.toNat = j := by rw [← hc.1]; exact e
  rw [e]
  refine ⟨hjl, g3, g4, g1, g2, ?_⟩
  rcases g5 with ⟨g6, -⟩ | g6
  · refine absurd ?_ hbad
    unfold kone
    rw [if_pos hc, ei, hx]
    exact ⟨g6, rfl⟩
  · exact g6
theorem ign_colB {m : Nat} {need i : Int} {kr : Kr} (hok : okK m need i kr = true) {o : Og} {sh own : List Kp} (hown : KpsOk kr need.toNat m i.toNat m own) (hc : ¬ (o.ix = i ∧ ckB (cmK m need kr).1 (kr.seeds.length : Int) o.ix o.v o.salt o.p = true))
    (hbad : ¬ ((kone (cmK m need kr) (kr.seeds.length : Int) (m : Int) i o (sh ++ own) need).1 = kr.seeds[i.toNat]?.getD 0 ∧ (kone (cmK m need kr) (kr.seeds.length : Int) (m : Int) i o (sh ++ own) need).2.1 = 0)) :
    Col (khTx kr.seeds need.toNat m kr.random ++ igT (cmK m need kr).2 kr.seeds.length m sh) := by
  rcases kjn_ign hok sh own hown with h | ⟨q, hq, hg, hne⟩
  · refine absurd ?_ hbad
    unfold kone
    rw [if_neg hc, h]
    exact ⟨rfl, rfl⟩
  · obtain ⟨v, hv, -, -, hi, hil, h6⟩ := okK_seed hok
    obtain ⟨nd, -, hdv⟩ := okK_num hok
    have hm7 := hdv.m7
    have hkt : ktB (cmK m need kr).2 kr.seeds.length m q = true := by
      unfold kgood at hg
      simp only [Bool.and_eq_true, decide_eq_true_eq] at hg
      obtain ⟨⟨⟨e, a, b⟩, c⟩, d⟩ := hg
      unfold ktB wiB validB
      rw [c, e, d]
      simp only [Bool.and_true, Bool.and_eq_true, decide_eq_true_eq]
      omega
    have hix : q.ix = i := by
      unfold kgood at hg
      simp only [Bool.and_eq_true, decide_eq_true_eq] at hg
      exact hg.1.1.1
    obtain ⟨-, -, -, -, -, hb⟩ := kt_bind hok hkt
    rcases hb with hb | hb
    · rw [hix] at hb; exact absurd hb hne
    · refine hb.mono fun s hs => ?_
      rcases List.mem_append.1 hs with hs | hs
      · exact List.mem_append.2 (.inl hs)
      · exact List.mem_append.2 (.inr (List.mem_flatMap.2 ⟨q, hq, by rw [if_pos hkt]; exact hs⟩))

theorem shW_each {a : Kw} (h : shW a = true) : a.l.length ≤ 12 ∧ ∀ q, q ∈ a.l → shP q = true := by
  unfold shW at h
  rw [Bool.and_eq_true] at h
  exact ⟨of_decide_eq_true h.1, fun q hq => List.all_eq_true.1 h.2 q hq⟩

/-! ### sizes -/
theorem flatL_length {α β : Type} (f : α → List β) (m : Nat) (hf : ∀ a, (f a).length = m) (l : List α) : (l.flatMap f).length = l.length * m := by
  induction l with
  | nil => simp
  | cons a l ih => rw [List.flatMap_cons, List.length_append, ih, hf, List.length_cons, Nat.add_mul, Nat.one_mul, Nat.add_comm]
theorem khTx_len (l : List Int) (need m : Nat) (random : List Int) (h6 : l.length ≤ 6) (hm : m ≤ 7) : (khTx l need m random).length ≤ 100 := by
  have h1 := (txt_len (khP l need m random l.length)).1
  rw [khP_length] at h1
  have h2 : ((List.range l.length).flatMap fun i => (kof l need m random i).map fun s => jb [bLeaf, khT i s]).length = (List.range l.length).length * m := flatL_length _ m (fun i => by rw [List.length_map, kof_length]) _
  rw [List.length_range] at h2
  unfold khTx
  rw [List.length_append, h2]
  have : l.length * m ≤ 6 * 7 := Nat.mul_le_mul h6 hm
  omega
theorem khTx_small (l : List Int) (need m : Nat) (random : List Int) (h6 : l.length ≤ 600) (hm : m ≤ 7) : ∀ s ∈ khTx l need m random, s.size ≤ 1000000000 := fun s h => by
  rcases List.mem_append.1 h with h | h
  · obtain ⟨i, hi, h⟩ := List.mem_flatMap.1 h
    obtain ⟨p, hp, rfl⟩ := List.mem_map.1 h
    obtain ⟨j, hj⟩ := List.getElem?_of_mem hp
    have := kof_lst l need m random i j p hj
    have hi' := List.mem_range.1 hi
    have := khT_size i p (by omega) (by omega) (by omega)
    exact leaf_small _ (by omega)
  · exact txt_small _ (khP_sm l need m random l.length) s h
theorem kkTx_len (n kp i : Nat) (s : Int × Int) (p : List ByteArray) : (kkTx n kp i s p).length = 1 + plen (n * kp) (i * kp + (s.1 - 1).toNat) := by
  unfold kkTx
  rw [List.length_append, ptx_len]
  rfl
theorem kkTx_small {n kp i : Nat} {s : Int × Int} {p : List ByteArray} (hi : i ≤ 1000000) (h1 : s.1 ≤ 1000000) (h2 : s.2 < 10000000000) (hp : allD p = true) : ∀ t ∈ kkTx n kp i s p, t.size ≤ 1000000000 := fun t h => by
  rcases List.mem_append.1 h with h | h
  · rw [List.mem_singleton.1 h]
    have := khT_size i s (by omega) (by omega) h2
    exact leaf_small _ (by omega)
  · exact ptx_small _ _ _ p hp (by have := isD_16 (khLf_D i s); omega) t h
theorem igT_len {m : Nat} {need i : Int} {kr : Kr} (hok : okK m need i kr = true) (sh : List Kp) (h12 : ∀ q, q ∈ sh → q.p.length ≤ 12) : (igT (cmK m need kr).2 kr.seeds.length m sh).length ≤ 13 * sh.length := by
  induction sh with
  | nil => simp [igT]
  | cons q sh ih =>
    have := ih (fun q hq => h12 q (List.mem_cons_of_mem _ hq))
    have h1 := h12 q List.mem_cons_self
    unfold igT at this ⊢
    rw [List.flatMap_cons, List.length_append, List.length_cons]
    split
    · rename_i hkt
      obtain ⟨-, -, -, hpl, -⟩ := kt_bind hok hkt
      rw [kkTx_len, ← hpl]
      omega
    · simp only [List.length_nil]
      omega
theorem igT_small {m : Nat} {need i : Int} {kr : Kr} (hok : okK m need i kr = true) (sh : List Kp) : ∀ s ∈ igT (cmK m need kr).2 kr.seeds.length m sh, s.size ≤ 1000000000 := fun s h => by
  obtain ⟨v, hv, -, -, hi, hil, h6⟩ := okK_seed hok
  obtain ⟨nd, -, hdv⟩ := okK_num hok
  have hm7 := hdv.m7
  obtain ⟨q, hq, h⟩ := List.mem_flatMap.1 h
  split at h
  · rename_i hkt
    obtain ⟨g1, g2, g3, -, g5, -⟩ := kt_bind hok hkt
    exact kkTx_small (by omega) (by omega) (by omega) g5 s h
  · cases h
end

end Go.Proofs.YtjfondfjdhjooaaGreatDoor
