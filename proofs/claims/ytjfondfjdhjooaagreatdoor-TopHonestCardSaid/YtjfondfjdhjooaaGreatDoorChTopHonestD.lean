/- TopHonest: w11Wins. -/
import Derived.Test.YtjfondfjdhjooaaGreatDoorChTopHonestC
namespace Go.Proofs.YtjfondfjdhjooaaGreatDoor
set_option linter.unusedVariables false
set_option linter.unusedSimpArgs false

section
open Go.RowKit
theorem step_storeM {P : Program} {ops : Array Oper} {o : Oper} {a : Act} {w : World} {K : Act → World → Prop} {Q : Exit → Act → World → Prop} {E : Prop} (hw : Region.wanted o (yielded ops a.tmps) = true) (ty : TypeId) (x y : Operand) (ho : o.op = .store ty x y) (b q : Nat) (cells : Array Value) (hx : a.eval x = .pointer (some ⟨b, q, none⟩)) (hy : a.eval y = .agg cells) (ht : w.there b q cells.size) (hs : (P.info? ty).map (·.size) = some cells.size) (h1 : (cells.all fun x => x.oneCell') = true)
    (h : K (a.put o.dst undef) (w.setCells b q cells.toList)) : if Region.wanted o (yielded ops a.tmps) = true then Oper.wp P o a w K Q else E := by
  rw [if_pos hw]
  exact wp_store_mid ty x y ho b q cells hx hy ht hs h1 h
theorem wct_le (l : List Int) (c : Int) (j s : Nat) : 0 ≤ wct l c j s ∧ wct l c j s ≤ s := by
  induction s with
  | zero => simp [wct]
  | succ s ih => rw [wct]; split <;> omega
theorem winsK_le {l : List Int} {c : Int} {s p : Nat} {v : Int} (h : (winsK l c s)[p]? = some v) : 0 ≤ v ∧ v ≤ s := by
  unfold winsK at h
  rw [List.getElem?_map] at h
  cases hr : (List.range l.length)[p]? with
  | none => rw [hr] at h; cases h
  | some q =>
    rw [hr] at h
    cases h
    exact wct_le l c q s
set_option maxRecDepth 100000 in
set_option maxHeartbeats 64000000 in
theorem w11wins_any (A : Option Addr) (c : Nat) (l : List Kr) (need : Int) (ii k closed : Nat) (TA : Option Addr) (tc : Nat) (tk : List Int) (w : World) (hT : Tabs w) (hA : RowOf krC 3 w A l) (hI : ∀ kr, kr ∈ l → KrIn w kr) (hlc : l.length ≤ c) (h1 : 1 ≤ l.length) (h3 : l.length ≤ 3) (hall : l.all (okK l.length need (ii : Int)) = true) (n : Nat) (hn : ∀ kr, kr ∈ l → kr.seeds.length = n) (hn2 : n ≤ 2) (hk : k < l.length) (hcl : closed < 256) (hTk : Ints w TA tk) (hlb : listB tk = true) :
    Calls Tryz.prog 14 #[.slice A l.length c, .int .i64 need, .int .i64 ii, .int .i64 k, .int .u8 closed, .slice TA tk.length tc] w fun e w' => ∃ A' c', e = .returned (.tuple #[.slice A' tk.length c', .bool true]) ∧ Ints w' A' tk ∧ Below w.heap.size w w' := by
  have HA : Hid (∀ W, Below w.heap.size w W → RowOf krC 3 W A l) := Lib.hid (fun W hW => hA.below hW)
  have HIN : Hid (∀ kr, kr ∈ l → ∀ W, Below w.heap.size w W → KrIn W kr) := Lib.hid (fun kr hk W hW => (hI kr hk).below hW)
  have HT : Hid (∀ W, Below w.heap.size w W → Tabs W) := Lib.hid (fun W hW => hT.below hW)
  have HTK : Hid (∀ W, Below w.heap.size w W → Ints W TA tk) := Lib.hid (fun W hW => hTk.below hW)
  have HLB := Lib.hid hlb
  have HALL := Lib.hid hall
  have HNN := Lib.hid hn
  obtain ⟨ht1, ht2⟩ := (listB_of hlb).1
  have HTL : Hid (tk.length ≤ 200) := Lib.hid ht2
  clear hA hI hT hTk hlb hall hn ht1 ht2
  obtain ⟨x, hx⟩ := get_some l k hk
  have HX := Lib.hid hx
  obtain ⟨bA, oA, hAe, -⟩ := kr_cells (HA.out w (Below.refl _ _)) hx
  subst hAe
  have hxn : x.seeds.length = n := HNN.out x (List.mem_of_getElem? hx)
  have HKR : Hid (∀ (j : Nat) (y : Kr), l[j]? = some y → ∀ W, Below w.heap.size w W → W.cell? ⟨bA, oA + j * 3, none⟩ = some (.slice y.SA n y.sc) ∧ W.cell? ⟨bA, oA + j * 3 + 1, none⟩ = some (.string y.salt) ∧ W.cell? ⟨bA, oA + j * 3 + 2, none⟩ = some (.slice y.RA y.random.length y.rc)) := Lib.hid (fun j y hy W hW => by
    obtain ⟨b, off, he, c0, c1, c2⟩ := kr_cells (HA.out W hW) hy
    cases he
    rw [HNN.out y (List.mem_of_getElem? hy)] at c0
    exact ⟨c0, c1, c2⟩)
  have HXN := Lib.hid hxn
  obtain ⟨cl, hcl'⟩ : ∃ f : Nat → Bool, f = fun j => (bits BinOp.and IntKind.u8 ((closed : Int) / 2 ^ j) 1 == 1) := ⟨_, rfl⟩
  have HCL : Hid (∀ j, (bits BinOp.and IntKind.u8 ((closed : Int) / 2 ^ j) 1 == 1) = cl j) := Lib.hid (fun j => by rw [hcl'])
  clear hcl' hx hxn
  have hki : (k : Int) < (l.length : Int) := by omega
  obtain ⟨iog, h0_, h1_, h2_, h3_⟩ := info_parts info_og
  have HIO := Lib.hid (And.intro h0_ (And.intro h1_ (And.intro h2_ h3_)))
  clear h0_ h1_ h2_ h3_
  obtain ⟨ikw, h0_, h1_, h2_, h3_⟩ := info_parts info_kw
  have HIK := Lib.hid (And.intro h0_ (And.intro h1_ (And.intro h2_ h3_)))
  clear h0_ h1_ h2_ h3_
  obtain ⟨icm, h0_, h1_, h2_, h3_⟩ := info_parts info_cm
  have HIC := Lib.hid (And.intro h0_ (And.intro h1_ (And.intro h2_ h3_)))
  clear h0_ h1_ h2_ h3_
  obtain ⟨iin, h0_, h1_, h2_, h3_⟩ := info_parts info_in
  have HII := Lib.hid (And.intro h0_ (And.intro h1_ (And.intro h2_ h3_)))
  clear h0_ h1_ h2_ h3_
  go_enter Tryz.func14, Tryz.ntmps14
  obtain ⟨q0, q1, q2⟩ := HKR.out k x HX.out w (Below.refl _ _)
  have ql := lt_of_cell q0
  go_wp2_with fail
  clear q0 q1 q2 ql
  have HW0 := Lib.hid (W1Inv.zero l need ii cl w w (Below.refl _ _))
  go_loopw [14, 15, 16, 18, 19, 20, 21, 22] (fun u14 u15 u16 u18 _ _ _ _ wr => ∃ (j : Nat) (os : List Og) (ks : List Kw), j ≤ l.length ∧ u18 = .int .i64 j ∧ W1Inv l need ii cl w wr j u14 u15 u16 os ks) (fun _ _ _ u18 _ _ _ _ _ => l.length - (intOf u18).toNat)
  case atStart => exact ⟨0, [], [], Nat.zero_le _, rfl, HW0.out⟩
  case round =>
  obtain ⟨j, os, ks, hj, rfl, hinv⟩ := hrel
  obtain ⟨w8, hw8⟩ : ∃ W, W = wr := ⟨wr, rfl⟩
  subst hw8
  have HV := Lib.hid hinv
  clear hinv
  have HB8 := Lib.hid HV.out.r.b
  by_cases hlt : j < l.length
  case neg =>
    obtain rfl : j = l.length := by omega
    have HB8r := HB8
    clear hlt
    obtain ⟨C1, c1, rfl, hC1⟩ : ∃ C c1, u14 = .slice (some ⟨C, 0, none⟩) l.length c1 ∧ (w.heap.size ≤ C ∧ Arw w8 29 2 C l.length (((l.take l.length).map (cmK l.length need)).flatMap cmC)) := by
      obtain ⟨g, cap, e, h2, -, -, h5⟩ := Arw.of_own HV.out.r.rc h1
      exact ⟨g, cap, e, h2, h5⟩
    obtain ⟨C2, c2, rfl, hC2⟩ : ∃ C c1, u15 = .slice (some ⟨C, 0, none⟩) l.length c1 ∧ (w.heap.size ≤ C ∧ Arw w8 32 4 C l.length (os.flatMap ogC)) := by
      obtain ⟨g, cap, e, h2, -, -, h5⟩ := Arw.of_own HV.out.r.ro h1
      exact ⟨g, cap, e, h2, h5⟩
    obtain ⟨C3, c3, rfl, hC3⟩ : ∃ C c1, u16 = .slice (some ⟨C, 0, none⟩) l.length c1 ∧ (w.heap.size ≤ C ∧ Arw w8 33 1 C l.length (ks.flatMap kwC)) := by
      obtain ⟨g, cap, e, h2, -, -, h5⟩ := Arw.of_own HV.out.r.rk h1
      exact ⟨g, cap, e, h2, h5⟩
    rw [List.take_length] at hC1
    have HC1 := Lib.hid hC1
    have HC2 := Lib.hid hC2
    have HC3 := Lib.hid hC3
    have HHON : Hid (HonOk l need.toNat ii l.length cl os ks) := Lib.hid HV.out.h
    have HM8 := Lib.hid HV.out.m
    clear HV hC1 hC2 hC3
    obtain ⟨v0, hv0, hv00, hv07, -, hiin, -⟩ := okK_seed (List.all_eq_true.1 HALL.out x (List.mem_of_getElem? HX.out))
    rw [Int.toNat_natCast] at hv0 hiin
    rw [HXN.out] at hiin
    obtain ⟨nd, rfl, hdv⟩ := okK_num (List.all_eq_true.1 HALL.out x (List.mem_of_getElem? HX.out))
    have HDV := Lib.hid hdv
    have HV0 := Lib.hid hv0
    obtain ⟨c0, hc0⟩ : ∃ c0 : Nat, (c0 : Int) = sdT l ii l.length - v0 := by
      have h := sdT_nonneg HALL.out l.length (Nat.le_refl _)
      rw [Int.toNat_natCast] at h
      have h2 := h.2 k x hk HX.out
      rw [hv0, Option.getD_some] at h2
      exact ⟨(sdT l ii l.length - v0).toNat, by omega⟩
    have HC0 := Lib.hid hc0
    clear hdv hv0 hv00 hv07 hc0
    have htl := HTL.out
    go_wp2_with (at_make; refine wpList_make_full _ rfl (.tmp 82) (.tmp 82) 23 rfl w.heap.size 3 iin _ 1 Tryz.underlying23 HII.out.1 HII.out.2.1 HII.out.2.2.1 _ _ _ _ tk.length rfl rfl rfl rfl (by rw [HII.out.2.2.2]; omega) (by simp only [maxLen]; omega) HB8.out.size ?_)
    intro w9 hown hg
    rw [made1] at hown
    have HB89 : Hid (Below w8.heap.size w8 w9) := Lib.hid ((Below.refl w8.heap.size w8).grown hg (Nat.le_refl _) (fun j hj => (by cases hj)))
    have HB9 := Lib.hid (below_trans HB8.out HB89.out)
    have HW9 : Hid (Arw w9 3 1 w8.heap.size tk.length ((winsK tk (c0 : Int) 0).map (Value.int .i64))) := Lib.hid (by
      rw [winsK_0]
      obtain ⟨g, cap, e, -, -, -, h5⟩ := Arw.of_own hown (by have := (listB_of HLB.out).1.1; omega)
      injection e with e _ _
      injection e with e
      injection e with e _ _
      rw [e]
      exact h5)
    clear hown hg
    obtain ⟨q0, q1, q2⟩ := HKR.out k x HX.out w9 HB9.out
    have ql := lt_of_cell q0
    obtain ⟨wz, hwz⟩ : ∃ W, w9.alloc (.cells #[.slice x.SA n x.sc, .string x.salt, .slice x.RA x.random.length x.rc] 27) = W := ⟨_, rfl⟩
    have HB9z : Hid (Below w9.heap.size w9 wz) := Lib.hid (by rw [← hwz]; exact below_alloc (Below.refl _ _) _)
    have HKz : Hid (Blk wz w9.heap.size 27 #[.slice x.SA n x.sc, .string x.salt, .slice x.RA x.random.length x.rc]) := Lib.hid (by rw [← hwz]; exact Blk.new w9 _ _ _ rfl)
    have hszz : wz.heap.size = w9.heap.size + 1 := by rw [← hwz]; simp
    have HSZ := Lib.hid hszz
    have HBz := Lib.hid (below_trans HB9.out HB9z.out)
    have HWZ := Lib.hid hwz
    have HIX := Lib.hid (HIN.out x (List.mem_of_getElem? HX.out))
    have hxs : Hid (∀ W, Below w.heap.size w W → Rd W 1 x.SA n (x.seeds.map (Value.int .i64))) := Lib.hid (fun W hW => by have := (HIX.out W hW).s; unfold Ints at this; rw [HXN.out] at this; exact this)
    clear hwz hszz
    have HOZ : Hid ((wz.alloc (.cells #[] 3)).ownsRow wz.heap.size 3 1 (.slice (some ⟨w9.heap.size + 1, 0, none⟩) 0 0) 0 []) := Lib.hid (by rw [← HSZ.out]; exact own_zero wz _ _)
    have HRX : Hid (Rd (wz.alloc (.cells #[] 3)) 1 x.SA n (x.seeds.map (Value.int .i64))) := Lib.hid (hxs.out _ (below_alloc HBz.out _))
    have HBE : Hid (wz.heap.size ≤ (wz.alloc (.cells #[] 3)).heap.size) := Lib.hid (by simp)
    have hiinx := hiin
    go_wp2_with (at_builtin; rw [HWZ.out]; refine wpList_app _ rfl (.tmp 88) (.tmp 93) 23 23 rfl wz.heap.size 3 3 iin _ 1 8 Tryz.underlying23 Tryz.underlying23 HII.out.1 HII.out.2.1 HII.out.2.2.1 HII.out.2.2.2 rfl (by omega) (.slice (some ⟨w9.heap.size + 1, 0, none⟩) 0 0) 0 [] rfl HOZ.out x.SA n x.sc (x.seeds.map (Value.int .i64)) rfl HRX.out (one_in x.seeds) (by simp only [maxLen]; omega) (by omega) HBE.out ?_)
    clear q0 q1 q2 ql
    intro v10 w10 hown hg
    try rw [Nat.zero_add] at hown
    try rw [List.nil_append] at hown
    have hg2 : (wz.alloc (.cells #[] 3)).grownBy w10 (some wz.heap.size) := by rw [HSZ.out]; exact hg
    have HBz10 := Lib.hid (below_zero hg2)
    clear hg2
    have HB10 := Lib.hid (below_trans HBz.out HBz10.out)
    obtain ⟨gS, cS, rfl, hgS, hcS, hcS', harr⟩ := Arw.of_own hown (by omega)
    have HS10 := Lib.hid harr
    have HGS : Hid (wz.heap.size ≤ gS ∧ n ≤ cS ∧ cS ≤ maxLen) := Lib.hid ⟨hgS, hcS, hcS'⟩
    clear hown hg hgS hcS hcS' harr
    have HK10 : Hid (Blk w10 w9.heap.size 27 #[.slice x.SA n x.sc, .string x.salt, .slice x.RA x.random.length x.rc]) := Lib.hid ((HBz10.out.block _ HKz.out.lt).trans HKz.out)
    have a0 := HK10.out.of_cell (i := 0) rfl
    have al := HK10.out.lt
    have af := HK10.out.frozen 0
    go_wp2_with fail
    clear a0 al af
    obtain ⟨w11, hw11⟩ : ∃ W, w10.setCell ⟨w9.heap.size, 0, none⟩ (.slice (some ⟨gS, 0, none⟩) n cS) = W := ⟨_, rfl⟩
    rw [hw11]
    have HB810 : Hid (Below w8.heap.size w8 w10) := Lib.hid (below_trans HB89.out (below_trans HB9z.out HBz10.out))
    have HW211 : Hid (W2 w.heap.size w w11 C1 C2 C3 w9.heap.size gS w8.heap.size #[.slice (some ⟨gS, 0, none⟩) n cS, .string x.salt, .slice x.RA x.random.length x.rc] (l.map (cmK l.length nd)) os ks x.seeds (winsK tk (c0 : Int) 0)) := Lib.hid (by
      have hle : w.heap.size ≤ w9.heap.size := HB9.out.size
      have hne : ∀ {g : Nat} {e size m : Nat} {xs : List Value}, Arw w10 e size g m xs → e ≠ 27 → g ≠ w9.heap.size := fun h he e' => h.ofT HK10.out he e'.symm
      have hm := HM8.out.below HB810.out
      have hc := HC1.out.2.below HB810.out
      have ho := HC2.out.2.below HB810.out
      have hk' := HC3.out.2.below HB810.out
      have hw' := HW9.out.below (below_trans HB9z.out HBz10.out)
      have hs := HS10.out
      rw [← hw11]
      refine ⟨HB10.out.setCell (p := ⟨w9.heap.size, 0, none⟩) hle _, ?_, ?_, ?_, HK10.out.set 0 _, ?_, ?_, hm.keep (set_typed HK10.out (by decide) _ _) (set_typed HK10.out (by decide) _ _), ?_, HC1.out.1, HC2.out.1, HC3.out.1, ?_, HB8.out.size, ?_⟩
      · rw [List.length_map]; exact hc.far (hne hc (by decide)) _
      · rw [HHON.out.ol]; exact ho.far (hne ho (by decide)) _
      · rw [HHON.out.kl]; exact hk'.far (hne hk' (by decide)) _
      · rw [HXN.out]; exact hs.far (hne hs (by decide)) _
      · rw [winsK_len]; exact hw'.far (hne hw' (by decide)) _
      · have h1' := HGS.out.1
        have h2' := HW9.out.lt
        have h3' := HB9z.out.size
        omega
      · have := HGS.out.1
        have := HBz.out.size
        omega
      · exact Nat.le_trans HB10.out.size ((Below.refl w.heap.size w10).setCell (p := ⟨w9.heap.size, 0, none⟩) hle _).size)
    clear hw11 HB810 HW9 HS10 HK10 HKz HWZ
    generalize w9.heap.size = gK at *
    generalize w8.heap.size = gW at *
    have hcSm : cS ≤ 9223372036854775807 := by have := HGS.out.2.2; unfold maxLen at this; omega
    have HHL : Hid (os.length = l.length ∧ ks.length = l.length) := Lib.hid ⟨HHON.out.ol, HHON.out.kl⟩
    go_loopw [25, 26, 27, 28, 29, 30, 31, 32, 33, 34] (fun u25 _ _ _ _ _ _ _ _ _ wr => ∃ (s : Nat) (cs : List (ByteArray × ByteArray)) (ot : List Og) (kt : List Kw) (sl : List Int), s ≤ 720 ∧ u25 = .int .i64 s ∧ W2 w.heap.size w wr C1 C2 C3 gK gS gW #[.slice (some ⟨gS, 0, none⟩) n cS, .string x.salt, .slice x.RA x.random.length x.rc] cs ot kt sl (winsK tk (c0 : Int) s) ∧ (∃ y, cs = (l.map (cmK l.length nd)).set k y) ∧ (∃ y, ot = os.set k y) ∧ (∃ y, kt = ks.set k y) ∧ ∃ y, sl = x.seeds.set ii y) (fun u25 _ _ _ _ _ _ _ _ _ _ => 720 - (intOf u25).toNat)
    case atStart =>
      obtain ⟨o0, ho0⟩ := get_some os k (by rw [HHL.out.1]; exact hk)
      obtain ⟨a0, ha0⟩ := get_some ks k (by rw [HHL.out.2]; exact hk)
      exact ⟨0, _, _, _, _, Nat.zero_le _, rfl, HW211.out, ⟨cmK l.length nd x, (set_self_ _ _ _ (by rw [List.getElem?_map, HX.out]; rfl)).symm⟩, ⟨o0, (set_self_ _ _ _ ho0).symm⟩, ⟨a0, (set_self_ _ _ _ ha0).symm⟩, ⟨v0, (set_self_ _ _ _ HV0.out).symm⟩⟩
    case round =>
    obtain ⟨s, cs, ot, kt, sl, hs, rfl, hinv, ⟨y1, rfl⟩, ⟨y2, rfl⟩, ⟨y3, rfl⟩, ⟨y4, rfl⟩⟩ := hrel
    obtain ⟨wB, hwB⟩ : ∃ W, W = wr := ⟨wr, rfl⟩
    subst hwB
    have HV := Lib.hid hinv
    clear hinv
    by_cases hst : s < 720
    case neg =>
      obtain rfl : s = 720 := by omega
      have hfin : Ints wB (some ⟨gW, 0, none⟩) tk := by
        have h := HV.out.ws
        rw [winsK_all HLB.out] at h
        exact h.rd
      have HFIN := Lib.hid (And.intro hfin HV.out.b)
      clear hfin
      go_wp2
      go_ret2
      exact ⟨some ⟨gW, 0, none⟩, tk.length, rfl, HFIN.out.1, HFIN.out.2⟩
    case pos =>
    obtain ⟨wA, hwA⟩ : ∃ W, wB.setCell ⟨gS, ii, none⟩ (.int .i64 (s : Int)) = W := ⟨_, rfl⟩
    have hva := HV.out.setS ii (s : Int)
    rw [List.set_set, hwA] at hva
    have HVA := Lib.hid hva
    clear hva
    have a0 := HV.out.kp.of_cell (i := 0) rfl
    have al := HV.out.kp.lt
    obtain ⟨v1, hv1⟩ := get_some ((x.seeds.set ii y4).map (Value.int .i64)) ii (by rw [List.length_map, List.length_set, HXN.out]; exact hiin)
    have f0 := HV.out.s.get hv1
    have e0 := HV.out.s.frozen ii
    have fl := HV.out.s.lt
    have b0 := HVA.out.kp.of_cell (i := 0) rfl
    have b1 := HVA.out.kp.of_cell (i := 1) rfl
    have b2 := HVA.out.kp.of_cell (i := 2) rfl
    have bl := HVA.out.kp.lt
    rw [← hwA] at b0 b1 b2 bl
    have hcall : Calls Tryz.prog 12 #[.agg #[.slice (some ⟨gS, 0, none⟩) n cS, .string x.salt, .slice x.RA x.random.length x.rc], .int .i64 nd, .int .i64 l.length, .int .i64 ii] wA (W11Post (⟨some ⟨gS, 0, none⟩, cS, x.seeds.set ii (s : Int), x.salt, x.RA, x.rc, x.random⟩ : Kr) nd ii l.length wA) := by
      have hx' := HIX.out wA HVA.out.b
      have hs := HVA.out.s.rd
      have h := w11open_any (⟨some ⟨gS, 0, none⟩, cS, x.seeds.set ii (s : Int), x.salt, x.RA, x.rc, x.random⟩ : Kr) nd ii l.length wA ⟨hs, hx'.r, by show (x.seeds.set ii (s : Int)).length ≤ _; rw [List.length_set]; exact hx'.sl, hx'.rl, by show (x.seeds.set ii (s : Int)).length ≤ cS; rw [List.length_set, HXN.out]; exact HGS.out.2.1, hx'.rc, hx'.salt, hcSm, hx'.rcm⟩ h1 (by omega) (HT.out wA HVA.out.b)
      have e : (x.seeds.set ii (s : Int)).length = n := by rw [List.length_set]; exact HXN.out
      rw [e] at h
      exact h
    have HCALL := Lib.hid hcall
    have HOK : Hid (okK l.length nd (ii : Int) (⟨some ⟨gS, 0, none⟩, cS, x.seeds.set ii (s : Int), x.salt, x.RA, x.rc, x.random⟩ : Kr) = true) := Lib.hid (okK_seedset (List.all_eq_true.1 HALL.out x (List.mem_of_getElem? HX.out)) (by omega) (by omega) _ _)
    have HWA := Lib.hid hwA
    clear hcall hv1 hwA
    obtain ⟨cb, hcb⟩ : ∃ b, cl k = b := ⟨_, rfl⟩
    have hcb' : (bits BinOp.and IntKind.u8 ((closed : Int) / 2 ^ k) 1 == 1) = cb := by rw [← hcb, HCL.out]
    have HCB := Lib.hid hcb
    clear hcb
    go_wp2_with fail
    clear a0 al f0 e0 fl b0 b1 b2 bl
    rw [HWA.out]
    refine HCALL.out.mono ?_
    rintro e w13 ⟨hb, cm, o, KA, kn, kc, rfl, hg⟩
    obtain ⟨hcm, ho, hpo, hoc, rfl, ls, hkt, hks⟩ := hg HOK.out
    simp only [Int.toNat_natCast] at ho hks
    rw [HOK.out]
    have HB13 := Lib.hid hb
    have HG := Lib.hid (And.intro hcm (And.intro ho (And.intro hpo (And.intro hoc (And.intro hkt hks)))))
    have hlsl : ls.length = l.length := hks.1
    have HLS := Lib.hid hlsl
    clear hb hg hcm ho hpo hoc hkt hks hlsl
    cases cb
    case false =>
      obtain ⟨w14, hw14⟩ : ∃ W, (w13.alloc (.cells #[.string cm.1, .string cm.2] 29)).alloc (.cells #[.int .i64 o.ix, .int .i64 o.v, .string o.salt, .slice o.A o.p.length o.c] 32) = W := ⟨_, rfl⟩
      have HB14 : Hid (Below w13.heap.size w13 w14) := Lib.hid (by rw [← hw14]; exact below_alloc (below_alloc (Below.refl _ _) _) _)
      have HC14 : Hid (Blk w14 w13.heap.size 29 #[.string cm.1, .string cm.2] ∧ Blk w14 (w13.heap.size + 1) 32 #[.int .i64 o.ix, .int .i64 o.v, .string o.salt, .slice o.A o.p.length o.c]) := Lib.hid (by
        rw [← hw14]
        exact ⟨(Blk.new w13 _ _ _ rfl).alloc _, Blk.new _ _ _ _ (by simp)⟩)
      have HW14 := Lib.hid hw14
      clear hw14
      have hv13 := HVA.out.below HB13.out
      have hlt1 := hv13.c.lt
      have hlt2 := hv13.o.lt
      have hlt3 := hv13.k.lt
      have HV14 := Lib.hid (hv13.below HB14.out)
      clear hv13
      have HPO : Hid (PathIn w14 o.A o.p ∧ o.p.length ≤ o.c ∧ KwT w14 ⟨KA, kc, ls⟩) := Lib.hid ⟨HG.out.2.2.1.below HB14.out, HG.out.2.2.2.1, HG.out.2.2.2.2.1.keep (fun b cs hcs => HB14.out.block b (Array.getElem?_eq_some_iff.1 hcs).1) (fun b cs hcs => HB14.out.block b (Array.getElem?_eq_some_iff.1 hcs).1)⟩
      have HOO : Hid (if cl k then o = zOgT else ∃ A c, o = ogOf (⟨some ⟨gS, 0, none⟩, cS, x.seeds.set ii (s : Int), x.salt, x.RA, x.rc, x.random⟩ : Kr) ii A c) := Lib.hid (by rw [HCB.out]; exact HG.out.2.1)
      have hk1 : k < ((l.map (cmK l.length nd)).set k y1).length := by rw [List.length_set, List.length_map]; exact hk
      have hk2 : k < (os.set k y2).length := by rw [List.length_set, HHL.out.1]; exact hk
      have hk3 : k < (ks.set k y3).length := by rw [List.length_set, HHL.out.2]; exact hk
      have hv15 := HV14.out.drew
      have th1 := hv15.c.there (k * 2) 2 (by rw [flatM_length cmC 2 cmC_len]; omega)
      obtain ⟨w16, hw16⟩ : ∃ W, (World.drew w14).setCells C1 (k * 2) (cmC cm) = W := ⟨_, rfl⟩
      have hv16 := hv15.setC k hk1 cm
      rw [List.set_set, hw16] at hv16
      obtain ⟨cb1, hcb1⟩ := hv15.c.blk
      have hp16 : PathIn w16 o.A o.p := by
        rw [← hw16]
        exact PathIn.keep (w := World.drew w14) HPO.out.1 (fun b cs _ hcs => setCs_typed hcb1 (by decide) _ _ _ cs hcs)
      have hkt16 : KwT w16 ⟨KA, kc, ls⟩ := by
        rw [← hw16]
        exact KwT.keep (w := World.drew w14) HPO.out.2.2 (setCs_typed hcb1 (by decide) _ _) (setCs_typed hcb1 (by decide) _ _)
      have th2 := hv16.o.there (k * 4) 4 (by rw [flatM_length ogC 4 ogC_len]; omega)
      obtain ⟨w17, hw17⟩ : ∃ W, w16.setCells C2 (k * 4) (ogC o) = W := ⟨_, rfl⟩
      have hv17 := hv16.setO k hk2 o ⟨hp16, HPO.out.2.1⟩
      rw [List.set_set, hw17] at hv17
      obtain ⟨cb2, hcb2⟩ := hv16.o.blk
      have hkt17 : KwT w17 ⟨KA, kc, ls⟩ := by
        rw [← hw17]
        exact hkt16.keep (setCs_typed hcb2 (by decide) _ _) (setCs_typed hcb2 (by decide) _ _)
      obtain ⟨w18, hw18⟩ : ∃ W, w17.setCell ⟨C3, k, none⟩ (.slice KA l.length kc) = W := ⟨_, rfl⟩
      have hv18 := hv17.setK k hk3 ⟨KA, kc, ls⟩ hkt17
      simp only [HLS.out] at hv18
      rw [List.set_set, hw18] at hv18
      have hs16 : Blk w16 w13.heap.size 29 #[.string cm.1, .string cm.2] ∧ Blk w16 (w13.heap.size + 1) 32 #[.int .i64 o.ix, .int .i64 o.v, .string o.salt, .slice o.A o.p.length o.c] := by
        rw [← hw16]
        exact ⟨Blk.farCs (w := World.drew w14) HC14.out.1 (by omega) _ _, Blk.farCs (w := World.drew w14) HC14.out.2 (by omega) _ _⟩
      have hs17 : Blk w17 w13.heap.size 29 #[.string cm.1, .string cm.2] ∧ Blk w17 (w13.heap.size + 1) 32 #[.int .i64 o.ix, .int .i64 o.v, .string o.salt, .slice o.A o.p.length o.c] := by
        rw [← hw17]
        exact ⟨hs16.1.farCs (by omega) _ _, hs16.2.farCs (by omega) _ _⟩
      have hs18 : Blk w18 w13.heap.size 29 #[.string cm.1, .string cm.2] ∧ Blk w18 (w13.heap.size + 1) 32 #[.int .i64 o.ix, .int .i64 o.v, .string o.salt, .slice o.A o.p.length o.c] := by
        rw [← hw18]
        exact ⟨hs17.1.far (p := ⟨C3, k, none⟩) (by show _ ≠ C3; omega) _, hs17.2.far (p := ⟨C3, k, none⟩) (by show _ ≠ C3; omega) _⟩
      have HS := Lib.hid (And.intro hs16 (And.intro hs17 hs18))
      have HV18 := Lib.hid hv18
      have HTH1 := Lib.hid th1
      have HTH2 := Lib.hid th2
      have HW16 := Lib.hid hw16
      have HW17 := Lib.hid hw17
      have HW18 := Lib.hid hw18
      obtain ⟨k0, hk0⟩ := get_some (List.flatMap kwC (ks.set k y3)) k (by rw [flatM_length kwC 1 kwC_len]; omega)
      have HF17 := Lib.hid (And.intro (hv17.k.get hk0) (And.intro (hv17.k.frozen k) hv17.k.lt))
      clear hv15 th1 hw16 hv16 cb1 hcb1 hp16 hkt16 th2 hw17 hv17 cb2 hcb2 hkt17 hw18 hv18 hk1 hk2 hk3 hk0 hs16 hs17 hs18 hlt1 hlt2 hlt3
      go_wp2_with fail
      rw [HW14.out]
      refine wp_region_held_drew (S := fun W => Blk W w13.heap.size 29 #[.string cm.1, .string cm.2] ∧ Blk W (w13.heap.size + 1) 32 #[.int .i64 o.ix, .int .i64 o.v, .string o.salt, .slice o.A o.p.length o.c]) (by kernel_rfl) (HC14.out) (fun hS0 => ?_)
      refine wpAnyH_take (i := 0) (v := ?_) rfl (by kernel_rfl) (by kernel_rfl) (by kernel_rfl) (fun _ _ _ h => h) (Or.inl ⟨by kernel_rfl, ?hy⟩) hS0 ?rest
      case hy => (intro W hSw; clear hSw; go_simp; with_reducible rfl)
      case rest =>
      refine wpAnyH_take (i := 1) (v := ?_) rfl (by kernel_rfl) (by kernel_rfl) (by kernel_rfl) (fun _ _ _ h => h) (Or.inl ⟨by kernel_rfl, ?hy⟩) hS0 ?rest
      case hy => (intro W hSw; clear hSw; go_simp; with_reducible rfl)
      case rest =>
      refine wpAnyH_take (i := 2) (v := ?_) rfl (by kernel_rfl) (by kernel_rfl) (by kernel_rfl) (fun _ _ _ h => h) (Or.inl ⟨by kernel_rfl, ?hy⟩) hS0 ?rest
      case hy => (intro W hSw; clear hSw; go_simp; with_reducible rfl)
      case rest =>
      refine wpAnyH_take (i := 3) (v := ?_) rfl (by kernel_rfl) (by kernel_rfl) (by kernel_rfl) (fun _ _ _ h => h) (Or.inl ⟨by kernel_rfl, ?hy⟩) hS0 ?rest
      case hy => (intro W hSw; clear hSw; go_simp; with_reducible rfl)
      case rest =>
      refine wpAnyH_take (i := 4) (v := ?_) rfl (by kernel_rfl) (by kernel_rfl) (by kernel_rfl) (fun _ _ _ h => h) (Or.inl ⟨by kernel_rfl, ?hy⟩) hS0 ?rest
      case hy => (intro W hSw; clear hSw; go_simp; with_reducible rfl)
      case rest =>
      refine wpAnyH_take (i := 5) (v := ?_) rfl (by kernel_rfl) (by kernel_rfl) (by kernel_rfl) (fun _ _ _ h => h) (Or.inl ⟨by kernel_rfl, ?hy⟩) hS0 ?rest
      case hy => (intro W hSw; clear hSw; go_simp; with_reducible rfl)
      case rest =>
      try go_simp
      refine wpAnyH_take (i := 6) (v := ?_) rfl (by kernel_rfl) (by kernel_rfl) (by kernel_rfl) (fun _ _ _ h => h) (Or.inl ⟨by kernel_rfl, ?hy⟩) hS0 ?rest
      case hy => (intro W hSw; have z0 := hSw.1.of_cell (i := 0) rfl; have z1 := hSw.1.of_cell (i := 1) rfl; have zl := hSw.1.lt; clear hSw; go_simp; with_reducible rfl)
      case rest =>
      refine wpAnyH_take (i := 7) (v := ?_) rfl (by kernel_rfl) (by kernel_rfl) (by kernel_rfl) (fun _ _ _ h => h) (Or.inl ⟨by kernel_rfl, ?hy⟩) hS0 ?rest
      case hy => (intro W hSw; have z0 := hSw.2.of_cell (i := 0) rfl; have z1 := hSw.2.of_cell (i := 1) rfl; have z2 := hSw.2.of_cell (i := 2) rfl; have z3 := hSw.2.of_cell (i := 3) rfl; have zl := hSw.2.lt; clear hSw; go_simp; with_reducible rfl)
      case rest =>
      refine wpAnyH_take (i := 8) (v := ?_) rfl (by kernel_rfl) (by kernel_rfl) (by kernel_rfl) (fun _ _ _ h => h) (Or.inl ⟨by kernel_rfl, ?hy⟩) hS0 ?rest
      case hy => (intro W hSw; clear hSw; go_simp; with_reducible rfl)
      case rest =>
      refine wpAnyH_take (i := 9) (v := ?_) rfl (by kernel_rfl) (by kernel_rfl) (by kernel_rfl) (fun _ _ _ h => h) (Or.inl ⟨by kernel_rfl, ?hy⟩) hS0 ?rest
      case hy => (intro W hSw; clear hSw; go_simp; with_reducible rfl)
      case rest =>
      try go_simp
      refine wpAnyH_ready (rs := [10]) (by kernel_rfl) (by simp) ?_
      refine AllReadyH.cons rfl (fun K hK => ?_) (AllReadyH.nil)
      refine step_storeM (by kernel_rfl) 29 (.tmp 133) (.tmp 130) rfl C1 (k * 2) #[.string cm.1, .string cm.2] (by kernel_rfl) (by kernel_rfl) HTH1.out (by kernel_rfl) (by simp [Value.oneCell']) ?_
      rw [show (#[.string cm.1, .string cm.2] : Array Value).toList = cmC cm from rfl, HW16.out]
      refine hK.out _ _ HS.out.1 (fun hS1 => ?_)
      clear hK K
      refine wpAnyH_take (i := 11) (v := ?_) rfl (by kernel_rfl) (by kernel_rfl) (by kernel_rfl) (fun _ _ _ h => h) (Or.inl ⟨by kernel_rfl, ?hy⟩) hS1 ?rest
      case hy => (intro W hSw; clear hSw; go_simp; with_reducible rfl)
      case rest =>
      try go_simp
      refine wpAnyH_ready (rs := [12]) (by kernel_rfl) (by simp) ?_
      refine AllReadyH.cons rfl (fun K hK => ?_) (AllReadyH.nil)
      refine step_storeM (by kernel_rfl) 32 (.tmp 134) (.tmp 131) rfl C2 (k * 4) #[.int .i64 o.ix, .int .i64 o.v, .string o.salt, .slice o.A o.p.length o.c] (by kernel_rfl) (by kernel_rfl) HTH2.out (by kernel_rfl) (by simp [Value.oneCell']) ?_
      rw [show (#[.int .i64 o.ix, .int .i64 o.v, .string o.salt, .slice o.A o.p.length o.c] : Array Value).toList = ogC o from rfl, HW17.out]
      refine hK.out _ _ HS.out.2.1 (fun hS2 => ?_)
      clear hK K
      refine wpAnyH_take (i := 13) (v := ?_) rfl (by kernel_rfl) (by kernel_rfl) (by kernel_rfl) (fun _ _ _ h => h) (Or.inl ⟨by kernel_rfl, ?hy⟩) hS2 ?rest
      case hy => (intro W hSw; clear hSw; go_simp; with_reducible rfl)
      case rest =>
      try go_simp
      refine wpAnyH_ready (rs := [14]) (by kernel_rfl) (by simp) ?_
      refine AllReadyH.cons rfl (fun K hK => ?_) (AllReadyH.nil)
      obtain ⟨f0, e0, fl⟩ := HF17.out
      go_simp
      refine hK.out _ _ (by rw [HW18.out]; exact HS.out.2.2) (fun hS3 => ?_)
      clear hK K f0 e0 fl
      refine wpAnyH_done (by kernel_rfl) ?_ _
      obtain ⟨l', hl'⟩ : ∃ q, q = l.set k (⟨some ⟨gS, 0, none⟩, cS, x.seeds.set ii (s : Int), x.salt, x.RA, x.rc, x.random⟩ : Kr) := ⟨_, rfl⟩
      have hL : l'.length = l.length := by rw [hl']; exact List.length_set
      have hHN : HonOk l' nd ii l'.length cl (os.set k o) (ks.set k ⟨KA, kc, ls⟩) := by
        rw [hl']
        exact HonOk.set HHON.out hk _ _ _ HOO.out HG.out.2.2.2.2.2
      have hall' : l'.all (okK l'.length nd (ii : Int)) = true := by
        rw [hL, hl', List.all_eq_true]
        intro y hy
        rcases List.mem_or_eq_of_mem_set hy with h | rfl
        · exact List.all_eq_true.1 HALL.out y h
        · exact HOK.out
      have hn' : ∀ kr, kr ∈ l' → kr.seeds.length = n := fun y hy => by
        rw [hl'] at hy
        rcases List.mem_or_eq_of_mem_set hy with h | rfl
        · exact HNN.out y h
        · show (x.seeds.set ii (s : Int)).length = n
          rw [List.length_set]; exact HXN.out
      obtain ⟨WW, hka⟩ := hon_draw (need := (nd : Int)) (i := (ii : Int)) hHN hall' n hn'
      have hsd : sdT l' ii l'.length = (c0 : Int) + s := by
        rw [hL, hl', sdT_set HX.out, if_pos hk, HV0.out]
        simp only [List.getElem?_set_self (show ii < x.seeds.length by rw [HXN.out]; exact hiin), Option.getD_some]
        have := HC0.out
        omega
      have hcs : (l.map (cmK l.length nd)).set k cm = l'.map (cmK l'.length nd) := by
        rw [hL, hl', List.map_set, HG.out.1]
      have hfit := HV18.out.fit (i := (ii : Int)) (cl := cl) (l := l') (need := (nd : Int)) hcs hHN hall' (by omega)
      have hD := kdraw_ok (some ⟨C1, 0, none⟩) c1 (l'.map (cmK l'.length nd)) n ii (some ⟨C2, 0, none⟩) c2 (os.set k o) (some ⟨C3, 0, none⟩) c3 (ks.set k ⟨KA, kc, ls⟩) nd w18 hfit (by rw [List.length_map]; omega) (by rw [List.length_map]; omega) (by omega) hiin HDV.out.one (by rw [List.length_map, hL]; exact HDV.out.le) (by rw [List.length_map]; exact hHN.ol) (by rw [List.length_map]; exact hHN.kl) (HT.out w18 HV18.out.b)
      rw [hka, List.length_map, hHN.ol, hHN.kl, hL, Int.toNat_natCast, ← hL, hsd, hL] at hD
      dsimp only at hD
      have HD := Lib.hid hD
      clear hl' hL hHN hall' hn' hka hsd hcs hfit hD
      obtain ⟨d, hd⟩ : ∃ d, ((c0 : Int) + s) % 720 = d := ⟨_, rfl⟩
      rw [hd] at HD
      have hd0 : 0 ≤ d := by omega
      have hd1 : d ≤ 719 := by omega
      have HDD := Lib.hid hd
      clear hd
      go_wp2_with fail
      rw [HW18.out]
      refine HD.out.mono ?_
      rintro e w19 ⟨v, rfl, hown, hb⟩
      obtain ⟨A19, c19, rfl, -, -, -⟩ := Rd.of_own hown
      have HV19 := Lib.hid (HV18.out.below hb)
      clear hown hb HD
      have hW := lwinner_any TA tc tk d w19 (HTK.out w19 HV19.out.b) (by omega)
      rw [show wnV tk d = ((wnr tk d : Nat) : Int) by rw [wnV, if_pos ⟨HLB.out, hd0, hd1⟩], show wnE tk d = 0 by rw [wnE, if_pos ⟨HLB.out, hd0, hd1⟩]] at hW
      have hpl := wnr_lt HLB.out hd1
      obtain ⟨p, hp⟩ : ∃ p, wnr tk d = p := ⟨_, rfl⟩
      rw [hp] at hW hpl
      have HWN := Lib.hid hW
      have HP := Lib.hid hp
      clear hW hp
      go_wp2_with fail
      refine HWN.out.mono ?_
      rintro e w20 ⟨rfl, hb⟩
      have HV20 := Lib.hid (HV19.out.below hb)
      clear hb HWN
      obtain ⟨vp, hvp⟩ := get_some (winsK tk (c0 : Int) s) p (by rw [winsK_len]; exact hpl)
      have hvb := winsK_le hvp
      have gg := HV20.out.ws.get (j := p) (u := .int .i64 vp) (by rw [List.getElem?_map, hvp]; rfl)
      have ge := HV20.out.ws.frozen p
      have gl := HV20.out.ws.lt
      have hv21 := HV20.out.setW p (vp + 1)
      have hws : (winsK tk (c0 : Int) s).set p (vp + 1) = winsK tk (c0 : Int) (s + 1) := by
        have h := winsK_set tk (c0 : Int) s vp (by rw [HDD.out, HP.out]; exact hvp)
        rw [HDD.out, HP.out] at h
        exact h
      rw [hws] at hv21
      have HV21 := Lib.hid hv21
      clear hvp hv21 hws
      have hpz : (p : Int) < (tk.length : Int) := by omega
      go_wp2
      go_roundw
      case rel => exact ⟨s + 1, _, _, _, _, by omega, by go_num, HV21.out, ⟨cm, rfl⟩, ⟨_, rfl⟩, ⟨_, rfl⟩, ⟨_, rfl⟩⟩
      case measure => first | (simp [intOf]; done) | (simp [intOf]; omega)
    case true =>
      obtain ⟨w14, hw14⟩ : ∃ W, (w13.alloc (.cells #[.string cm.1, .string cm.2] 29)).alloc (.cells #[.int .i64 0, .int .i64 0, .string ⟨#[]⟩, .slice none 0 0] 32) = W := ⟨_, rfl⟩
      have HB14 : Hid (Below w13.heap.size w13 w14) := Lib.hid (by rw [← hw14]; exact below_alloc (below_alloc (Below.refl _ _) _) _)
      have HC14 : Hid (Blk w14 w13.heap.size 29 #[.string cm.1, .string cm.2] ∧ Blk w14 (w13.heap.size + 1) 32 #[.int .i64 0, .int .i64 0, .string ⟨#[]⟩, .slice none 0 0]) := Lib.hid (by
        rw [← hw14]
        exact ⟨(Blk.new w13 _ _ _ rfl).alloc _, Blk.new _ _ _ _ (by simp)⟩)
      have HW14 := Lib.hid hw14
      clear hw14
      have hv13 := HVA.out.below HB13.out
      have hlt1 := hv13.c.lt
      have hlt2 := hv13.o.lt
      have hlt3 := hv13.k.lt
      have HV14 := Lib.hid (hv13.below HB14.out)
      clear hv13
      have HPO : Hid (PathIn w14 zOgT.A zOgT.p ∧ zOgT.p.length ≤ zOgT.c ∧ KwT w14 ⟨KA, kc, ls⟩) := Lib.hid ⟨⟨⟨rfl, fun h => absurd h (by decide)⟩, fun a ha => (by cases ha)⟩, Nat.zero_le _, HG.out.2.2.2.2.1.keep (fun b cs hcs => HB14.out.block b (Array.getElem?_eq_some_iff.1 hcs).1) (fun b cs hcs => HB14.out.block b (Array.getElem?_eq_some_iff.1 hcs).1)⟩
      have HOO : Hid (if cl k then zOgT = zOgT else ∃ A c, zOgT = ogOf (⟨some ⟨gS, 0, none⟩, cS, x.seeds.set ii (s : Int), x.salt, x.RA, x.rc, x.random⟩ : Kr) ii A c) := Lib.hid (by rw [HCB.out]; exact rfl)
      have hk1 : k < ((l.map (cmK l.length nd)).set k y1).length := by rw [List.length_set, List.length_map]; exact hk
      have hk2 : k < (os.set k y2).length := by rw [List.length_set, HHL.out.1]; exact hk
      have hk3 : k < (ks.set k y3).length := by rw [List.length_set, HHL.out.2]; exact hk
      have hv15 := HV14.out.drew
      have th1 := hv15.c.there (k * 2) 2 (by rw [flatM_length cmC 2 cmC_len]; omega)
      obtain ⟨w16, hw16⟩ : ∃ W, (World.drew w14).setCells C1 (k * 2) (cmC cm) = W := ⟨_, rfl⟩
      have hv16 := hv15.setC k hk1 cm
      rw [List.set_set, hw16] at hv16
      obtain ⟨cb1, hcb1⟩ := hv15.c.blk
      have hp16 : PathIn w16 zOgT.A zOgT.p := by
        rw [← hw16]
        exact PathIn.keep (w := World.drew w14) HPO.out.1 (fun b cs _ hcs => setCs_typed hcb1 (by decide) _ _ _ cs hcs)
      have hkt16 : KwT w16 ⟨KA, kc, ls⟩ := by
        rw [← hw16]
        exact KwT.keep (w := World.drew w14) HPO.out.2.2 (setCs_typed hcb1 (by decide) _ _) (setCs_typed hcb1 (by decide) _ _)
      have th2 := hv16.o.there (k * 4) 4 (by rw [flatM_length ogC 4 ogC_len]; omega)
      obtain ⟨w17, hw17⟩ : ∃ W, w16.setCells C2 (k * 4) (ogC zOgT) = W := ⟨_, rfl⟩
      have hv17 := hv16.setO k hk2 zOgT ⟨hp16, HPO.out.2.1⟩
      rw [List.set_set, hw17] at hv17
      obtain ⟨cb2, hcb2⟩ := hv16.o.blk
      have hkt17 : KwT w17 ⟨KA, kc, ls⟩ := by
        rw [← hw17]
        exact hkt16.keep (setCs_typed hcb2 (by decide) _ _) (setCs_typed hcb2 (by decide) _ _)
      obtain ⟨w18, hw18⟩ : ∃ W, w17.setCell ⟨C3, k, none⟩ (.slice KA l.length kc) = W := ⟨_, rfl⟩
      have hv18 := hv17.setK k hk3 ⟨KA, kc, ls⟩ hkt17
      simp only [HLS.out] at hv18
      rw [List.set_set, hw18] at hv18
      have hs16 : Blk w16 w13.heap.size 29 #[.string cm.1, .string cm.2] ∧ Blk w16 (w13.heap.size + 1) 32 #[.int .i64 0, .int .i64 0, .string ⟨#[]⟩, .slice none 0 0] := by
        rw [← hw16]
        exact ⟨Blk.farCs (w := World.drew w14) HC14.out.1 (by omega) _ _, Blk.farCs (w := World.drew w14) HC14.out.2 (by omega) _ _⟩
      have hs17 : Blk w17 w13.heap.size 29 #[.string cm.1, .string cm.2] ∧ Blk w17 (w13.heap.size + 1) 32 #[.int .i64 0, .int .i64 0, .string ⟨#[]⟩, .slice none 0 0] := by
        rw [← hw17]
        exact ⟨hs16.1.farCs (by omega) _ _, hs16.2.farCs (by omega) _ _⟩
      have hs18 : Blk w18 w13.heap.size 29 #[.string cm.1, .string cm.2] ∧ Blk w18 (w13.heap.size + 1) 32 #[.int .i64 0, .int .i64 0, .string ⟨#[]⟩, .slice none 0 0] := by
        rw [← hw18]
        exact ⟨hs17.1.far (p := ⟨C3, k, none⟩) (by show _ ≠ C3; omega) _, hs17.2.far (p := ⟨C3, k, none⟩) (by show _ ≠ C3; omega) _⟩
      have HS := Lib.hid (And.intro hs16 (And.intro hs17 hs18))
      have HV18 := Lib.hid hv18
      have HTH1 := Lib.hid th1
      have HTH2 := Lib.hid th2
      have HW16 := Lib.hid hw16
      have HW17 := Lib.hid hw17
      have HW18 := Lib.hid hw18
      obtain ⟨k0, hk0⟩ := get_some (List.flatMap kwC (ks.set k y3)) k (by rw [flatM_length kwC 1 kwC_len]; omega)
      have HF17 := Lib.hid (And.intro (hv17.k.get hk0) (And.intro (hv17.k.frozen k) hv17.k.lt))
      clear hv15 th1 hw16 hv16 cb1 hcb1 hp16 hkt16 th2 hw17 hv17 cb2 hcb2 hkt17 hw18 hv18 hk1 hk2 hk3 hk0 hs16 hs17 hs18 hlt1 hlt2 hlt3
      go_wp2_with fail
      rw [HW14.out]
      refine wp_region_held_drew (S := fun W => Blk W w13.heap.size 29 #[.string cm.1, .string cm.2] ∧ Blk W (w13.heap.size + 1) 32 #[.int .i64 0, .int .i64 0, .string ⟨#[]⟩, .slice none 0 0]) (by kernel_rfl) (HC14.out) (fun hS0 => ?_)
      refine wpAnyH_take (i := 0) (v := ?_) rfl (by kernel_rfl) (by kernel_rfl) (by kernel_rfl) (fun _ _ _ h => h) (Or.inl ⟨by kernel_rfl, ?hy⟩) hS0 ?rest
      case hy => (intro W hSw; clear hSw; go_simp; with_reducible rfl)
      case rest =>
      refine wpAnyH_take (i := 1) (v := ?_) rfl (by kernel_rfl) (by kernel_rfl) (by kernel_rfl) (fun _ _ _ h => h) (Or.inl ⟨by kernel_rfl, ?hy⟩) hS0 ?rest
      case hy => (intro W hSw; clear hSw; go_simp; with_reducible rfl)
      case rest =>
      refine wpAnyH_take (i := 2) (v := ?_) rfl (by kernel_rfl) (by kernel_rfl) (by kernel_rfl) (fun _ _ _ h => h) (Or.inl ⟨by kernel_rfl, ?hy⟩) hS0 ?rest
      case hy => (intro W hSw; clear hSw; go_simp; with_reducible rfl)
      case rest =>
      refine wpAnyH_take (i := 3) (v := ?_) rfl (by kernel_rfl) (by kernel_rfl) (by kernel_rfl) (fun _ _ _ h => h) (Or.inl ⟨by kernel_rfl, ?hy⟩) hS0 ?rest
      case hy => (intro W hSw; clear hSw; go_simp; with_reducible rfl)
      case rest =>
      refine wpAnyH_take (i := 4) (v := ?_) rfl (by kernel_rfl) (by kernel_rfl) (by kernel_rfl) (fun _ _ _ h => h) (Or.inl ⟨by kernel_rfl, ?hy⟩) hS0 ?rest
      case hy => (intro W hSw; clear hSw; go_simp; with_reducible rfl)
      case rest =>
      refine wpAnyH_take (i := 5) (v := ?_) rfl (by kernel_rfl) (by kernel_rfl) (by kernel_rfl) (fun _ _ _ h => h) (Or.inl ⟨by kernel_rfl, ?hy⟩) hS0 ?rest
      case hy => (intro W hSw; clear hSw; go_simp; with_reducible rfl)
      case rest =>
      try go_simp
      refine wpAnyH_take (i := 6) (v := ?_) rfl (by kernel_rfl) (by kernel_rfl) (by kernel_rfl) (fun _ _ _ h => h) (Or.inl ⟨by kernel_rfl, ?hy⟩) hS0 ?rest
      case hy => (intro W hSw; have z0 := hSw.1.of_cell (i := 0) rfl; have z1 := hSw.1.of_cell (i := 1) rfl; have zl := hSw.1.lt; clear hSw; go_simp; with_reducible rfl)
      case rest =>
      refine wpAnyH_take (i := 7) (v := ?_) rfl (by kernel_rfl) (by kernel_rfl) (by kernel_rfl) (fun _ _ _ h => h) (Or.inl ⟨by kernel_rfl, ?hy⟩) hS0 ?rest
      case hy => (intro W hSw; have z0 := hSw.2.of_cell (i := 0) rfl; have z1 := hSw.2.of_cell (i := 1) rfl; have z2 := hSw.2.of_cell (i := 2) rfl; have z3 := hSw.2.of_cell (i := 3) rfl; have zl := hSw.2.lt; clear hSw; go_simp; with_reducible rfl)
      case rest =>
      refine wpAnyH_take (i := 8) (v := ?_) rfl (by kernel_rfl) (by kernel_rfl) (by kernel_rfl) (fun _ _ _ h => h) (Or.inl ⟨by kernel_rfl, ?hy⟩) hS0 ?rest
      case hy => (intro W hSw; clear hSw; go_simp; with_reducible rfl)
      case rest =>
      refine wpAnyH_take (i := 9) (v := ?_) rfl (by kernel_rfl) (by kernel_rfl) (by kernel_rfl) (fun _ _ _ h => h) (Or.inl ⟨by kernel_rfl, ?hy⟩) hS0 ?rest
      case hy => (intro W hSw; clear hSw; go_simp; with_reducible rfl)
      case rest =>
      try go_simp
      refine wpAnyH_ready (rs := [10]) (by kernel_rfl) (by simp) ?_
      refine AllReadyH.cons rfl (fun K hK => ?_) (AllReadyH.nil)
      refine step_storeM (by kernel_rfl) 29 (.tmp 133) (.tmp 130) rfl C1 (k * 2) #[.string cm.1, .string cm.2] (by kernel_rfl) (by kernel_rfl) HTH1.out (by kernel_rfl) (by simp [Value.oneCell']) ?_
      rw [show (#[.string cm.1, .string cm.2] : Array Value).toList = cmC cm from rfl, HW16.out]
      refine hK.out _ _ HS.out.1 (fun hS1 => ?_)
      clear hK K
      refine wpAnyH_take (i := 11) (v := ?_) rfl (by kernel_rfl) (by kernel_rfl) (by kernel_rfl) (fun _ _ _ h => h) (Or.inl ⟨by kernel_rfl, ?hy⟩) hS1 ?rest
      case hy => (intro W hSw; clear hSw; go_simp; with_reducible rfl)
      case rest =>
      try go_simp
      refine wpAnyH_ready (rs := [12]) (by kernel_rfl) (by simp) ?_
      refine AllReadyH.cons rfl (fun K hK => ?_) (AllReadyH.nil)
      refine step_storeM (by kernel_rfl) 32 (.tmp 134) (.tmp 131) rfl C2 (k * 4) #[.int .i64 0, .int .i64 0, .string ⟨#[]⟩, .slice none 0 0] (by kernel_rfl) (by kernel_rfl) HTH2.out (by kernel_rfl) (by simp [Value.oneCell']) ?_
      rw [show (#[.int .i64 0, .int .i64 0, .string ⟨#[]⟩, .slice none 0 0] : Array Value).toList = ogC zOgT from rfl, HW17.out]
      refine hK.out _ _ HS.out.2.1 (fun hS2 => ?_)
      clear hK K
      refine wpAnyH_take (i := 13) (v := ?_) rfl (by kernel_rfl) (by kernel_rfl) (by kernel_rfl) (fun _ _ _ h => h) (Or.inl ⟨by kernel_rfl, ?hy⟩) hS2 ?rest
      case hy => (intro W hSw; clear hSw; go_simp; with_reducible rfl)
      case rest =>
      try go_simp
      refine wpAnyH_ready (rs := [14]) (by kernel_rfl) (by simp) ?_
      refine AllReadyH.cons rfl (fun K hK => ?_) (AllReadyH.nil)
      obtain ⟨f0, e0, fl⟩ := HF17.out
      go_simp
      refine hK.out _ _ (by rw [HW18.out]; exact HS.out.2.2) (fun hS3 => ?_)
      clear hK K f0 e0 fl
      refine wpAnyH_done (by kernel_rfl) ?_ _
      obtain ⟨l', hl'⟩ : ∃ q, q = l.set k (⟨some ⟨gS, 0, none⟩, cS, x.seeds.set ii (s : Int), x.salt, x.RA, x.rc, x.random⟩ : Kr) := ⟨_, rfl⟩
      have hL : l'.length = l.length := by rw [hl']; exact List.length_set
      have hHN : HonOk l' nd ii l'.length cl (os.set k zOgT) (ks.set k ⟨KA, kc, ls⟩) := by
        rw [hl']
        exact HonOk.set HHON.out hk _ _ _ (by rw [HCB.out, if_pos rfl]) HG.out.2.2.2.2.2
      have hall' : l'.all (okK l'.length nd (ii : Int)) = true := by
        rw [hL, hl', List.all_eq_true]
        intro y hy
        rcases List.mem_or_eq_of_mem_set hy with h | rfl
        · exact List.all_eq_true.1 HALL.out y h
        · exact HOK.out
      have hn' : ∀ kr, kr ∈ l' → kr.seeds.length = n := fun y hy => by
        rw [hl'] at hy
        rcases List.mem_or_eq_of_mem_set hy with h | rfl
        · exact HNN.out y h
        · show (x.seeds.set ii (s : Int)).length = n
          rw [List.length_set]; exact HXN.out
      obtain ⟨WW, hka⟩ := hon_draw (need := (nd : Int)) (i := (ii : Int)) hHN hall' n hn'
      have hsd : sdT l' ii l'.length = (c0 : Int) + s := by
        rw [hL, hl', sdT_set HX.out, if_pos hk, HV0.out]
        simp only [List.getElem?_set_self (show ii < x.seeds.length by rw [HXN.out]; exact hiin), Option.getD_some]
        have := HC0.out
        omega
      have hcs : (l.map (cmK l.length nd)).set k cm = l'.map (cmK l'.length nd) := by
        rw [hL, hl', List.map_set, HG.out.1]
      have hfit := HV18.out.fit (i := (ii : Int)) (cl := cl) (l := l') (need := (nd : Int)) hcs hHN hall' (by omega)
      have hD := kdraw_ok (some ⟨C1, 0, none⟩) c1 (l'.map (cmK l'.length nd)) n ii (some ⟨C2, 0, none⟩) c2 (os.set k zOgT) (some ⟨C3, 0, none⟩) c3 (ks.set k ⟨KA, kc, ls⟩) nd w18 hfit (by rw [List.length_map]; omega) (by rw [List.length_map]; omega) (by omega) hiin HDV.out.one (by rw [List.length_map, hL]; exact HDV.out.le) (by rw [List.length_map]; exact hHN.ol) (by rw [List.length_map]; exact hHN.kl) (HT.out w18 HV18.out.b)
      rw [hka, List.length_map, hHN.ol, hHN.kl, hL, Int.toNat_natCast, ← hL, hsd, hL] at hD
      dsimp only at hD
      have HD := Lib.hid hD
      clear hl' hL hHN hall' hn' hka hsd hcs hfit hD
      obtain ⟨d, hd⟩ : ∃ d, ((c0 : Int) + s) % 720 = d := ⟨_, rfl⟩
      rw [hd] at HD
      have hd0 : 0 ≤ d := by omega
      have hd1 : d ≤ 719 := by omega
      have HDD := Lib.hid hd
      clear hd
      go_wp2_with fail
      rw [HW18.out]
      refine HD.out.mono ?_
      rintro e w19 ⟨v, rfl, hown, hb⟩
      obtain ⟨A19, c19, rfl, -, -, -⟩ := Rd.of_own hown
      have HV19 := Lib.hid (HV18.out.below hb)
      clear hown hb HD
      have hW := lwinner_any TA tc tk d w19 (HTK.out w19 HV19.out.b) (by omega)
      rw [show wnV tk d = ((wnr tk d : Nat) : Int) by rw [wnV, if_pos ⟨HLB.out, hd0, hd1⟩], show wnE tk d = 0 by rw [wnE, if_pos ⟨HLB.out, hd0, hd1⟩]] at hW
      have hpl := wnr_lt HLB.out hd1
      obtain ⟨p, hp⟩ : ∃ p, wnr tk d = p := ⟨_, rfl⟩
      rw [hp] at hW hpl
      have HWN := Lib.hid hW
      have HP := Lib.hid hp
      clear hW hp
      go_wp2_with fail
      refine HWN.out.mono ?_
      rintro e w20 ⟨rfl, hb⟩
      have HV20 := Lib.hid (HV19.out.below hb)
      clear hb HWN
      obtain ⟨vp, hvp⟩ := get_some (winsK tk (c0 : Int) s) p (by rw [winsK_len]; exact hpl)
      have hvb := winsK_le hvp
      have gg := HV20.out.ws.get (j := p) (u := .int .i64 vp) (by rw [List.getElem?_map, hvp]; rfl)
      have ge := HV20.out.ws.frozen p
      have gl := HV20.out.ws.lt
      have hv21 := HV20.out.setW p (vp + 1)
      have hws : (winsK tk (c0 : Int) s).set p (vp + 1) = winsK tk (c0 : Int) (s + 1) := by
        have h := winsK_set tk (c0 : Int) s vp (by rw [HDD.out, HP.out]; exact hvp)
        rw [HDD.out, HP.out] at h
        exact h
      rw [hws] at hv21
      have HV21 := Lib.hid hv21
      clear hvp hv21 hws
      have hpz : (p : Int) < (tk.length : Int) := by omega
      go_wp2
      go_roundw
      case rel => exact ⟨s + 1, _, _, _, _, by omega, by go_num, HV21.out, ⟨cm, rfl⟩, ⟨_, rfl⟩, ⟨_, rfl⟩, ⟨_, rfl⟩⟩
      case measure => first | (simp [intOf]; done) | (simp [intOf]; omega)
  case pos =>
  obtain ⟨y, hy⟩ := get_some l j hlt
  have HY := Lib.hid hy
  obtain ⟨q0, q1, q2⟩ := HKR.out j y hy w8 HB8.out
  have ql := lt_of_cell q0
  have hji : (j : Int) < (l.length : Int) := by omega
  have HOK : Hid (okK l.length need (ii : Int) y = true) := Lib.hid (List.all_eq_true.1 HALL.out y (List.mem_of_getElem? hy))
  have hcall := w11open_any y need ii l.length w8 (HIN.out y (List.mem_of_getElem? hy) w8 HB8.out) h1 (by omega) (HT.out w8 HB8.out)
  rw [HNN.out y (List.mem_of_getElem? hy)] at hcall
  have HCALL := Lib.hid hcall
  clear hcall hy
  go_wp2_with fail
  clear q0 q1 q2 ql
  refine HCALL.out.mono ?_
  rintro e w9 ⟨hb, cm, o, KA, kn, kc, rfl, hg⟩
  obtain ⟨hcm, ho, hpo, hoc, rfl, ls, hkt, hks⟩ := hg HOK.out
  rw [Int.toNat_natCast] at ho hks
  rw [HOK.out]
  have HB9 := Lib.hid hb
  have HG := Lib.hid (And.intro hcm (And.intro ho (And.intro hpo (And.intro hoc (And.intro hkt hks)))))
  have hlsl : ls.length = l.length := hks.1
  have HLS := Lib.hid hlsl
  clear hb hcm ho hpo hoc hkt hks hlsl
  obtain ⟨w10, hw10⟩ : ∃ W, (w9.alloc (.cells #[.string cm.1, .string cm.2] 29)).alloc (.cells #[.int .i64 o.ix, .int .i64 o.v, .string o.salt, .slice o.A o.p.length o.c] 32) = W := ⟨_, rfl⟩
  have HB10 : Hid (Below w9.heap.size w9 w10) := Lib.hid (by rw [← hw10]; exact below_alloc (below_alloc (Below.refl _ _) _) _)
  have HC10 : Hid (Blk w10 w9.heap.size 29 #[.string cm.1, .string cm.2] ∧ Blk w10 (w9.heap.size + 1) 32 #[.int .i64 o.ix, .int .i64 o.v, .string o.salt, .slice o.A o.p.length o.c]) := Lib.hid (by
    rw [← hw10]
    exact ⟨(Blk.new w9 _ _ _ rfl).alloc _, Blk.new _ _ _ _ (by simp)⟩)
  have HW10 := Lib.hid hw10
  clear hw10
  obtain ⟨cb, hcb⟩ : ∃ b, cl j = b := ⟨_, rfl⟩
  have hcb' : (bits BinOp.and IntKind.u8 ((closed : Int) / 2 ^ j) 1 == 1) = cb := by rw [← hcb, HCL.out]
  have HCB := Lib.hid hcb
  clear hcb
  cases cb
  case false =>
    go_wp2_with fail
    try rw [HW10.out]
    have HR0 : Hid (Rows3 w.heap.size w w10 w10 j j j u14 u15 u16 (((l.take j).map (cmK l.length need)).flatMap cmC) (os.flatMap ogC) (ks.flatMap kwC) none none none #[.string cm.1, .string cm.2] #[.int .i64 o.ix, .int .i64 o.v, .string o.salt, .slice o.A o.p.length o.c] #[.slice KA l.length kc]) := Lib.hid ((HV.out.r.below (below_trans HB9.out HB10.out)).start w10 (TyK.refl _) _ _ _)
    have HBX : Hid (Below w8.heap.size w8 w10) := Lib.hid (below_trans HB9.out HB10.out)
    have HPO : Hid (PathIn w10 o.A o.p ∧ o.p.length ≤ o.c ∧ KwT w10 ⟨KA, kc, ls⟩) := Lib.hid ⟨HG.out.2.2.1.below HB10.out, HG.out.2.2.2.1, HG.out.2.2.2.2.1.keep (fun b cs hcs => HB10.out.block b (Array.getElem?_eq_some_iff.1 hcs).1) (fun b cs hcs => HB10.out.block b (Array.getElem?_eq_some_iff.1 hcs).1)⟩
    have HOO : Hid (if cl j then o = zOgT else ∃ A c, o = ogOf y ii A c) := Lib.hid (by rw [HCB.out]; exact HG.out.2.1)
    have HU := Lib.hid (HV.out.r.uclt w9.heap.size HB9.out.size)
    refine wp_region_held_drew (S := fun W => Blk W w9.heap.size 29 #[.string cm.1, .string cm.2] ∧ Blk W (w9.heap.size + 1) 32 #[.int .i64 o.ix, .int .i64 o.v, .string o.salt, .slice o.A o.p.length o.c]) (by kernel_rfl) (HC10.out) (fun hS0 => ?_)
    refine wpAnyH_take (i := 0) (v := ?_) rfl (by kernel_rfl) (by kernel_rfl) (by kernel_rfl) (fun _ _ _ h => h) (Or.inl ⟨by kernel_rfl, ?hy⟩) hS0 ?rest
    case hy => (intro W hSw; clear hSw; go_simp; with_reducible rfl)
    case rest =>
    refine wpAnyH_take (i := 1) (v := ?_) rfl (by kernel_rfl) (by kernel_rfl) (by kernel_rfl) (fun _ _ _ h => h) (Or.inl ⟨by kernel_rfl, ?hy⟩) hS0 ?rest
    case hy => (intro W hSw; have z0 := hSw.1.of_cell (i := 0) rfl; have z1 := hSw.1.of_cell (i := 1) rfl; have zl := hSw.1.lt; clear hSw; go_simp; with_reducible rfl)
    case rest =>
    refine wpAnyH_take (i := 4) (v := ?_) rfl (by kernel_rfl) (by kernel_rfl) (by kernel_rfl) (fun _ _ _ h => h) (Or.inl ⟨by kernel_rfl, ?hy⟩) hS0 ?rest
    case hy => (intro W hSw; clear hSw; go_simp; with_reducible rfl)
    case rest =>
    refine wpAnyH_take (i := 5) (v := ?_) rfl (by kernel_rfl) (by kernel_rfl) (by kernel_rfl) (fun _ _ _ h => h) (Or.inl ⟨by kernel_rfl, ?hy⟩) hS0 ?rest
    case hy => (intro W hSw; have z0 := hSw.2.of_cell (i := 0) rfl; have z1 := hSw.2.of_cell (i := 1) rfl; have z2 := hSw.2.of_cell (i := 2) rfl; have z3 := hSw.2.of_cell (i := 3) rfl; have zl := hSw.2.lt; clear hSw; go_simp; with_reducible rfl)
    case rest =>
    refine wpAnyH_take (i := 8) (v := ?_) rfl (by kernel_rfl) (by kernel_rfl) (by kernel_rfl) (fun _ _ _ h => h) (Or.inl ⟨by kernel_rfl, ?hy⟩) hS0 ?rest
    case hy => (intro W hSw; clear hSw; go_simp; with_reducible rfl)
    case rest =>
    refine wpAnyH_take (i := 9) (v := ?_) rfl (by kernel_rfl) (by kernel_rfl) (by kernel_rfl) (fun _ _ _ h => h) (Or.inl ⟨by kernel_rfl, ?hy⟩) hS0 ?rest
    case hy => (intro W hSw; clear hSw; go_simp; with_reducible rfl)
    case rest =>
    try go_simp
    refine wpAnyH_ready (rs := [2, 6, 10]) (by kernel_rfl) (by simp) ?_
    refine AllReadyH.cons rfl (fun K hK => ?_) (AllReadyH.cons rfl (fun K hK => ?_) (AllReadyH.cons rfl (fun K hK => ?_) (AllReadyH.nil)))
    · skip
      go_simp
      refine hK.out _ _ ⟨hS0.1.alloc _, hS0.2.alloc _⟩ (fun hS1 => ?_)
      clear hK K
      have HR1 := Lib.hid (HR0.out.allocC (w10.heap.size) (by simp))
      refine wpAnyH_ready (rs := [3, 6, 10]) (by kernel_rfl) (by simp) ?_
      refine AllReadyH.cons rfl (fun K hK => ?_) (AllReadyH.cons rfl (fun K hK => ?_) (AllReadyH.cons rfl (fun K hK => ?_) (AllReadyH.nil)))
      · skip
        have HX2 := Lib.hid hS1
        clear hS1
        refine step_appT _ (by kernel_rfl) (.tmp 69) (.tmp 71) 55 55 rfl w.heap.size 29 29 icm _ 2 32 Tryz.underlying55 Tryz.underlying55 HIC.out.1 HIC.out.2.1 HIC.out.2.2.1 HIC.out.2.2.2 rfl (by omega) _ j _ (by kernel_rfl) HR1.out.rc (some ⟨w10.heap.size, 0, none⟩) 1 1 [.string cm.1, .string cm.2] (by kernel_rfl) (Rd_of_blk (HR1.out.bc _ rfl) rfl) (by simp [Value.oneCell']) (by simp only [maxLen]; omega) (by omega) HR1.out.hB ?_
        intro v1 wx2 hown hg
        have HR2 := Lib.hid (HR1.out.drew.appC hown hg)
        refine hK.out _ _ ⟨HX2.out.1.grown_ hg HU.out.1 (Nat.le_refl _), HX2.out.2.grown_ hg HU.out.1 (by omega)⟩ (fun hS2 => ?_)
        clear hK K hown hg
        refine wpAnyH_ready (rs := [6, 10]) (by kernel_rfl) (by simp) ?_
        refine AllReadyH.cons rfl (fun K hK => ?_) (AllReadyH.cons rfl (fun K hK => ?_) (AllReadyH.nil))
        · skip
          go_simp
          refine hK.out _ _ ⟨hS2.1.alloc _, hS2.2.alloc _⟩ (fun hS3 => ?_)
          clear hK K
          have HR3 := Lib.hid (HR2.out.allocO (wx2.heap.size) (by simp))
          refine wpAnyH_ready (rs := [7, 10]) (by kernel_rfl) (by simp) ?_
          refine AllReadyH.cons rfl (fun K hK => ?_) (AllReadyH.cons rfl (fun K hK => ?_) (AllReadyH.nil))
          · skip
            have HX4 := Lib.hid hS3
            clear hS3
            refine step_appT _ (by kernel_rfl) (.tmp 73) (.tmp 75) 56 56 rfl w.heap.size 32 32 iog _ 4 56 Tryz.underlying56 Tryz.underlying56 HIO.out.1 HIO.out.2.1 HIO.out.2.2.1 HIO.out.2.2.2 rfl (by omega) _ j _ (by kernel_rfl) HR3.out.ro (some ⟨wx2.heap.size, 0, none⟩) 1 1 [.int .i64 o.ix, .int .i64 o.v, .string o.salt, .slice o.A o.p.length o.c] (by kernel_rfl) (Rd_of_blk (HR3.out.bo _ rfl) rfl) (by simp [Value.oneCell']) (by simp only [maxLen]; omega) (by omega) HR3.out.hB ?_
            intro v2 wx4 hown hg
            have HR4 := Lib.hid (HR3.out.appO hown hg)
            refine hK.out _ _ ⟨HX4.out.1.grown_ hg HU.out.2.1 (Nat.le_refl _), HX4.out.2.grown_ hg HU.out.2.1 (by omega)⟩ (fun hS4 => ?_)
            clear hK K hown hg
            refine wpAnyH_ready (rs := [10]) (by kernel_rfl) (by simp) ?_
            refine AllReadyH.cons rfl (fun K hK => ?_) (AllReadyH.nil)
            go_simp
            refine hK.out _ _ ⟨hS4.1.alloc _, hS4.2.alloc _⟩ (fun hS5 => ?_)
            clear hK K
            have HR5 := Lib.hid (HR4.out.allocK (wx4.heap.size) (by simp))
            refine wpAnyH_ready (rs := [11]) (by kernel_rfl) (by simp) ?_
            refine AllReadyH.cons rfl (fun K hK => ?_) (AllReadyH.nil)
            have HX6 := Lib.hid hS5
            clear hS5
            refine step_appT _ (by kernel_rfl) (.tmp 77) (.tmp 79) 57 57 rfl w.heap.size 33 33 ikw _ 1 24 Tryz.underlying57 Tryz.underlying57 HIK.out.1 HIK.out.2.1 HIK.out.2.2.1 HIK.out.2.2.2 rfl (by omega) _ j _ (by kernel_rfl) HR5.out.rk (some ⟨wx4.heap.size, 0, none⟩) 1 1 [.slice KA l.length kc] (by kernel_rfl) (Rd_of_blk (HR5.out.bk _ rfl) rfl) (by simp [Value.oneCell']) (by simp only [maxLen]; omega) (by omega) HR5.out.hB ?_
            intro v3 wx6 hown hg
            have HR6 := Lib.hid (HR5.out.appK hown hg)
            refine hK.out _ _ ⟨HX6.out.1.grown_ hg HU.out.2.2 (Nat.le_refl _), HX6.out.2.grown_ hg HU.out.2.2 (by omega)⟩ (fun hS6 => ?_)
            clear hK K hown hg
            refine wpAnyH_take (i := 12) (v := ?_) rfl (by kernel_rfl) (by kernel_rfl) (by kernel_rfl) (fun _ _ _ h => h) (Or.inl ⟨by kernel_rfl, ?hy⟩) hS6 ?rest
            case hy => (intro W hSw; clear hSw; go_simp; with_reducible rfl)
            case rest =>
            refine wpAnyH_take (i := 13) (v := ?_) rfl (by kernel_rfl) (by kernel_rfl) (by kernel_rfl) (fun _ _ _ h => h) (Or.inl ⟨by kernel_rfl, ?hy⟩) hS6 ?rest
            case hy => (intro W hSw; clear hSw; go_simp; with_reducible rfl)
            case rest =>
            refine wpAnyH_take (i := 14) (v := ?_) rfl (by kernel_rfl) (by kernel_rfl) (by kernel_rfl) (fun _ _ _ h => h) (Or.inl ⟨by kernel_rfl, ?hy⟩) hS6 ?rest
            case hy => (intro W hSw; clear hSw; go_simp; with_reducible rfl)
            case rest =>
            refine wpAnyH_done (by kernel_rfl) ?_ _
            have HNX := Lib.hid (W1Inv.next HV.out HBX.out HY.out (o := o) (a := ⟨KA, kc, ls⟩) HR6.out (by rw [HG.out.1]; rfl) rfl (by simp [kwC, HLS.out]) HOO.out HPO.out.1 HPO.out.2.1 HPO.out.2.2 HG.out.2.2.2.2.2)
            clear hS6
            go_wp2_with fail
            go_roundw
            case rel => exact ⟨j + 1, os ++ [o], ks ++ [⟨KA, kc, ls⟩], by omega, by go_num, HNX.out⟩
            case measure => first | (simp [intOf]; done) | (simp [intOf]; omega)
          · skip
            go_simp
            refine hK.out _ _ ⟨hS3.1.alloc _, hS3.2.alloc _⟩ (fun hS4 => ?_)
            clear hK K
            have HR4 := Lib.hid (HR3.out.allocK (wx2.heap.size + 1) (by simp))
            refine wpAnyH_ready (rs := [7]) (by kernel_rfl) (by simp) ?_
            refine AllReadyH.cons rfl (fun K hK => ?_) (AllReadyH.nil)
            have HX5 := Lib.hid hS4
            clear hS4
            refine step_appT _ (by kernel_rfl) (.tmp 73) (.tmp 75) 56 56 rfl w.heap.size 32 32 iog _ 4 56 Tryz.underlying56 Tryz.underlying56 HIO.out.1 HIO.out.2.1 HIO.out.2.2.1 HIO.out.2.2.2 rfl (by omega) _ j _ (by kernel_rfl) HR4.out.ro (some ⟨wx2.heap.size, 0, none⟩) 1 1 [.int .i64 o.ix, .int .i64 o.v, .string o.salt, .slice o.A o.p.length o.c] (by kernel_rfl) (Rd_of_blk (HR4.out.bo _ rfl) rfl) (by simp [Value.oneCell']) (by simp only [maxLen]; omega) (by omega) HR4.out.hB ?_
            intro v2 wx5 hown hg
            have HR5 := Lib.hid (HR4.out.appO hown hg)
            refine hK.out _ _ ⟨HX5.out.1.grown_ hg HU.out.2.1 (Nat.le_refl _), HX5.out.2.grown_ hg HU.out.2.1 (by omega)⟩ (fun hS5 => ?_)
            clear hK K hown hg
            refine wpAnyH_ready (rs := [11]) (by kernel_rfl) (by simp) ?_
            refine AllReadyH.cons rfl (fun K hK => ?_) (AllReadyH.nil)
            have HX6 := Lib.hid hS5
            clear hS5
            refine step_appT _ (by kernel_rfl) (.tmp 77) (.tmp 79) 57 57 rfl w.heap.size 33 33 ikw _ 1 24 Tryz.underlying57 Tryz.underlying57 HIK.out.1 HIK.out.2.1 HIK.out.2.2.1 HIK.out.2.2.2 rfl (by omega) _ j _ (by kernel_rfl) HR5.out.rk (some ⟨wx2.heap.size + 1, 0, none⟩) 1 1 [.slice KA l.length kc] (by kernel_rfl) (Rd_of_blk (HR5.out.bk _ rfl) rfl) (by simp [Value.oneCell']) (by simp only [maxLen]; omega) (by omega) HR5.out.hB ?_
            intro v3 wx6 hown hg
            have HR6 := Lib.hid (HR5.out.appK hown hg)
            refine hK.out _ _ ⟨HX6.out.1.grown_ hg HU.out.2.2 (Nat.le_refl _), HX6.out.2.grown_ hg HU.out.2.2 (by omega)⟩ (fun hS6 => ?_)
            clear hK K hown hg
            refine wpAnyH_take (i := 12) (v := ?_) rfl (by kernel_rfl) (by kernel_rfl) (by kernel_rfl) (fun _ _ _ h => h) (Or.inl ⟨by kernel_rfl, ?hy⟩) hS6 ?rest
            case hy => (intro W hSw; clear hSw; go_simp; with_reducible rfl)
            case rest =>
            refine wpAnyH_take (i := 13) (v := ?_) rfl (by kernel_rfl) (by kernel_rfl) (by kernel_rfl) (fun _ _ _ h => h) (Or.inl ⟨by kernel_rfl, ?hy⟩) hS6 ?rest
            case hy => (intro W hSw; clear hSw; go_simp; with_reducible rfl)
            case rest =>
            refine wpAnyH_take (i := 14) (v := ?_) rfl (by kernel_rfl) (by kernel_rfl) (by kernel_rfl) (fun _ _ _ h => h) (Or.inl ⟨by kernel_rfl, ?hy⟩) hS6 ?rest
            case hy => (intro W hSw; clear hSw; go_simp; with_reducible rfl)
            case rest =>
            refine wpAnyH_done (by kernel_rfl) ?_ _
            have HNX := Lib.hid (W1Inv.next HV.out HBX.out HY.out (o := o) (a := ⟨KA, kc, ls⟩) HR6.out (by rw [HG.out.1]; rfl) rfl (by simp [kwC, HLS.out]) HOO.out HPO.out.1 HPO.out.2.1 HPO.out.2.2 HG.out.2.2.2.2.2)
            clear hS6
            go_wp2_with fail
            go_roundw
            case rel => exact ⟨j + 1, os ++ [o], ks ++ [⟨KA, kc, ls⟩], by omega, by go_num, HNX.out⟩
            case measure => first | (simp [intOf]; done) | (simp [intOf]; omega)
        · skip
          go_simp
          refine hK.out _ _ ⟨hS2.1.alloc _, hS2.2.alloc _⟩ (fun hS3 => ?_)
          clear hK K
          have HR3 := Lib.hid (HR2.out.allocK (wx2.heap.size) (by simp))
          refine wpAnyH_ready (rs := [6]) (by kernel_rfl) (by simp) ?_
          refine AllReadyH.cons rfl (fun K hK => ?_) (AllReadyH.nil)
          go_simp
          refine hK.out _ _ ⟨hS3.1.alloc _, hS3.2.alloc _⟩ (fun hS4 => ?_)
          clear hK K
          have HR4 := Lib.hid (HR3.out.allocO (wx2.heap.size + 1) (by simp))
          refine wpAnyH_ready (rs := [7]) (by kernel_rfl) (by simp) ?_
          refine AllReadyH.cons rfl (fun K hK => ?_) (AllReadyH.nil)
          have HX5 := Lib.hid hS4
          clear hS4
          refine step_appT _ (by kernel_rfl) (.tmp 73) (.tmp 75) 56 56 rfl w.heap.size 32 32 iog _ 4 56 Tryz.underlying56 Tryz.underlying56 HIO.out.1 HIO.out.2.1 HIO.out.2.2.1 HIO.out.2.2.2 rfl (by omega) _ j _ (by kernel_rfl) HR4.out.ro (some ⟨wx2.heap.size + 1, 0, none⟩) 1 1 [.int .i64 o.ix, .int .i64 o.v, .string o.salt, .slice o.A o.p.length o.c] (by kernel_rfl) (Rd_of_blk (HR4.out.bo _ rfl) rfl) (by simp [Value.oneCell']) (by simp only [maxLen]; omega) (by omega) HR4.out.hB ?_
          intro v2 wx5 hown hg
          have HR5 := Lib.hid (HR4.out.appO hown hg)
          refine hK.out _ _ ⟨HX5.out.1.grown_ hg HU.out.2.1 (Nat.le_refl _), HX5.out.2.grown_ hg HU.out.2.1 (by omega)⟩ (fun hS5 => ?_)
          clear hK K hown hg
          refine wpAnyH_ready (rs := [11]) (by kernel_rfl) (by simp) ?_
          refine AllReadyH.cons rfl (fun K hK => ?_) (AllReadyH.nil)
          have HX6 := Lib.hid hS5
          clear hS5
          refine step_appT _ (by kernel_rfl) (.tmp 77) (.tmp 79) 57 57 rfl w.heap.size 33 33 ikw _ 1 24 Tryz.underlying57 Tryz.underlying57 HIK.out.1 HIK.out.2.1 HIK.out.2.2.1 HIK.out.2.2.2 rfl (by omega) _ j _ (by kernel_rfl) HR5.out.rk (some ⟨wx2.heap.size, 0, none⟩) 1 1 [.slice KA l.length kc] (by kernel_rfl) (Rd_of_blk (HR5.out.bk _ rfl) rfl) (by simp [Value.oneCell']) (by simp only [maxLen]; omega) (by omega) HR5.out.hB ?_
          intro v3 wx6 hown hg
          have HR6 := Lib.hid (HR5.out.appK hown hg)
          refine hK.out _ _ ⟨HX6.out.1.grown_ hg HU.out.2.2 (Nat.le_refl _), HX6.out.2.grown_ hg HU.out.2.2 (by omega)⟩ (fun hS6 => ?_)
          clear hK K hown hg
          refine wpAnyH_take (i := 12) (v := ?_) rfl (by kernel_rfl) (by kernel_rfl) (by kernel_rfl) (fun _ _ _ h => h) (Or.inl ⟨by kernel_rfl, ?hy⟩) hS6 ?rest
          case hy => (intro W hSw; clear hSw; go_simp; with_reducible rfl)
          case rest =>
          refine wpAnyH_take (i := 13) (v := ?_) rfl (by kernel_rfl) (by kernel_rfl) (by kernel_rfl) (fun _ _ _ h => h) (Or.inl ⟨by kernel_rfl, ?hy⟩) hS6 ?rest
          case hy => (intro W hSw; clear hSw; go_simp; with_reducible rfl)
          case rest =>
          refine wpAnyH_take (i := 14) (v := ?_) rfl (by kernel_rfl) (by kernel_rfl) (by kernel_rfl) (fun _ _ _ h => h) (Or.inl ⟨by kernel_rfl, ?hy⟩) hS6 ?rest
          case hy => (intro W hSw; clear hSw; go_simp; with_reducible rfl)
          case rest =>
          refine wpAnyH_done (by kernel_rfl) ?_ _
          have HNX := Lib.hid (W1Inv.next HV.out HBX.out HY.out (o := o) (a := ⟨KA, kc, ls⟩) HR6.out (by rw [HG.out.1]; rfl) rfl (by simp [kwC, HLS.out]) HOO.out HPO.out.1 HPO.out.2.1 HPO.out.2.2 HG.out.2.2.2.2.2)
          clear hS6
          go_wp2_with fail
          go_roundw
          case rel => exact ⟨j + 1, os ++ [o], ks ++ [⟨KA, kc, ls⟩], by omega, by go_num, HNX.out⟩
          case measure => first | (simp [intOf]; done) | (simp [intOf]; omega)
      · skip
        go_simp
        refine hK.out _ _ ⟨hS1.1.alloc _, hS1.2.alloc _⟩ (fun hS2 => ?_)
        clear hK K
        have HR2 := Lib.hid (HR1.out.allocO (w10.heap.size + 1) (by simp))
        refine wpAnyH_ready (rs := [3, 10]) (by kernel_rfl) (by simp) ?_
        refine AllReadyH.cons rfl (fun K hK => ?_) (AllReadyH.cons rfl (fun K hK => ?_) (AllReadyH.nil))
        · skip
          have HX3 := Lib.hid hS2
          clear hS2
          refine step_appT _ (by kernel_rfl) (.tmp 69) (.tmp 71) 55 55 rfl w.heap.size 29 29 icm _ 2 32 Tryz.underlying55 Tryz.underlying55 HIC.out.1 HIC.out.2.1 HIC.out.2.2.1 HIC.out.2.2.2 rfl (by omega) _ j _ (by kernel_rfl) HR2.out.rc (some ⟨w10.heap.size, 0, none⟩) 1 1 [.string cm.1, .string cm.2] (by kernel_rfl) (Rd_of_blk (HR2.out.bc _ rfl) rfl) (by simp [Value.oneCell']) (by simp only [maxLen]; omega) (by omega) HR2.out.hB ?_
          intro v1 wx3 hown hg
          have HR3 := Lib.hid (HR2.out.drew.appC hown hg)
          refine hK.out _ _ ⟨HX3.out.1.grown_ hg HU.out.1 (Nat.le_refl _), HX3.out.2.grown_ hg HU.out.1 (by omega)⟩ (fun hS3 => ?_)
          clear hK K hown hg
          refine wpAnyH_ready (rs := [7, 10]) (by kernel_rfl) (by simp) ?_
          refine AllReadyH.cons rfl (fun K hK => ?_) (AllReadyH.cons rfl (fun K hK => ?_) (AllReadyH.nil))
          · skip
            have HX4 := Lib.hid hS3
            clear hS3
            refine step_appT _ (by kernel_rfl) (.tmp 73) (.tmp 75) 56 56 rfl w.heap.size 32 32 iog _ 4 56 Tryz.underlying56 Tryz.underlying56 HIO.out.1 HIO.out.2.1 HIO.out.2.2.1 HIO.out.2.2.2 rfl (by omega) _ j _ (by kernel_rfl) HR3.out.ro (some ⟨w10.heap.size + 1, 0, none⟩) 1 1 [.int .i64 o.ix, .int .i64 o.v, .string o.salt, .slice o.A o.p.length o.c] (by kernel_rfl) (Rd_of_blk (HR3.out.bo _ rfl) rfl) (by simp [Value.oneCell']) (by simp only [maxLen]; omega) (by omega) HR3.out.hB ?_
            intro v2 wx4 hown hg
            have HR4 := Lib.hid (HR3.out.appO hown hg)
            refine hK.out _ _ ⟨HX4.out.1.grown_ hg HU.out.2.1 (Nat.le_refl _), HX4.out.2.grown_ hg HU.out.2.1 (by omega)⟩ (fun hS4 => ?_)
            clear hK K hown hg
            refine wpAnyH_ready (rs := [10]) (by kernel_rfl) (by simp) ?_
            refine AllReadyH.cons rfl (fun K hK => ?_) (AllReadyH.nil)
            go_simp
            refine hK.out _ _ ⟨hS4.1.alloc _, hS4.2.alloc _⟩ (fun hS5 => ?_)
            clear hK K
            have HR5 := Lib.hid (HR4.out.allocK (wx4.heap.size) (by simp))
            refine wpAnyH_ready (rs := [11]) (by kernel_rfl) (by simp) ?_
            refine AllReadyH.cons rfl (fun K hK => ?_) (AllReadyH.nil)
            have HX6 := Lib.hid hS5
            clear hS5
            refine step_appT _ (by kernel_rfl) (.tmp 77) (.tmp 79) 57 57 rfl w.heap.size 33 33 ikw _ 1 24 Tryz.underlying57 Tryz.underlying57 HIK.out.1 HIK.out.2.1 HIK.out.2.2.1 HIK.out.2.2.2 rfl (by omega) _ j _ (by kernel_rfl) HR5.out.rk (some ⟨wx4.heap.size, 0, none⟩) 1 1 [.slice KA l.length kc] (by kernel_rfl) (Rd_of_blk (HR5.out.bk _ rfl) rfl) (by simp [Value.oneCell']) (by simp only [maxLen]; omega) (by omega) HR5.out.hB ?_
            intro v3 wx6 hown hg
            have HR6 := Lib.hid (HR5.out.appK hown hg)
            refine hK.out _ _ ⟨HX6.out.1.grown_ hg HU.out.2.2 (Nat.le_refl _), HX6.out.2.grown_ hg HU.out.2.2 (by omega)⟩ (fun hS6 => ?_)
            clear hK K hown hg
            refine wpAnyH_take (i := 12) (v := ?_) rfl (by kernel_rfl) (by kernel_rfl) (by kernel_rfl) (fun _ _ _ h => h) (Or.inl ⟨by kernel_rfl, ?hy⟩) hS6 ?rest
            case hy => (intro W hSw; clear hSw; go_simp; with_reducible rfl)
            case rest =>
            refine wpAnyH_take (i := 13) (v := ?_) rfl (by kernel_rfl) (by kernel_rfl) (by kernel_rfl) (fun _ _ _ h => h) (Or.inl ⟨by kernel_rfl, ?hy⟩) hS6 ?rest
            case hy => (intro W hSw; clear hSw; go_simp; with_reducible rfl)
            case rest =>
            refine wpAnyH_take (i := 14) (v := ?_) rfl (by kernel_rfl) (by kernel_rfl) (by kernel_rfl) (fun _ _ _ h => h) (Or.inl ⟨by kernel_rfl, ?hy⟩) hS6 ?rest
            case hy => (intro W hSw; clear hSw; go_simp; with_reducible rfl)
            case rest =>
            refine wpAnyH_done (by kernel_rfl) ?_ _
            have HNX := Lib.hid (W1Inv.next HV.out HBX.out HY.out (o := o) (a := ⟨KA, kc, ls⟩) HR6.out (by rw [HG.out.1]; rfl) rfl (by simp [kwC, HLS.out]) HOO.out HPO.out.1 HPO.out.2.1 HPO.out.2.2 HG.out.2.2.2.2.2)
            clear hS6
            go_wp2_with fail
            go_roundw
            case rel => exact ⟨j + 1, os ++ [o], ks ++ [⟨KA, kc, ls⟩], by omega, by go_num, HNX.out⟩
            case measure => first | (simp [intOf]; done) | (simp [intOf]; omega)
          · skip
            go_simp
            refine hK.out _ _ ⟨hS3.1.alloc _, hS3.2.alloc _⟩ (fun hS4 => ?_)
            clear hK K
            have HR4 := Lib.hid (HR3.out.allocK (wx3.heap.size) (by simp))
            refine wpAnyH_ready (rs := [7]) (by kernel_rfl) (by simp) ?_
            refine AllReadyH.cons rfl (fun K hK => ?_) (AllReadyH.nil)
            have HX5 := Lib.hid hS4
            clear hS4
            refine step_appT _ (by kernel_rfl) (.tmp 73) (.tmp 75) 56 56 rfl w.heap.size 32 32 iog _ 4 56 Tryz.underlying56 Tryz.underlying56 HIO.out.1 HIO.out.2.1 HIO.out.2.2.1 HIO.out.2.2.2 rfl (by omega) _ j _ (by kernel_rfl) HR4.out.ro (some ⟨w10.heap.size + 1, 0, none⟩) 1 1 [.int .i64 o.ix, .int .i64 o.v, .string o.salt, .slice o.A o.p.length o.c] (by kernel_rfl) (Rd_of_blk (HR4.out.bo _ rfl) rfl) (by simp [Value.oneCell']) (by simp only [maxLen]; omega) (by omega) HR4.out.hB ?_
            intro v2 wx5 hown hg
            have HR5 := Lib.hid (HR4.out.appO hown hg)
            refine hK.out _ _ ⟨HX5.out.1.grown_ hg HU.out.2.1 (Nat.le_refl _), HX5.out.2.grown_ hg HU.out.2.1 (by omega)⟩ (fun hS5 => ?_)
            clear hK K hown hg
            refine wpAnyH_ready (rs := [11]) (by kernel_rfl) (by simp) ?_
            refine AllReadyH.cons rfl (fun K hK => ?_) (AllReadyH.nil)
            have HX6 := Lib.hid hS5
            clear hS5
            refine step_appT _ (by kernel_rfl) (.tmp 77) (.tmp 79) 57 57 rfl w.heap.size 33 33 ikw _ 1 24 Tryz.underlying57 Tryz.underlying57 HIK.out.1 HIK.out.2.1 HIK.out.2.2.1 HIK.out.2.2.2 rfl (by omega) _ j _ (by kernel_rfl) HR5.out.rk (some ⟨wx3.heap.size, 0, none⟩) 1 1 [.slice KA l.length kc] (by kernel_rfl) (Rd_of_blk (HR5.out.bk _ rfl) rfl) (by simp [Value.oneCell']) (by simp only [maxLen]; omega) (by omega) HR5.out.hB ?_
            intro v3 wx6 hown hg
            have HR6 := Lib.hid (HR5.out.appK hown hg)
            refine hK.out _ _ ⟨HX6.out.1.grown_ hg HU.out.2.2 (Nat.le_refl _), HX6.out.2.grown_ hg HU.out.2.2 (by omega)⟩ (fun hS6 => ?_)
            clear hK K hown hg
            refine wpAnyH_take (i := 12) (v := ?_) rfl (by kernel_rfl) (by kernel_rfl) (by kernel_rfl) (fun _ _ _ h => h) (Or.inl ⟨by kernel_rfl, ?hy⟩) hS6 ?rest
            case hy => (intro W hSw; clear hSw; go_simp; with_reducible rfl)
            case rest =>
            refine wpAnyH_take (i := 13) (v := ?_) rfl (by kernel_rfl) (by kernel_rfl) (by kernel_rfl) (fun _ _ _ h => h) (Or.inl ⟨by kernel_rfl, ?hy⟩) hS6 ?rest
            case hy => (intro W hSw; clear hSw; go_simp; with_reducible rfl)
            case rest =>
            refine wpAnyH_take (i := 14) (v := ?_) rfl (by kernel_rfl) (by kernel_rfl) (by kernel_rfl) (fun _ _ _ h => h) (Or.inl ⟨by kernel_rfl, ?hy⟩) hS6 ?rest
            case hy => (intro W hSw; clear hSw; go_simp; with_reducible rfl)
            case rest =>
            refine wpAnyH_done (by kernel_rfl) ?_ _
            have HNX := Lib.hid (W1Inv.next HV.out HBX.out HY.out (o := o) (a := ⟨KA, kc, ls⟩) HR6.out (by rw [HG.out.1]; rfl) rfl (by simp [kwC, HLS.out]) HOO.out HPO.out.1 HPO.out.2.1 HPO.out.2.2 HG.out.2.2.2.2.2)
            clear hS6
            go_wp2_with fail
            go_roundw
            case rel => exact ⟨j + 1, os ++ [o], ks ++ [⟨KA, kc, ls⟩], by omega, by go_num, HNX.out⟩
            case measure => first | (simp [intOf]; done) | (simp [intOf]; omega)
        · skip
          go_simp
          refine hK.out _ _ ⟨hS2.1.alloc _, hS2.2.alloc _⟩ (fun hS3 => ?_)
          clear hK K
          have HR3 := Lib.hid (HR2.out.allocK (w10.heap.size + 2) (by simp))
          refine wpAnyH_ready (rs := [3]) (by kernel_rfl) (by simp) ?_
          refine AllReadyH.cons rfl (fun K hK => ?_) (AllReadyH.nil)
          have HX4 := Lib.hid hS3
          clear hS3
          refine step_appT _ (by kernel_rfl) (.tmp 69) (.tmp 71) 55 55 rfl w.heap.size 29 29 icm _ 2 32 Tryz.underlying55 Tryz.underlying55 HIC.out.1 HIC.out.2.1 HIC.out.2.2.1 HIC.out.2.2.2 rfl (by omega) _ j _ (by kernel_rfl) HR3.out.rc (some ⟨w10.heap.size, 0, none⟩) 1 1 [.string cm.1, .string cm.2] (by kernel_rfl) (Rd_of_blk (HR3.out.bc _ rfl) rfl) (by simp [Value.oneCell']) (by simp only [maxLen]; omega) (by omega) HR3.out.hB ?_
          intro v1 wx4 hown hg
          have HR4 := Lib.hid (HR3.out.drew.appC hown hg)
          refine hK.out _ _ ⟨HX4.out.1.grown_ hg HU.out.1 (Nat.le_refl _), HX4.out.2.grown_ hg HU.out.1 (by omega)⟩ (fun hS4 => ?_)
          clear hK K hown hg
          refine wpAnyH_ready (rs := [7]) (by kernel_rfl) (by simp) ?_
          refine AllReadyH.cons rfl (fun K hK => ?_) (AllReadyH.nil)
          have HX5 := Lib.hid hS4
          clear hS4
          refine step_appT _ (by kernel_rfl) (.tmp 73) (.tmp 75) 56 56 rfl w.heap.size 32 32 iog _ 4 56 Tryz.underlying56 Tryz.underlying56 HIO.out.1 HIO.out.2.1 HIO.out.2.2.1 HIO.out.2.2.2 rfl (by omega) _ j _ (by kernel_rfl) HR4.out.ro (some ⟨w10.heap.size + 1, 0, none⟩) 1 1 [.int .i64 o.ix, .int .i64 o.v, .string o.salt, .slice o.A o.p.length o.c] (by kernel_rfl) (Rd_of_blk (HR4.out.bo _ rfl) rfl) (by simp [Value.oneCell']) (by simp only [maxLen]; omega) (by omega) HR4.out.hB ?_
          intro v2 wx5 hown hg
          have HR5 := Lib.hid (HR4.out.appO hown hg)
          refine hK.out _ _ ⟨HX5.out.1.grown_ hg HU.out.2.1 (Nat.le_refl _), HX5.out.2.grown_ hg HU.out.2.1 (by omega)⟩ (fun hS5 => ?_)
          clear hK K hown hg
          refine wpAnyH_ready (rs := [11]) (by kernel_rfl) (by simp) ?_
          refine AllReadyH.cons rfl (fun K hK => ?_) (AllReadyH.nil)
          have HX6 := Lib.hid hS5
          clear hS5
          refine step_appT _ (by kernel_rfl) (.tmp 77) (.tmp 79) 57 57 rfl w.heap.size 33 33 ikw _ 1 24 Tryz.underlying57 Tryz.underlying57 HIK.out.1 HIK.out.2.1 HIK.out.2.2.1 HIK.out.2.2.2 rfl (by omega) _ j _ (by kernel_rfl) HR5.out.rk (some ⟨w10.heap.size + 2, 0, none⟩) 1 1 [.slice KA l.length kc] (by kernel_rfl) (Rd_of_blk (HR5.out.bk _ rfl) rfl) (by simp [Value.oneCell']) (by simp only [maxLen]; omega) (by omega) HR5.out.hB ?_
          intro v3 wx6 hown hg
          have HR6 := Lib.hid (HR5.out.appK hown hg)
          refine hK.out _ _ ⟨HX6.out.1.grown_ hg HU.out.2.2 (Nat.le_refl _), HX6.out.2.grown_ hg HU.out.2.2 (by omega)⟩ (fun hS6 => ?_)
          clear hK K hown hg
          refine wpAnyH_take (i := 12) (v := ?_) rfl (by kernel_rfl) (by kernel_rfl) (by kernel_rfl) (fun _ _ _ h => h) (Or.inl ⟨by kernel_rfl, ?hy⟩) hS6 ?rest
          case hy => (intro W hSw; clear hSw; go_simp; with_reducible rfl)
          case rest =>
          refine wpAnyH_take (i := 13) (v := ?_) rfl (by kernel_rfl) (by kernel_rfl) (by kernel_rfl) (fun _ _ _ h => h) (Or.inl ⟨by kernel_rfl, ?hy⟩) hS6 ?rest
          case hy => (intro W hSw; clear hSw; go_simp; with_reducible rfl)
          case rest =>
          refine wpAnyH_take (i := 14) (v := ?_) rfl (by kernel_rfl) (by kernel_rfl) (by kernel_rfl) (fun _ _ _ h => h) (Or.inl ⟨by kernel_rfl, ?hy⟩) hS6 ?rest
          case hy => (intro W hSw; clear hSw; go_simp; with_reducible rfl)
          case rest =>
          refine wpAnyH_done (by kernel_rfl) ?_ _
          have HNX := Lib.hid (W1Inv.next HV.out HBX.out HY.out (o := o) (a := ⟨KA, kc, ls⟩) HR6.out (by rw [HG.out.1]; rfl) rfl (by simp [kwC, HLS.out]) HOO.out HPO.out.1 HPO.out.2.1 HPO.out.2.2 HG.out.2.2.2.2.2)
          clear hS6
          go_wp2_with fail
          go_roundw
          case rel => exact ⟨j + 1, os ++ [o], ks ++ [⟨KA, kc, ls⟩], by omega, by go_num, HNX.out⟩
          case measure => first | (simp [intOf]; done) | (simp [intOf]; omega)
      · skip
        go_simp
        refine hK.out _ _ ⟨hS1.1.alloc _, hS1.2.alloc _⟩ (fun hS2 => ?_)
        clear hK K
        have HR2 := Lib.hid (HR1.out.allocK (w10.heap.size + 1) (by simp))
        refine wpAnyH_ready (rs := [3, 6]) (by kernel_rfl) (by simp) ?_
        refine AllReadyH.cons rfl (fun K hK => ?_) (AllReadyH.cons rfl (fun K hK => ?_) (AllReadyH.nil))
        · skip
          have HX3 := Lib.hid hS2
          clear hS2
          refine step_appT _ (by kernel_rfl) (.tmp 69) (.tmp 71) 55 55 rfl w.heap.size 29 29 icm _ 2 32 Tryz.underlying55 Tryz.underlying55 HIC.out.1 HIC.out.2.1 HIC.out.2.2.1 HIC.out.2.2.2 rfl (by omega) _ j _ (by kernel_rfl) HR2.out.rc (some ⟨w10.heap.size, 0, none⟩) 1 1 [.string cm.1, .string cm.2] (by kernel_rfl) (Rd_of_blk (HR2.out.bc _ rfl) rfl) (by simp [Value.oneCell']) (by simp only [maxLen]; omega) (by omega) HR2.out.hB ?_
          intro v1 wx3 hown hg
          have HR3 := Lib.hid (HR2.out.drew.appC hown hg)
          refine hK.out _ _ ⟨HX3.out.1.grown_ hg HU.out.1 (Nat.le_refl _), HX3.out.2.grown_ hg HU.out.1 (by omega)⟩ (fun hS3 => ?_)
          clear hK K hown hg
          refine wpAnyH_ready (rs := [6]) (by kernel_rfl) (by simp) ?_
          refine AllReadyH.cons rfl (fun K hK => ?_) (AllReadyH.nil)
          go_simp
          refine hK.out _ _ ⟨hS3.1.alloc _, hS3.2.alloc _⟩ (fun hS4 => ?_)
          clear hK K
          have HR4 := Lib.hid (HR3.out.allocO (wx3.heap.size) (by simp))
          refine wpAnyH_ready (rs := [7]) (by kernel_rfl) (by simp) ?_
          refine AllReadyH.cons rfl (fun K hK => ?_) (AllReadyH.nil)
          have HX5 := Lib.hid hS4
          clear hS4
          refine step_appT _ (by kernel_rfl) (.tmp 73) (.tmp 75) 56 56 rfl w.heap.size 32 32 iog _ 4 56 Tryz.underlying56 Tryz.underlying56 HIO.out.1 HIO.out.2.1 HIO.out.2.2.1 HIO.out.2.2.2 rfl (by omega) _ j _ (by kernel_rfl) HR4.out.ro (some ⟨wx3.heap.size, 0, none⟩) 1 1 [.int .i64 o.ix, .int .i64 o.v, .string o.salt, .slice o.A o.p.length o.c] (by kernel_rfl) (Rd_of_blk (HR4.out.bo _ rfl) rfl) (by simp [Value.oneCell']) (by simp only [maxLen]; omega) (by omega) HR4.out.hB ?_
          intro v2 wx5 hown hg
          have HR5 := Lib.hid (HR4.out.appO hown hg)
          refine hK.out _ _ ⟨HX5.out.1.grown_ hg HU.out.2.1 (Nat.le_refl _), HX5.out.2.grown_ hg HU.out.2.1 (by omega)⟩ (fun hS5 => ?_)
          clear hK K hown hg
          refine wpAnyH_ready (rs := [11]) (by kernel_rfl) (by simp) ?_
          refine AllReadyH.cons rfl (fun K hK => ?_) (AllReadyH.nil)
          have HX6 := Lib.hid hS5
          clear hS5
          refine step_appT _ (by kernel_rfl) (.tmp 77) (.tmp 79) 57 57 rfl w.heap.size 33 33 ikw _ 1 24 Tryz.underlying57 Tryz.underlying57 HIK.out.1 HIK.out.2.1 HIK.out.2.2.1 HIK.out.2.2.2 rfl (by omega) _ j _ (by kernel_rfl) HR5.out.rk (some ⟨w10.heap.size + 1, 0, none⟩) 1 1 [.slice KA l.length kc] (by kernel_rfl) (Rd_of_blk (HR5.out.bk _ rfl) rfl) (by simp [Value.oneCell']) (by simp only [maxLen]; omega) (by omega) HR5.out.hB ?_
          intro v3 wx6 hown hg
          have HR6 := Lib.hid (HR5.out.appK hown hg)
          refine hK.out _ _ ⟨HX6.out.1.grown_ hg HU.out.2.2 (Nat.le_refl _), HX6.out.2.grown_ hg HU.out.2.2 (by omega)⟩ (fun hS6 => ?_)
          clear hK K hown hg
          refine wpAnyH_take (i := 12) (v := ?_) rfl (by kernel_rfl) (by kernel_rfl) (by kernel_rfl) (fun _ _ _ h => h) (Or.inl ⟨by kernel_rfl, ?hy⟩) hS6 ?rest
          case hy => (intro W hSw; clear hSw; go_simp; with_reducible rfl)
          case rest =>
          refine wpAnyH_take (i := 13) (v := ?_) rfl (by kernel_rfl) (by kernel_rfl) (by kernel_rfl) (fun _ _ _ h => h) (Or.inl ⟨by kernel_rfl, ?hy⟩) hS6 ?rest
          case hy => (intro W hSw; clear hSw; go_simp; with_reducible rfl)
          case rest =>
          refine wpAnyH_take (i := 14) (v := ?_) rfl (by kernel_rfl) (by kernel_rfl) (by kernel_rfl) (fun _ _ _ h => h) (Or.inl ⟨by kernel_rfl, ?hy⟩) hS6 ?rest
          case hy => (intro W hSw; clear hSw; go_simp; with_reducible rfl)
          case rest =>
          refine wpAnyH_done (by kernel_rfl) ?_ _
          have HNX := Lib.hid (W1Inv.next HV.out HBX.out HY.out (o := o) (a := ⟨KA, kc, ls⟩) HR6.out (by rw [HG.out.1]; rfl) rfl (by simp [kwC, HLS.out]) HOO.out HPO.out.1 HPO.out.2.1 HPO.out.2.2 HG.out.2.2.2.2.2)
          clear hS6
          go_wp2_with fail
          go_roundw
          case rel => exact ⟨j + 1, os ++ [o], ks ++ [⟨KA, kc, ls⟩], by omega, by go_num, HNX.out⟩
          case measure => first | (simp [intOf]; done) | (simp [intOf]; omega)
        · skip
          go_simp
          refine hK.out _ _ ⟨hS2.1.alloc _, hS2.2.alloc _⟩ (fun hS3 => ?_)
          clear hK K
          have HR3 := Lib.hid (HR2.out.allocO (w10.heap.size + 2) (by simp))
          refine wpAnyH_ready (rs := [3]) (by kernel_rfl) (by simp) ?_
          refine AllReadyH.cons rfl (fun K hK => ?_) (AllReadyH.nil)
          have HX4 := Lib.hid hS3
          clear hS3
          refine step_appT _ (by kernel_rfl) (.tmp 69) (.tmp 71) 55 55 rfl w.heap.size 29 29 icm _ 2 32 Tryz.underlying55 Tryz.underlying55 HIC.out.1 HIC.out.2.1 HIC.out.2.2.1 HIC.out.2.2.2 rfl (by omega) _ j _ (by kernel_rfl) HR3.out.rc (some ⟨w10.heap.size, 0, none⟩) 1 1 [.string cm.1, .string cm.2] (by kernel_rfl) (Rd_of_blk (HR3.out.bc _ rfl) rfl) (by simp [Value.oneCell']) (by simp only [maxLen]; omega) (by omega) HR3.out.hB ?_
          intro v1 wx4 hown hg
          have HR4 := Lib.hid (HR3.out.drew.appC hown hg)
          refine hK.out _ _ ⟨HX4.out.1.grown_ hg HU.out.1 (Nat.le_refl _), HX4.out.2.grown_ hg HU.out.1 (by omega)⟩ (fun hS4 => ?_)
          clear hK K hown hg
          refine wpAnyH_ready (rs := [7]) (by kernel_rfl) (by simp) ?_
          refine AllReadyH.cons rfl (fun K hK => ?_) (AllReadyH.nil)
          have HX5 := Lib.hid hS4
          clear hS4
          refine step_appT _ (by kernel_rfl) (.tmp 73) (.tmp 75) 56 56 rfl w.heap.size 32 32 iog _ 4 56 Tryz.underlying56 Tryz.underlying56 HIO.out.1 HIO.out.2.1 HIO.out.2.2.1 HIO.out.2.2.2 rfl (by omega) _ j _ (by kernel_rfl) HR4.out.ro (some ⟨w10.heap.size + 2, 0, none⟩) 1 1 [.int .i64 o.ix, .int .i64 o.v, .string o.salt, .slice o.A o.p.length o.c] (by kernel_rfl) (Rd_of_blk (HR4.out.bo _ rfl) rfl) (by simp [Value.oneCell']) (by simp only [maxLen]; omega) (by omega) HR4.out.hB ?_
          intro v2 wx5 hown hg
          have HR5 := Lib.hid (HR4.out.appO hown hg)
          refine hK.out _ _ ⟨HX5.out.1.grown_ hg HU.out.2.1 (Nat.le_refl _), HX5.out.2.grown_ hg HU.out.2.1 (by omega)⟩ (fun hS5 => ?_)
          clear hK K hown hg
          refine wpAnyH_ready (rs := [11]) (by kernel_rfl) (by simp) ?_
          refine AllReadyH.cons rfl (fun K hK => ?_) (AllReadyH.nil)
          have HX6 := Lib.hid hS5
          clear hS5
          refine step_appT _ (by kernel_rfl) (.tmp 77) (.tmp 79) 57 57 rfl w.heap.size 33 33 ikw _ 1 24 Tryz.underlying57 Tryz.underlying57 HIK.out.1 HIK.out.2.1 HIK.out.2.2.1 HIK.out.2.2.2 rfl (by omega) _ j _ (by kernel_rfl) HR5.out.rk (some ⟨w10.heap.size + 1, 0, none⟩) 1 1 [.slice KA l.length kc] (by kernel_rfl) (Rd_of_blk (HR5.out.bk _ rfl) rfl) (by simp [Value.oneCell']) (by simp only [maxLen]; omega) (by omega) HR5.out.hB ?_
          intro v3 wx6 hown hg
          have HR6 := Lib.hid (HR5.out.appK hown hg)
          refine hK.out _ _ ⟨HX6.out.1.grown_ hg HU.out.2.2 (Nat.le_refl _), HX6.out.2.grown_ hg HU.out.2.2 (by omega)⟩ (fun hS6 => ?_)
          clear hK K hown hg
          refine wpAnyH_take (i := 12) (v := ?_) rfl (by kernel_rfl) (by kernel_rfl) (by kernel_rfl) (fun _ _ _ h => h) (Or.inl ⟨by kernel_rfl, ?hy⟩) hS6 ?rest
          case hy => (intro W hSw; clear hSw; go_simp; with_reducible rfl)
          case rest =>
          refine wpAnyH_take (i := 13) (v := ?_) rfl (by kernel_rfl) (by kernel_rfl) (by kernel_rfl) (fun _ _ _ h => h) (Or.inl ⟨by kernel_rfl, ?hy⟩) hS6 ?rest
          case hy => (intro W hSw; clear hSw; go_simp; with_reducible rfl)
          case rest =>
          refine wpAnyH_take (i := 14) (v := ?_) rfl (by kernel_rfl) (by kernel_rfl) (by kernel_rfl) (fun _ _ _ h => h) (Or.inl ⟨by kernel_rfl, ?hy⟩) hS6 ?rest
          case hy => (intro W hSw; clear hSw; go_simp; with_reducible rfl)
          case rest =>
          refine wpAnyH_done (by kernel_rfl) ?_ _
          have HNX := Lib.hid (W1Inv.next HV.out HBX.out HY.out (o := o) (a := ⟨KA, kc, ls⟩) HR6.out (by rw [HG.out.1]; rfl) rfl (by simp [kwC, HLS.out]) HOO.out HPO.out.1 HPO.out.2.1 HPO.out.2.2 HG.out.2.2.2.2.2)
          clear hS6
          go_wp2_with fail
          go_roundw
          case rel => exact ⟨j + 1, os ++ [o], ks ++ [⟨KA, kc, ls⟩], by omega, by go_num, HNX.out⟩
          case measure => first | (simp [intOf]; done) | (simp [intOf]; omega)
    · skip
      go_simp
      refine hK.out _ _ ⟨hS0.1.alloc _, hS0.2.alloc _⟩ (fun hS1 => ?_)
      clear hK K
      have HR1 := Lib.hid (HR0.out.allocO (w10.heap.size) (by simp))
      refine wpAnyH_ready (rs := [2, 10]) (by kernel_rfl) (by simp) ?_
      refine AllReadyH.cons rfl (fun K hK => ?_) (AllReadyH.cons rfl (fun K hK => ?_) (AllReadyH.nil))
      · skip
        go_simp
        refine hK.out _ _ ⟨hS1.1.alloc _, hS1.2.alloc _⟩ (fun hS2 => ?_)
        clear hK K
        have HR2 := Lib.hid (HR1.out.allocC (w10.heap.size + 1) (by simp))
        refine wpAnyH_ready (rs := [3, 10]) (by kernel_rfl) (by simp) ?_
        refine AllReadyH.cons rfl (fun K hK => ?_) (AllReadyH.cons rfl (fun K hK => ?_) (AllReadyH.nil))
        · skip
          have HX3 := Lib.hid hS2
          clear hS2
          refine step_appT _ (by kernel_rfl) (.tmp 69) (.tmp 71) 55 55 rfl w.heap.size 29 29 icm _ 2 32 Tryz.underlying55 Tryz.underlying55 HIC.out.1 HIC.out.2.1 HIC.out.2.2.1 HIC.out.2.2.2 rfl (by omega) _ j _ (by kernel_rfl) HR2.out.rc (some ⟨w10.heap.size + 1, 0, none⟩) 1 1 [.string cm.1, .string cm.2] (by kernel_rfl) (Rd_of_blk (HR2.out.bc _ rfl) rfl) (by simp [Value.oneCell']) (by simp only [maxLen]; omega) (by omega) HR2.out.hB ?_
          intro v1 wx3 hown hg
          have HR3 := Lib.hid (HR2.out.drew.appC hown hg)
          refine hK.out _ _ ⟨HX3.out.1.grown_ hg HU.out.1 (Nat.le_refl _), HX3.out.2.grown_ hg HU.out.1 (by omega)⟩ (fun hS3 => ?_)
          clear hK K hown hg
          refine wpAnyH_ready (rs := [7, 10]) (by kernel_rfl) (by simp) ?_
          refine AllReadyH.cons rfl (fun K hK => ?_) (AllReadyH.cons rfl (fun K hK => ?_) (AllReadyH.nil))
          · skip
            have HX4 := Lib.hid hS3
            clear hS3
            refine step_appT _ (by kernel_rfl) (.tmp 73) (.tmp 75) 56 56 rfl w.heap.size 32 32 iog _ 4 56 Tryz.underlying56 Tryz.underlying56 HIO.out.1 HIO.out.2.1 HIO.out.2.2.1 HIO.out.2.2.2 rfl (by omega) _ j _ (by kernel_rfl) HR3.out.ro (some ⟨w10.heap.size, 0, none⟩) 1 1 [.int .i64 o.ix, .int .i64 o.v, .string o.salt, .slice o.A o.p.length o.c] (by kernel_rfl) (Rd_of_blk (HR3.out.bo _ rfl) rfl) (by simp [Value.oneCell']) (by simp only [maxLen]; omega) (by omega) HR3.out.hB ?_
            intro v2 wx4 hown hg
            have HR4 := Lib.hid (HR3.out.appO hown hg)
            refine hK.out _ _ ⟨HX4.out.1.grown_ hg HU.out.2.1 (Nat.le_refl _), HX4.out.2.grown_ hg HU.out.2.1 (by omega)⟩ (fun hS4 => ?_)
            clear hK K hown hg
            refine wpAnyH_ready (rs := [10]) (by kernel_rfl) (by simp) ?_
            refine AllReadyH.cons rfl (fun K hK => ?_) (AllReadyH.nil)
            go_simp
            refine hK.out _ _ ⟨hS4.1.alloc _, hS4.2.alloc _⟩ (fun hS5 => ?_)
            clear hK K
            have HR5 := Lib.hid (HR4.out.allocK (wx4.heap.size) (by simp))
            refine wpAnyH_ready (rs := [11]) (by kernel_rfl) (by simp) ?_
            refine AllReadyH.cons rfl (fun K hK => ?_) (AllReadyH.nil)
            have HX6 := Lib.hid hS5
            clear hS5
            refine step_appT _ (by kernel_rfl) (.tmp 77) (.tmp 79) 57 57 rfl w.heap.size 33 33 ikw _ 1 24 Tryz.underlying57 Tryz.underlying57 HIK.out.1 HIK.out.2.1 HIK.out.2.2.1 HIK.out.2.2.2 rfl (by omega) _ j _ (by kernel_rfl) HR5.out.rk (some ⟨wx4.heap.size, 0, none⟩) 1 1 [.slice KA l.length kc] (by kernel_rfl) (Rd_of_blk (HR5.out.bk _ rfl) rfl) (by simp [Value.oneCell']) (by simp only [maxLen]; omega) (by omega) HR5.out.hB ?_
            intro v3 wx6 hown hg
            have HR6 := Lib.hid (HR5.out.appK hown hg)
            refine hK.out _ _ ⟨HX6.out.1.grown_ hg HU.out.2.2 (Nat.le_refl _), HX6.out.2.grown_ hg HU.out.2.2 (by omega)⟩ (fun hS6 => ?_)
            clear hK K hown hg
            refine wpAnyH_take (i := 12) (v := ?_) rfl (by kernel_rfl) (by kernel_rfl) (by kernel_rfl) (fun _ _ _ h => h) (Or.inl ⟨by kernel_rfl, ?hy⟩) hS6 ?rest
            case hy => (intro W hSw; clear hSw; go_simp; with_reducible rfl)
            case rest =>
            refine wpAnyH_take (i := 13) (v := ?_) rfl (by kernel_rfl) (by kernel_rfl) (by kernel_rfl) (fun _ _ _ h => h) (Or.inl ⟨by kernel_rfl, ?hy⟩) hS6 ?rest
            case hy => (intro W hSw; clear hSw; go_simp; with_reducible rfl)
            case rest =>
            refine wpAnyH_take (i := 14) (v := ?_) rfl (by kernel_rfl) (by kernel_rfl) (by kernel_rfl) (fun _ _ _ h => h) (Or.inl ⟨by kernel_rfl, ?hy⟩) hS6 ?rest
            case hy => (intro W hSw; clear hSw; go_simp; with_reducible rfl)
            case rest =>
            refine wpAnyH_done (by kernel_rfl) ?_ _
            have HNX := Lib.hid (W1Inv.next HV.out HBX.out HY.out (o := o) (a := ⟨KA, kc, ls⟩) HR6.out (by rw [HG.out.1]; rfl) rfl (by simp [kwC, HLS.out]) HOO.out HPO.out.1 HPO.out.2.1 HPO.out.2.2 HG.out.2.2.2.2.2)
            clear hS6
            go_wp2_with fail
            go_roundw
            case rel => exact ⟨j + 1, os ++ [o], ks ++ [⟨KA, kc, ls⟩], by omega, by go_num, HNX.out⟩
            case measure => first | (simp [intOf]; done) | (simp [intOf]; omega)
          · skip
            go_simp
            refine hK.out _ _ ⟨hS3.1.alloc _, hS3.2.alloc _⟩ (fun hS4 => ?_)
            clear hK K
            have HR4 := Lib.hid (HR3.out.allocK (wx3.heap.size) (by simp))
            refine wpAnyH_ready (rs := [7]) (by kernel_rfl) (by simp) ?_
            refine AllReadyH.cons rfl (fun K hK => ?_) (AllReadyH.nil)
            have HX5 := Lib.hid hS4
            clear hS4
            refine step_appT _ (by kernel_rfl) (.tmp 73) (.tmp 75) 56 56 rfl w.heap.size 32 32 iog _ 4 56 Tryz.underlying56 Tryz.underlying56 HIO.out.1 HIO.out.2.1 HIO.out.2.2.1 HIO.out.2.2.2 rfl (by omega) _ j _ (by kernel_rfl) HR4.out.ro (some ⟨w10.heap.size, 0, none⟩) 1 1 [.int .i64 o.ix, .int .i64 o.v, .string o.salt, .slice o.A o.p.length o.c] (by kernel_rfl) (Rd_of_blk (HR4.out.bo _ rfl) rfl) (by simp [Value.oneCell']) (by simp only [maxLen]; omega) (by omega) HR4.out.hB ?_
            intro v2 wx5 hown hg
            have HR5 := Lib.hid (HR4.out.appO hown hg)
            refine hK.out _ _ ⟨HX5.out.1.grown_ hg HU.out.2.1 (Nat.le_refl _), HX5.out.2.grown_ hg HU.out.2.1 (by omega)⟩ (fun hS5 => ?_)
            clear hK K hown hg
            refine wpAnyH_ready (rs := [11]) (by kernel_rfl) (by simp) ?_
            refine AllReadyH.cons rfl (fun K hK => ?_) (AllReadyH.nil)
            have HX6 := Lib.hid hS5
            clear hS5
            refine step_appT _ (by kernel_rfl) (.tmp 77) (.tmp 79) 57 57 rfl w.heap.size 33 33 ikw _ 1 24 Tryz.underlying57 Tryz.underlying57 HIK.out.1 HIK.out.2.1 HIK.out.2.2.1 HIK.out.2.2.2 rfl (by omega) _ j _ (by kernel_rfl) HR5.out.rk (some ⟨wx3.heap.size, 0, none⟩) 1 1 [.slice KA l.length kc] (by kernel_rfl) (Rd_of_blk (HR5.out.bk _ rfl) rfl) (by simp [Value.oneCell']) (by simp only [maxLen]; omega) (by omega) HR5.out.hB ?_
            intro v3 wx6 hown hg
            have HR6 := Lib.hid (HR5.out.appK hown hg)
            refine hK.out _ _ ⟨HX6.out.1.grown_ hg HU.out.2.2 (Nat.le_refl _), HX6.out.2.grown_ hg HU.out.2.2 (by omega)⟩ (fun hS6 => ?_)
            clear hK K hown hg
            refine wpAnyH_take (i := 12) (v := ?_) rfl (by kernel_rfl) (by kernel_rfl) (by kernel_rfl) (fun _ _ _ h => h) (Or.inl ⟨by kernel_rfl, ?hy⟩) hS6 ?rest
            case hy => (intro W hSw; clear hSw; go_simp; with_reducible rfl)
            case rest =>
            refine wpAnyH_take (i := 13) (v := ?_) rfl (by kernel_rfl) (by kernel_rfl) (by kernel_rfl) (fun _ _ _ h => h) (Or.inl ⟨by kernel_rfl, ?hy⟩) hS6 ?rest
            case hy => (intro W hSw; clear hSw; go_simp; with_reducible rfl)
            case rest =>
            refine wpAnyH_take (i := 14) (v := ?_) rfl (by kernel_rfl) (by kernel_rfl) (by kernel_rfl) (fun _ _ _ h => h) (Or.inl ⟨by kernel_rfl, ?hy⟩) hS6 ?rest
            case hy => (intro W hSw; clear hSw; go_simp; with_reducible rfl)
            case rest =>
            refine wpAnyH_done (by kernel_rfl) ?_ _
            have HNX := Lib.hid (W1Inv.next HV.out HBX.out HY.out (o := o) (a := ⟨KA, kc, ls⟩) HR6.out (by rw [HG.out.1]; rfl) rfl (by simp [kwC, HLS.out]) HOO.out HPO.out.1 HPO.out.2.1 HPO.out.2.2 HG.out.2.2.2.2.2)
            clear hS6
            go_wp2_with fail
            go_roundw
            case rel => exact ⟨j + 1, os ++ [o], ks ++ [⟨KA, kc, ls⟩], by omega, by go_num, HNX.out⟩
            case measure => first | (simp [intOf]; done) | (simp [intOf]; omega)
        · skip
          go_simp
          refine hK.out _ _ ⟨hS2.1.alloc _, hS2.2.alloc _⟩ (fun hS3 => ?_)
          clear hK K
          have HR3 := Lib.hid (HR2.out.allocK (w10.heap.size + 2) (by simp))
          refine wpAnyH_ready (rs := [3]) (by kernel_rfl) (by simp) ?_
          refine AllReadyH.cons rfl (fun K hK => ?_) (AllReadyH.nil)
          have HX4 := Lib.hid hS3
          clear hS3
          refine step_appT _ (by kernel_rfl) (.tmp 69) (.tmp 71) 55 55 rfl w.heap.size 29 29 icm _ 2 32 Tryz.underlying55 Tryz.underlying55 HIC.out.1 HIC.out.2.1 HIC.out.2.2.1 HIC.out.2.2.2 rfl (by omega) _ j _ (by kernel_rfl) HR3.out.rc (some ⟨w10.heap.size + 1, 0, none⟩) 1 1 [.string cm.1, .string cm.2] (by kernel_rfl) (Rd_of_blk (HR3.out.bc _ rfl) rfl) (by simp [Value.oneCell']) (by simp only [maxLen]; omega) (by omega) HR3.out.hB ?_
          intro v1 wx4 hown hg
          have HR4 := Lib.hid (HR3.out.drew.appC hown hg)
          refine hK.out _ _ ⟨HX4.out.1.grown_ hg HU.out.1 (Nat.le_refl _), HX4.out.2.grown_ hg HU.out.1 (by omega)⟩ (fun hS4 => ?_)
          clear hK K hown hg
          refine wpAnyH_ready (rs := [7]) (by kernel_rfl) (by simp) ?_
          refine AllReadyH.cons rfl (fun K hK => ?_) (AllReadyH.nil)
          have HX5 := Lib.hid hS4
          clear hS4
          refine step_appT _ (by kernel_rfl) (.tmp 73) (.tmp 75) 56 56 rfl w.heap.size 32 32 iog _ 4 56 Tryz.underlying56 Tryz.underlying56 HIO.out.1 HIO.out.2.1 HIO.out.2.2.1 HIO.out.2.2.2 rfl (by omega) _ j _ (by kernel_rfl) HR4.out.ro (some ⟨w10.heap.size, 0, none⟩) 1 1 [.int .i64 o.ix, .int .i64 o.v, .string o.salt, .slice o.A o.p.length o.c] (by kernel_rfl) (Rd_of_blk (HR4.out.bo _ rfl) rfl) (by simp [Value.oneCell']) (by simp only [maxLen]; omega) (by omega) HR4.out.hB ?_
          intro v2 wx5 hown hg
          have HR5 := Lib.hid (HR4.out.appO hown hg)
          refine hK.out _ _ ⟨HX5.out.1.grown_ hg HU.out.2.1 (Nat.le_refl _), HX5.out.2.grown_ hg HU.out.2.1 (by omega)⟩ (fun hS5 => ?_)
          clear hK K hown hg
          refine wpAnyH_ready (rs := [11]) (by kernel_rfl) (by simp) ?_
          refine AllReadyH.cons rfl (fun K hK => ?_) (AllReadyH.nil)
          have HX6 := Lib.hid hS5
          clear hS5
          refine step_appT _ (by kernel_rfl) (.tmp 77) (.tmp 79) 57 57 rfl w.heap.size 33 33 ikw _ 1 24 Tryz.underlying57 Tryz.underlying57 HIK.out.1 HIK.out.2.1 HIK.out.2.2.1 HIK.out.2.2.2 rfl (by omega) _ j _ (by kernel_rfl) HR5.out.rk (some ⟨w10.heap.size + 2, 0, none⟩) 1 1 [.slice KA l.length kc] (by kernel_rfl) (Rd_of_blk (HR5.out.bk _ rfl) rfl) (by simp [Value.oneCell']) (by simp only [maxLen]; omega) (by omega) HR5.out.hB ?_
          intro v3 wx6 hown hg
          have HR6 := Lib.hid (HR5.out.appK hown hg)
          refine hK.out _ _ ⟨HX6.out.1.grown_ hg HU.out.2.2 (Nat.le_refl _), HX6.out.2.grown_ hg HU.out.2.2 (by omega)⟩ (fun hS6 => ?_)
          clear hK K hown hg
          refine wpAnyH_take (i := 12) (v := ?_) rfl (by kernel_rfl) (by kernel_rfl) (by kernel_rfl) (fun _ _ _ h => h) (Or.inl ⟨by kernel_rfl, ?hy⟩) hS6 ?rest
          case hy => (intro W hSw; clear hSw; go_simp; with_reducible rfl)
          case rest =>
          refine wpAnyH_take (i := 13) (v := ?_) rfl (by kernel_rfl) (by kernel_rfl) (by kernel_rfl) (fun _ _ _ h => h) (Or.inl ⟨by kernel_rfl, ?hy⟩) hS6 ?rest
          case hy => (intro W hSw; clear hSw; go_simp; with_reducible rfl)
          case rest =>
          refine wpAnyH_take (i := 14) (v := ?_) rfl (by kernel_rfl) (by kernel_rfl) (by kernel_rfl) (fun _ _ _ h => h) (Or.inl ⟨by kernel_rfl, ?hy⟩) hS6 ?rest
          case hy => (intro W hSw; clear hSw; go_simp; with_reducible rfl)
          case rest =>
          refine wpAnyH_done (by kernel_rfl) ?_ _
          have HNX := Lib.hid (W1Inv.next HV.out HBX.out HY.out (o := o) (a := ⟨KA, kc, ls⟩) HR6.out (by rw [HG.out.1]; rfl) rfl (by simp [kwC, HLS.out]) HOO.out HPO.out.1 HPO.out.2.1 HPO.out.2.2 HG.out.2.2.2.2.2)
          clear hS6
          go_wp2_with fail
          go_roundw
          case rel => exact ⟨j + 1, os ++ [o], ks ++ [⟨KA, kc, ls⟩], by omega, by go_num, HNX.out⟩
          case measure => first | (simp [intOf]; done) | (simp [intOf]; omega)
      · skip
        go_simp
        refine hK.out _ _ ⟨hS1.1.alloc _, hS1.2.alloc _⟩ (fun hS2 => ?_)
        clear hK K
        have HR2 := Lib.hid (HR1.out.allocK (w10.heap.size + 1) (by simp))
        refine wpAnyH_ready (rs := [2]) (by kernel_rfl) (by simp) ?_
        refine AllReadyH.cons rfl (fun K hK => ?_) (AllReadyH.nil)
        go_simp
        refine hK.out _ _ ⟨hS2.1.alloc _, hS2.2.alloc _⟩ (fun hS3 => ?_)
        clear hK K
        have HR3 := Lib.hid (HR2.out.allocC (w10.heap.size + 2) (by simp))
        refine wpAnyH_ready (rs := [3]) (by kernel_rfl) (by simp) ?_
        refine AllReadyH.cons rfl (fun K hK => ?_) (AllReadyH.nil)
        have HX4 := Lib.hid hS3
        clear hS3
        refine step_appT _ (by kernel_rfl) (.tmp 69) (.tmp 71) 55 55 rfl w.heap.size 29 29 icm _ 2 32 Tryz.underlying55 Tryz.underlying55 HIC.out.1 HIC.out.2.1 HIC.out.2.2.1 HIC.out.2.2.2 rfl (by omega) _ j _ (by kernel_rfl) HR3.out.rc (some ⟨w10.heap.size + 2, 0, none⟩) 1 1 [.string cm.1, .string cm.2] (by kernel_rfl) (Rd_of_blk (HR3.out.bc _ rfl) rfl) (by simp [Value.oneCell']) (by simp only [maxLen]; omega) (by omega) HR3.out.hB ?_
        intro v1 wx4 hown hg
        have HR4 := Lib.hid (HR3.out.drew.appC hown hg)
        refine hK.out _ _ ⟨HX4.out.1.grown_ hg HU.out.1 (Nat.le_refl _), HX4.out.2.grown_ hg HU.out.1 (by omega)⟩ (fun hS4 => ?_)
        clear hK K hown hg
        refine wpAnyH_ready (rs := [7]) (by kernel_rfl) (by simp) ?_
        refine AllReadyH.cons rfl (fun K hK => ?_) (AllReadyH.nil)
        have HX5 := Lib.hid hS4
        clear hS4
        refine step_appT _ (by kernel_rfl) (.tmp 73) (.tmp 75) 56 56 rfl w.heap.size 32 32 iog _ 4 56 Tryz.underlying56 Tryz.underlying56 HIO.out.1 HIO.out.2.1 HIO.out.2.2.1 HIO.out.2.2.2 rfl (by omega) _ j _ (by kernel_rfl) HR4.out.ro (some ⟨w10.heap.size, 0, none⟩) 1 1 [.int .i64 o.ix, .int .i64 o.v, .string o.salt, .slice o.A o.p.length o.c] (by kernel_rfl) (Rd_of_blk (HR4.out.bo _ rfl) rfl) (by simp [Value.oneCell']) (by simp only [maxLen]; omega) (by omega) HR4.out.hB ?_
        intro v2 wx5 hown hg
        have HR5 := Lib.hid (HR4.out.appO hown hg)
        refine hK.out _ _ ⟨HX5.out.1.grown_ hg HU.out.2.1 (Nat.le_refl _), HX5.out.2.grown_ hg HU.out.2.1 (by omega)⟩ (fun hS5 => ?_)
        clear hK K hown hg
        refine wpAnyH_ready (rs := [11]) (by kernel_rfl) (by simp) ?_
        refine AllReadyH.cons rfl (fun K hK => ?_) (AllReadyH.nil)
        have HX6 := Lib.hid hS5
        clear hS5
        refine step_appT _ (by kernel_rfl) (.tmp 77) (.tmp 79) 57 57 rfl w.heap.size 33 33 ikw _ 1 24 Tryz.underlying57 Tryz.underlying57 HIK.out.1 HIK.out.2.1 HIK.out.2.2.1 HIK.out.2.2.2 rfl (by omega) _ j _ (by kernel_rfl) HR5.out.rk (some ⟨w10.heap.size + 1, 0, none⟩) 1 1 [.slice KA l.length kc] (by kernel_rfl) (Rd_of_blk (HR5.out.bk _ rfl) rfl) (by simp [Value.oneCell']) (by simp only [maxLen]; omega) (by omega) HR5.out.hB ?_
        intro v3 wx6 hown hg
        have HR6 := Lib.hid (HR5.out.appK hown hg)
        refine hK.out _ _ ⟨HX6.out.1.grown_ hg HU.out.2.2 (Nat.le_refl _), HX6.out.2.grown_ hg HU.out.2.2 (by omega)⟩ (fun hS6 => ?_)
        clear hK K hown hg
        refine wpAnyH_take (i := 12) (v := ?_) rfl (by kernel_rfl) (by kernel_rfl) (by kernel_rfl) (fun _ _ _ h => h) (Or.inl ⟨by kernel_rfl, ?hy⟩) hS6 ?rest
        case hy => (intro W hSw; clear hSw; go_simp; with_reducible rfl)
        case rest =>
        refine wpAnyH_take (i := 13) (v := ?_) rfl (by kernel_rfl) (by kernel_rfl) (by kernel_rfl) (fun _ _ _ h => h) (Or.inl ⟨by kernel_rfl, ?hy⟩) hS6 ?rest
        case hy => (intro W hSw; clear hSw; go_simp; with_reducible rfl)
        case rest =>
        refine wpAnyH_take (i := 14) (v := ?_) rfl (by kernel_rfl) (by kernel_rfl) (by kernel_rfl) (fun _ _ _ h => h) (Or.inl ⟨by kernel_rfl, ?hy⟩) hS6 ?rest
        case hy => (intro W hSw; clear hSw; go_simp; with_reducible rfl)
        case rest =>
        refine wpAnyH_done (by kernel_rfl) ?_ _
        have HNX := Lib.hid (W1Inv.next HV.out HBX.out HY.out (o := o) (a := ⟨KA, kc, ls⟩) HR6.out (by rw [HG.out.1]; rfl) rfl (by simp [kwC, HLS.out]) HOO.out HPO.out.1 HPO.out.2.1 HPO.out.2.2 HG.out.2.2.2.2.2)
        clear hS6
        go_wp2_with fail
        go_roundw
        case rel => exact ⟨j + 1, os ++ [o], ks ++ [⟨KA, kc, ls⟩], by omega, by go_num, HNX.out⟩
        case measure => first | (simp [intOf]; done) | (simp [intOf]; omega)
    · skip
      go_simp
      refine hK.out _ _ ⟨hS0.1.alloc _, hS0.2.alloc _⟩ (fun hS1 => ?_)
      clear hK K
      have HR1 := Lib.hid (HR0.out.allocK (w10.heap.size) (by simp))
      refine wpAnyH_ready (rs := [2, 6]) (by kernel_rfl) (by simp) ?_
      refine AllReadyH.cons rfl (fun K hK => ?_) (AllReadyH.cons rfl (fun K hK => ?_) (AllReadyH.nil))
      · skip
        go_simp
        refine hK.out _ _ ⟨hS1.1.alloc _, hS1.2.alloc _⟩ (fun hS2 => ?_)
        clear hK K
        have HR2 := Lib.hid (HR1.out.allocC (w10.heap.size + 1) (by simp))
        refine wpAnyH_ready (rs := [3, 6]) (by kernel_rfl) (by simp) ?_
        refine AllReadyH.cons rfl (fun K hK => ?_) (AllReadyH.cons rfl (fun K hK => ?_) (AllReadyH.nil))
        · skip
          have HX3 := Lib.hid hS2
          clear hS2
          refine step_appT _ (by kernel_rfl) (.tmp 69) (.tmp 71) 55 55 rfl w.heap.size 29 29 icm _ 2 32 Tryz.underlying55 Tryz.underlying55 HIC.out.1 HIC.out.2.1 HIC.out.2.2.1 HIC.out.2.2.2 rfl (by omega) _ j _ (by kernel_rfl) HR2.out.rc (some ⟨w10.heap.size + 1, 0, none⟩) 1 1 [.string cm.1, .string cm.2] (by kernel_rfl) (Rd_of_blk (HR2.out.bc _ rfl) rfl) (by simp [Value.oneCell']) (by simp only [maxLen]; omega) (by omega) HR2.out.hB ?_
          intro v1 wx3 hown hg
          have HR3 := Lib.hid (HR2.out.drew.appC hown hg)
          refine hK.out _ _ ⟨HX3.out.1.grown_ hg HU.out.1 (Nat.le_refl _), HX3.out.2.grown_ hg HU.out.1 (by omega)⟩ (fun hS3 => ?_)
          clear hK K hown hg
          refine wpAnyH_ready (rs := [6]) (by kernel_rfl) (by simp) ?_
          refine AllReadyH.cons rfl (fun K hK => ?_) (AllReadyH.nil)
          go_simp
          refine hK.out _ _ ⟨hS3.1.alloc _, hS3.2.alloc _⟩ (fun hS4 => ?_)
          clear hK K
          have HR4 := Lib.hid (HR3.out.allocO (wx3.heap.size) (by simp))
          refine wpAnyH_ready (rs := [7]) (by kernel_rfl) (by simp) ?_
          refine AllReadyH.cons rfl (fun K hK => ?_) (AllReadyH.nil)
          have HX5 := Lib.hid hS4
          clear hS4
          refine step_appT _ (by kernel_rfl) (.tmp 73) (.tmp 75) 56 56 rfl w.heap.size 32 32 iog _ 4 56 Tryz.underlying56 Tryz.underlying56 HIO.out.1 HIO.out.2.1 HIO.out.2.2.1 HIO.out.2.2.2 rfl (by omega) _ j _ (by kernel_rfl) HR4.out.ro (some ⟨wx3.heap.size, 0, none⟩) 1 1 [.int .i64 o.ix, .int .i64 o.v, .string o.salt, .slice o.A o.p.length o.c] (by kernel_rfl) (Rd_of_blk (HR4.out.bo _ rfl) rfl) (by simp [Value.oneCell']) (by simp only [maxLen]; omega) (by omega) HR4.out.hB ?_
          intro v2 wx5 hown hg
          have HR5 := Lib.hid (HR4.out.appO hown hg)
          refine hK.out _ _ ⟨HX5.out.1.grown_ hg HU.out.2.1 (Nat.le_refl _), HX5.out.2.grown_ hg HU.out.2.1 (by omega)⟩ (fun hS5 => ?_)
          clear hK K hown hg
          refine wpAnyH_ready (rs := [11]) (by kernel_rfl) (by simp) ?_
          refine AllReadyH.cons rfl (fun K hK => ?_) (AllReadyH.nil)
          have HX6 := Lib.hid hS5
          clear hS5
          refine step_appT _ (by kernel_rfl) (.tmp 77) (.tmp 79) 57 57 rfl w.heap.size 33 33 ikw _ 1 24 Tryz.underlying57 Tryz.underlying57 HIK.out.1 HIK.out.2.1 HIK.out.2.2.1 HIK.out.2.2.2 rfl (by omega) _ j _ (by kernel_rfl) HR5.out.rk (some ⟨w10.heap.size, 0, none⟩) 1 1 [.slice KA l.length kc] (by kernel_rfl) (Rd_of_blk (HR5.out.bk _ rfl) rfl) (by simp [Value.oneCell']) (by simp only [maxLen]; omega) (by omega) HR5.out.hB ?_
          intro v3 wx6 hown hg
          have HR6 := Lib.hid (HR5.out.appK hown hg)
          refine hK.out _ _ ⟨HX6.out.1.grown_ hg HU.out.2.2 (Nat.le_refl _), HX6.out.2.grown_ hg HU.out.2.2 (by omega)⟩ (fun hS6 => ?_)
          clear hK K hown hg
          refine wpAnyH_take (i := 12) (v := ?_) rfl (by kernel_rfl) (by kernel_rfl) (by kernel_rfl) (fun _ _ _ h => h) (Or.inl ⟨by kernel_rfl, ?hy⟩) hS6 ?rest
          case hy => (intro W hSw; clear hSw; go_simp; with_reducible rfl)
          case rest =>
          refine wpAnyH_take (i := 13) (v := ?_) rfl (by kernel_rfl) (by kernel_rfl) (by kernel_rfl) (fun _ _ _ h => h) (Or.inl ⟨by kernel_rfl, ?hy⟩) hS6 ?rest
          case hy => (intro W hSw; clear hSw; go_simp; with_reducible rfl)
          case rest =>
          refine wpAnyH_take (i := 14) (v := ?_) rfl (by kernel_rfl) (by kernel_rfl) (by kernel_rfl) (fun _ _ _ h => h) (Or.inl ⟨by kernel_rfl, ?hy⟩) hS6 ?rest
          case hy => (intro W hSw; clear hSw; go_simp; with_reducible rfl)
          case rest =>
          refine wpAnyH_done (by kernel_rfl) ?_ _
          have HNX := Lib.hid (W1Inv.next HV.out HBX.out HY.out (o := o) (a := ⟨KA, kc, ls⟩) HR6.out (by rw [HG.out.1]; rfl) rfl (by simp [kwC, HLS.out]) HOO.out HPO.out.1 HPO.out.2.1 HPO.out.2.2 HG.out.2.2.2.2.2)
          clear hS6
          go_wp2_with fail
          go_roundw
          case rel => exact ⟨j + 1, os ++ [o], ks ++ [⟨KA, kc, ls⟩], by omega, by go_num, HNX.out⟩
          case measure => first | (simp [intOf]; done) | (simp [intOf]; omega)
        · skip
          go_simp
          refine hK.out _ _ ⟨hS2.1.alloc _, hS2.2.alloc _⟩ (fun hS3 => ?_)
          clear hK K
          have HR3 := Lib.hid (HR2.out.allocO (w10.heap.size + 2) (by simp))
          refine wpAnyH_ready (rs := [3]) (by kernel_rfl) (by simp) ?_
          refine AllReadyH.cons rfl (fun K hK => ?_) (AllReadyH.nil)
          have HX4 := Lib.hid hS3
          clear hS3
          refine step_appT _ (by kernel_rfl) (.tmp 69) (.tmp 71) 55 55 rfl w.heap.size 29 29 icm _ 2 32 Tryz.underlying55 Tryz.underlying55 HIC.out.1 HIC.out.2.1 HIC.out.2.2.1 HIC.out.2.2.2 rfl (by omega) _ j _ (by kernel_rfl) HR3.out.rc (some ⟨w10.heap.size + 1, 0, none⟩) 1 1 [.string cm.1, .string cm.2] (by kernel_rfl) (Rd_of_blk (HR3.out.bc _ rfl) rfl) (by simp [Value.oneCell']) (by simp only [maxLen]; omega) (by omega) HR3.out.hB ?_
          intro v1 wx4 hown hg
          have HR4 := Lib.hid (HR3.out.drew.appC hown hg)
          refine hK.out _ _ ⟨HX4.out.1.grown_ hg HU.out.1 (Nat.le_refl _), HX4.out.2.grown_ hg HU.out.1 (by omega)⟩ (fun hS4 => ?_)
          clear hK K hown hg
          refine wpAnyH_ready (rs := [7]) (by kernel_rfl) (by simp) ?_
          refine AllReadyH.cons rfl (fun K hK => ?_) (AllReadyH.nil)
          have HX5 := Lib.hid hS4
          clear hS4
          refine step_appT _ (by kernel_rfl) (.tmp 73) (.tmp 75) 56 56 rfl w.heap.size 32 32 iog _ 4 56 Tryz.underlying56 Tryz.underlying56 HIO.out.1 HIO.out.2.1 HIO.out.2.2.1 HIO.out.2.2.2 rfl (by omega) _ j _ (by kernel_rfl) HR4.out.ro (some ⟨w10.heap.size + 2, 0, none⟩) 1 1 [.int .i64 o.ix, .int .i64 o.v, .string o.salt, .slice o.A o.p.length o.c] (by kernel_rfl) (Rd_of_blk (HR4.out.bo _ rfl) rfl) (by simp [Value.oneCell']) (by simp only [maxLen]; omega) (by omega) HR4.out.hB ?_
          intro v2 wx5 hown hg
          have HR5 := Lib.hid (HR4.out.appO hown hg)
          refine hK.out _ _ ⟨HX5.out.1.grown_ hg HU.out.2.1 (Nat.le_refl _), HX5.out.2.grown_ hg HU.out.2.1 (by omega)⟩ (fun hS5 => ?_)
          clear hK K hown hg
          refine wpAnyH_ready (rs := [11]) (by kernel_rfl) (by simp) ?_
          refine AllReadyH.cons rfl (fun K hK => ?_) (AllReadyH.nil)
          have HX6 := Lib.hid hS5
          clear hS5
          refine step_appT _ (by kernel_rfl) (.tmp 77) (.tmp 79) 57 57 rfl w.heap.size 33 33 ikw _ 1 24 Tryz.underlying57 Tryz.underlying57 HIK.out.1 HIK.out.2.1 HIK.out.2.2.1 HIK.out.2.2.2 rfl (by omega) _ j _ (by kernel_rfl) HR5.out.rk (some ⟨w10.heap.size, 0, none⟩) 1 1 [.slice KA l.length kc] (by kernel_rfl) (Rd_of_blk (HR5.out.bk _ rfl) rfl) (by simp [Value.oneCell']) (by simp only [maxLen]; omega) (by omega) HR5.out.hB ?_
          intro v3 wx6 hown hg
          have HR6 := Lib.hid (HR5.out.appK hown hg)
          refine hK.out _ _ ⟨HX6.out.1.grown_ hg HU.out.2.2 (Nat.le_refl _), HX6.out.2.grown_ hg HU.out.2.2 (by omega)⟩ (fun hS6 => ?_)
          clear hK K hown hg
          refine wpAnyH_take (i := 12) (v := ?_) rfl (by kernel_rfl) (by kernel_rfl) (by kernel_rfl) (fun _ _ _ h => h) (Or.inl ⟨by kernel_rfl, ?hy⟩) hS6 ?rest
          case hy => (intro W hSw; clear hSw; go_simp; with_reducible rfl)
          case rest =>
          refine wpAnyH_take (i := 13) (v := ?_) rfl (by kernel_rfl) (by kernel_rfl) (by kernel_rfl) (fun _ _ _ h => h) (Or.inl ⟨by kernel_rfl, ?hy⟩) hS6 ?rest
          case hy => (intro W hSw; clear hSw; go_simp; with_reducible rfl)
          case rest =>
          refine wpAnyH_take (i := 14) (v := ?_) rfl (by kernel_rfl) (by kernel_rfl) (by kernel_rfl) (fun _ _ _ h => h) (Or.inl ⟨by kernel_rfl, ?hy⟩) hS6 ?rest
          case hy => (intro W hSw; clear hSw; go_simp; with_reducible rfl)
          case rest =>
          refine wpAnyH_done (by kernel_rfl) ?_ _
          have HNX := Lib.hid (W1Inv.next HV.out HBX.out HY.out (o := o) (a := ⟨KA, kc, ls⟩) HR6.out (by rw [HG.out.1]; rfl) rfl (by simp [kwC, HLS.out]) HOO.out HPO.out.1 HPO.out.2.1 HPO.out.2.2 HG.out.2.2.2.2.2)
          clear hS6
          go_wp2_with fail
          go_roundw
          case rel => exact ⟨j + 1, os ++ [o], ks ++ [⟨KA, kc, ls⟩], by omega, by go_num, HNX.out⟩
          case measure => first | (simp [intOf]; done) | (simp [intOf]; omega)
      · skip
        go_simp
        refine hK.out _ _ ⟨hS1.1.alloc _, hS1.2.alloc _⟩ (fun hS2 => ?_)
        clear hK K
        have HR2 := Lib.hid (HR1.out.allocO (w10.heap.size + 1) (by simp))
        refine wpAnyH_ready (rs := [2]) (by kernel_rfl) (by simp) ?_
        refine AllReadyH.cons rfl (fun K hK => ?_) (AllReadyH.nil)
        go_simp
        refine hK.out _ _ ⟨hS2.1.alloc _, hS2.2.alloc _⟩ (fun hS3 => ?_)
        clear hK K
        have HR3 := Lib.hid (HR2.out.allocC (w10.heap.size + 2) (by simp))
        refine wpAnyH_ready (rs := [3]) (by kernel_rfl) (by simp) ?_
        refine AllReadyH.cons rfl (fun K hK => ?_) (AllReadyH.nil)
        have HX4 := Lib.hid hS3
        clear hS3
        refine step_appT _ (by kernel_rfl) (.tmp 69) (.tmp 71) 55 55 rfl w.heap.size 29 29 icm _ 2 32 Tryz.underlying55 Tryz.underlying55 HIC.out.1 HIC.out.2.1 HIC.out.2.2.1 HIC.out.2.2.2 rfl (by omega) _ j _ (by kernel_rfl) HR3.out.rc (some ⟨w10.heap.size + 2, 0, none⟩) 1 1 [.string cm.1, .string cm.2] (by kernel_rfl) (Rd_of_blk (HR3.out.bc _ rfl) rfl) (by simp [Value.oneCell']) (by simp only [maxLen]; omega) (by omega) HR3.out.hB ?_
        intro v1 wx4 hown hg
        have HR4 := Lib.hid (HR3.out.drew.appC hown hg)
        refine hK.out _ _ ⟨HX4.out.1.grown_ hg HU.out.1 (Nat.le_refl _), HX4.out.2.grown_ hg HU.out.1 (by omega)⟩ (fun hS4 => ?_)
        clear hK K hown hg
        refine wpAnyH_ready (rs := [7]) (by kernel_rfl) (by simp) ?_
        refine AllReadyH.cons rfl (fun K hK => ?_) (AllReadyH.nil)
        have HX5 := Lib.hid hS4
        clear hS4
        refine step_appT _ (by kernel_rfl) (.tmp 73) (.tmp 75) 56 56 rfl w.heap.size 32 32 iog _ 4 56 Tryz.underlying56 Tryz.underlying56 HIO.out.1 HIO.out.2.1 HIO.out.2.2.1 HIO.out.2.2.2 rfl (by omega) _ j _ (by kernel_rfl) HR4.out.ro (some ⟨w10.heap.size + 1, 0, none⟩) 1 1 [.int .i64 o.ix, .int .i64 o.v, .string o.salt, .slice o.A o.p.length o.c] (by kernel_rfl) (Rd_of_blk (HR4.out.bo _ rfl) rfl) (by simp [Value.oneCell']) (by simp only [maxLen]; omega) (by omega) HR4.out.hB ?_
        intro v2 wx5 hown hg
        have HR5 := Lib.hid (HR4.out.appO hown hg)
        refine hK.out _ _ ⟨HX5.out.1.grown_ hg HU.out.2.1 (Nat.le_refl _), HX5.out.2.grown_ hg HU.out.2.1 (by omega)⟩ (fun hS5 => ?_)
        clear hK K hown hg
        refine wpAnyH_ready (rs := [11]) (by kernel_rfl) (by simp) ?_
        refine AllReadyH.cons rfl (fun K hK => ?_) (AllReadyH.nil)
        have HX6 := Lib.hid hS5
        clear hS5
        refine step_appT _ (by kernel_rfl) (.tmp 77) (.tmp 79) 57 57 rfl w.heap.size 33 33 ikw _ 1 24 Tryz.underlying57 Tryz.underlying57 HIK.out.1 HIK.out.2.1 HIK.out.2.2.1 HIK.out.2.2.2 rfl (by omega) _ j _ (by kernel_rfl) HR5.out.rk (some ⟨w10.heap.size, 0, none⟩) 1 1 [.slice KA l.length kc] (by kernel_rfl) (Rd_of_blk (HR5.out.bk _ rfl) rfl) (by simp [Value.oneCell']) (by simp only [maxLen]; omega) (by omega) HR5.out.hB ?_
        intro v3 wx6 hown hg
        have HR6 := Lib.hid (HR5.out.appK hown hg)
        refine hK.out _ _ ⟨HX6.out.1.grown_ hg HU.out.2.2 (Nat.le_refl _), HX6.out.2.grown_ hg HU.out.2.2 (by omega)⟩ (fun hS6 => ?_)
        clear hK K hown hg
        refine wpAnyH_take (i := 12) (v := ?_) rfl (by kernel_rfl) (by kernel_rfl) (by kernel_rfl) (fun _ _ _ h => h) (Or.inl ⟨by kernel_rfl, ?hy⟩) hS6 ?rest
        case hy => (intro W hSw; clear hSw; go_simp; with_reducible rfl)
        case rest =>
        refine wpAnyH_take (i := 13) (v := ?_) rfl (by kernel_rfl) (by kernel_rfl) (by kernel_rfl) (fun _ _ _ h => h) (Or.inl ⟨by kernel_rfl, ?hy⟩) hS6 ?rest
        case hy => (intro W hSw; clear hSw; go_simp; with_reducible rfl)
        case rest =>
        refine wpAnyH_take (i := 14) (v := ?_) rfl (by kernel_rfl) (by kernel_rfl) (by kernel_rfl) (fun _ _ _ h => h) (Or.inl ⟨by kernel_rfl, ?hy⟩) hS6 ?rest
        case hy => (intro W hSw; clear hSw; go_simp; with_reducible rfl)
        case rest =>
        refine wpAnyH_done (by kernel_rfl) ?_ _
        have HNX := Lib.hid (W1Inv.next HV.out HBX.out HY.out (o := o) (a := ⟨KA, kc, ls⟩) HR6.out (by rw [HG.out.1]; rfl) rfl (by simp [kwC, HLS.out]) HOO.out HPO.out.1 HPO.out.2.1 HPO.out.2.2 HG.out.2.2.2.2.2)
        clear hS6
        go_wp2_with fail
        go_roundw
        case rel => exact ⟨j + 1, os ++ [o], ks ++ [⟨KA, kc, ls⟩], by omega, by go_num, HNX.out⟩
        case measure => first | (simp [intOf]; done) | (simp [intOf]; omega)
  case true =>
    go_wp2_with fail
    obtain ⟨w11, hw11⟩ : ∃ W, (w9.alloc (.cells #[.string cm.1, .string cm.2] 29)).alloc (.cells #[.int .i64 0, .int .i64 0, .string ⟨#[]⟩, .slice none 0 0] 32) = W := ⟨_, rfl⟩
    have HB11 : Hid (Below w9.heap.size w9 w11) := Lib.hid (by rw [← hw11]; exact below_alloc (below_alloc (Below.refl _ _) _) _)
    have HC11 : Hid (Blk w11 w9.heap.size 29 #[.string cm.1, .string cm.2] ∧ Blk w11 (w9.heap.size + 1) 32 #[.int .i64 0, .int .i64 0, .string ⟨#[]⟩, .slice none 0 0]) := Lib.hid (by
      rw [← hw11]
      exact ⟨(Blk.new w9 _ _ _ rfl).alloc _, Blk.new _ _ _ _ (by simp)⟩)
    rw [hw11]
    clear hw11
    have HR0 : Hid (Rows3 w.heap.size w w11 w11 j j j u14 u15 u16 (((l.take j).map (cmK l.length need)).flatMap cmC) (os.flatMap ogC) (ks.flatMap kwC) none none none #[.string cm.1, .string cm.2] #[.int .i64 0, .int .i64 0, .string ⟨#[]⟩, .slice none 0 0] #[.slice KA l.length kc]) := Lib.hid ((HV.out.r.below (below_trans HB9.out HB11.out)).start w11 (TyK.refl _) _ _ _)
    have HBX : Hid (Below w8.heap.size w8 w11) := Lib.hid (below_trans HB9.out HB11.out)
    have HPO : Hid (PathIn w11 zOgT.A zOgT.p ∧ zOgT.p.length ≤ zOgT.c ∧ KwT w11 ⟨KA, kc, ls⟩) := Lib.hid ⟨⟨⟨rfl, fun h => absurd h (by decide)⟩, fun a ha => (by cases ha)⟩, Nat.zero_le _, HG.out.2.2.2.2.1.keep (fun b cs hcs => HB11.out.block b (Array.getElem?_eq_some_iff.1 hcs).1) (fun b cs hcs => HB11.out.block b (Array.getElem?_eq_some_iff.1 hcs).1)⟩
    have HOO : Hid (if cl j then zOgT = zOgT else ∃ A c, zOgT = ogOf y ii A c) := Lib.hid (by rw [HCB.out]; exact rfl)
    have HU := Lib.hid (HV.out.r.uclt w9.heap.size HB9.out.size)
    refine wp_region_held_drew (S := fun W => Blk W w9.heap.size 29 #[.string cm.1, .string cm.2] ∧ Blk W (w9.heap.size + 1) 32 #[.int .i64 0, .int .i64 0, .string ⟨#[]⟩, .slice none 0 0]) (by kernel_rfl) (HC11.out) (fun hS0 => ?_)
    refine wpAnyH_take (i := 0) (v := ?_) rfl (by kernel_rfl) (by kernel_rfl) (by kernel_rfl) (fun _ _ _ h => h) (Or.inl ⟨by kernel_rfl, ?hy⟩) hS0 ?rest
    case hy => (intro W hSw; clear hSw; go_simp; with_reducible rfl)
    case rest =>
    refine wpAnyH_take (i := 1) (v := ?_) rfl (by kernel_rfl) (by kernel_rfl) (by kernel_rfl) (fun _ _ _ h => h) (Or.inl ⟨by kernel_rfl, ?hy⟩) hS0 ?rest
    case hy => (intro W hSw; have z0 := hSw.1.of_cell (i := 0) rfl; have z1 := hSw.1.of_cell (i := 1) rfl; have zl := hSw.1.lt; clear hSw; go_simp; with_reducible rfl)
    case rest =>
    refine wpAnyH_take (i := 4) (v := ?_) rfl (by kernel_rfl) (by kernel_rfl) (by kernel_rfl) (fun _ _ _ h => h) (Or.inl ⟨by kernel_rfl, ?hy⟩) hS0 ?rest
    case hy => (intro W hSw; clear hSw; go_simp; with_reducible rfl)
    case rest =>
    refine wpAnyH_take (i := 5) (v := ?_) rfl (by kernel_rfl) (by kernel_rfl) (by kernel_rfl) (fun _ _ _ h => h) (Or.inl ⟨by kernel_rfl, ?hy⟩) hS0 ?rest
    case hy => (intro W hSw; have z0 := hSw.2.of_cell (i := 0) rfl; have z1 := hSw.2.of_cell (i := 1) rfl; have z2 := hSw.2.of_cell (i := 2) rfl; have z3 := hSw.2.of_cell (i := 3) rfl; have zl := hSw.2.lt; clear hSw; go_simp; with_reducible rfl)
    case rest =>
    refine wpAnyH_take (i := 8) (v := ?_) rfl (by kernel_rfl) (by kernel_rfl) (by kernel_rfl) (fun _ _ _ h => h) (Or.inl ⟨by kernel_rfl, ?hy⟩) hS0 ?rest
    case hy => (intro W hSw; clear hSw; go_simp; with_reducible rfl)
    case rest =>
    refine wpAnyH_take (i := 9) (v := ?_) rfl (by kernel_rfl) (by kernel_rfl) (by kernel_rfl) (fun _ _ _ h => h) (Or.inl ⟨by kernel_rfl, ?hy⟩) hS0 ?rest
    case hy => (intro W hSw; clear hSw; go_simp; with_reducible rfl)
    case rest =>
    try go_simp
    refine wpAnyH_ready (rs := [2, 6, 10]) (by kernel_rfl) (by simp) ?_
    refine AllReadyH.cons rfl (fun K hK => ?_) (AllReadyH.cons rfl (fun K hK => ?_) (AllReadyH.cons rfl (fun K hK => ?_) (AllReadyH.nil)))
    · skip
      go_simp
      refine hK.out _ _ ⟨hS0.1.alloc _, hS0.2.alloc _⟩ (fun hS1 => ?_)
      clear hK K
      have HR1 := Lib.hid (HR0.out.allocC (w11.heap.size) (by simp))
      refine wpAnyH_ready (rs := [3, 6, 10]) (by kernel_rfl) (by simp) ?_
      refine AllReadyH.cons rfl (fun K hK => ?_) (AllReadyH.cons rfl (fun K hK => ?_) (AllReadyH.cons rfl (fun K hK => ?_) (AllReadyH.nil)))
      · skip
        have HX2 := Lib.hid hS1
        clear hS1
        refine step_appT _ (by kernel_rfl) (.tmp 69) (.tmp 71) 55 55 rfl w.heap.size 29 29 icm _ 2 32 Tryz.underlying55 Tryz.underlying55 HIC.out.1 HIC.out.2.1 HIC.out.2.2.1 HIC.out.2.2.2 rfl (by omega) _ j _ (by kernel_rfl) HR1.out.rc (some ⟨w11.heap.size, 0, none⟩) 1 1 [.string cm.1, .string cm.2] (by kernel_rfl) (Rd_of_blk (HR1.out.bc _ rfl) rfl) (by simp [Value.oneCell']) (by simp only [maxLen]; omega) (by omega) HR1.out.hB ?_
        intro v1 wx2 hown hg
        have HR2 := Lib.hid (HR1.out.drew.appC hown hg)
        refine hK.out _ _ ⟨HX2.out.1.grown_ hg HU.out.1 (Nat.le_refl _), HX2.out.2.grown_ hg HU.out.1 (by omega)⟩ (fun hS2 => ?_)
        clear hK K hown hg
        refine wpAnyH_ready (rs := [6, 10]) (by kernel_rfl) (by simp) ?_
        refine AllReadyH.cons rfl (fun K hK => ?_) (AllReadyH.cons rfl (fun K hK => ?_) (AllReadyH.nil))
        · skip
          go_simp
          refine hK.out _ _ ⟨hS2.1.alloc _, hS2.2.alloc _⟩ (fun hS3 => ?_)
          clear hK K
          have HR3 := Lib.hid (HR2.out.allocO (wx2.heap.size) (by simp))
          refine wpAnyH_ready (rs := [7, 10]) (by kernel_rfl) (by simp) ?_
          refine AllReadyH.cons rfl (fun K hK => ?_) (AllReadyH.cons rfl (fun K hK => ?_) (AllReadyH.nil))
          · skip
            have HX4 := Lib.hid hS3
            clear hS3
            refine step_appT _ (by kernel_rfl) (.tmp 73) (.tmp 75) 56 56 rfl w.heap.size 32 32 iog _ 4 56 Tryz.underlying56 Tryz.underlying56 HIO.out.1 HIO.out.2.1 HIO.out.2.2.1 HIO.out.2.2.2 rfl (by omega) _ j _ (by kernel_rfl) HR3.out.ro (some ⟨wx2.heap.size, 0, none⟩) 1 1 [.int .i64 0, .int .i64 0, .string ⟨#[]⟩, .slice none 0 0] (by kernel_rfl) (Rd_of_blk (HR3.out.bo _ rfl) rfl) (by simp [Value.oneCell']) (by simp only [maxLen]; omega) (by omega) HR3.out.hB ?_
            intro v2 wx4 hown hg
            have HR4 := Lib.hid (HR3.out.appO hown hg)
            refine hK.out _ _ ⟨HX4.out.1.grown_ hg HU.out.2.1 (Nat.le_refl _), HX4.out.2.grown_ hg HU.out.2.1 (by omega)⟩ (fun hS4 => ?_)
            clear hK K hown hg
            refine wpAnyH_ready (rs := [10]) (by kernel_rfl) (by simp) ?_
            refine AllReadyH.cons rfl (fun K hK => ?_) (AllReadyH.nil)
            go_simp
            refine hK.out _ _ ⟨hS4.1.alloc _, hS4.2.alloc _⟩ (fun hS5 => ?_)
            clear hK K
            have HR5 := Lib.hid (HR4.out.allocK (wx4.heap.size) (by simp))
            refine wpAnyH_ready (rs := [11]) (by kernel_rfl) (by simp) ?_
            refine AllReadyH.cons rfl (fun K hK => ?_) (AllReadyH.nil)
            have HX6 := Lib.hid hS5
            clear hS5
            refine step_appT _ (by kernel_rfl) (.tmp 77) (.tmp 79) 57 57 rfl w.heap.size 33 33 ikw _ 1 24 Tryz.underlying57 Tryz.underlying57 HIK.out.1 HIK.out.2.1 HIK.out.2.2.1 HIK.out.2.2.2 rfl (by omega) _ j _ (by kernel_rfl) HR5.out.rk (some ⟨wx4.heap.size, 0, none⟩) 1 1 [.slice KA l.length kc] (by kernel_rfl) (Rd_of_blk (HR5.out.bk _ rfl) rfl) (by simp [Value.oneCell']) (by simp only [maxLen]; omega) (by omega) HR5.out.hB ?_
            intro v3 wx6 hown hg
            have HR6 := Lib.hid (HR5.out.appK hown hg)
            refine hK.out _ _ ⟨HX6.out.1.grown_ hg HU.out.2.2 (Nat.le_refl _), HX6.out.2.grown_ hg HU.out.2.2 (by omega)⟩ (fun hS6 => ?_)
            clear hK K hown hg
            refine wpAnyH_take (i := 12) (v := ?_) rfl (by kernel_rfl) (by kernel_rfl) (by kernel_rfl) (fun _ _ _ h => h) (Or.inl ⟨by kernel_rfl, ?hy⟩) hS6 ?rest
            case hy => (intro W hSw; clear hSw; go_simp; with_reducible rfl)
            case rest =>
            refine wpAnyH_take (i := 13) (v := ?_) rfl (by kernel_rfl) (by kernel_rfl) (by kernel_rfl) (fun _ _ _ h => h) (Or.inl ⟨by kernel_rfl, ?hy⟩) hS6 ?rest
            case hy => (intro W hSw; clear hSw; go_simp; with_reducible rfl)
            case rest =>
            refine wpAnyH_take (i := 14) (v := ?_) rfl (by kernel_rfl) (by kernel_rfl) (by kernel_rfl) (fun _ _ _ h => h) (Or.inl ⟨by kernel_rfl, ?hy⟩) hS6 ?rest
            case hy => (intro W hSw; clear hSw; go_simp; with_reducible rfl)
            case rest =>
            refine wpAnyH_done (by kernel_rfl) ?_ _
            have HNX := Lib.hid (W1Inv.next HV.out HBX.out HY.out (o := zOgT) (a := ⟨KA, kc, ls⟩) HR6.out (by rw [HG.out.1]; rfl) rfl (by simp [kwC, HLS.out]) HOO.out HPO.out.1 HPO.out.2.1 HPO.out.2.2 HG.out.2.2.2.2.2)
            clear hS6
            go_wp2_with fail
            go_roundw
            case rel => exact ⟨j + 1, os ++ [zOgT], ks ++ [⟨KA, kc, ls⟩], by omega, by go_num, HNX.out⟩
            case measure => first | (simp [intOf]; done) | (simp [intOf]; omega)
          · skip
            go_simp
            refine hK.out _ _ ⟨hS3.1.alloc _, hS3.2.alloc _⟩ (fun hS4 => ?_)
            clear hK K
            have HR4 := Lib.hid (HR3.out.allocK (wx2.heap.size + 1) (by simp))
            refine wpAnyH_ready (rs := [7]) (by kernel_rfl) (by simp) ?_
            refine AllReadyH.cons rfl (fun K hK => ?_) (AllReadyH.nil)
            have HX5 := Lib.hid hS4
            clear hS4
            refine step_appT _ (by kernel_rfl) (.tmp 73) (.tmp 75) 56 56 rfl w.heap.size 32 32 iog _ 4 56 Tryz.underlying56 Tryz.underlying56 HIO.out.1 HIO.out.2.1 HIO.out.2.2.1 HIO.out.2.2.2 rfl (by omega) _ j _ (by kernel_rfl) HR4.out.ro (some ⟨wx2.heap.size, 0, none⟩) 1 1 [.int .i64 0, .int .i64 0, .string ⟨#[]⟩, .slice none 0 0] (by kernel_rfl) (Rd_of_blk (HR4.out.bo _ rfl) rfl) (by simp [Value.oneCell']) (by simp only [maxLen]; omega) (by omega) HR4.out.hB ?_
            intro v2 wx5 hown hg
            have HR5 := Lib.hid (HR4.out.appO hown hg)
            refine hK.out _ _ ⟨HX5.out.1.grown_ hg HU.out.2.1 (Nat.le_refl _), HX5.out.2.grown_ hg HU.out.2.1 (by omega)⟩ (fun hS5 => ?_)
            clear hK K hown hg
            refine wpAnyH_ready (rs := [11]) (by kernel_rfl) (by simp) ?_
            refine AllReadyH.cons rfl (fun K hK => ?_) (AllReadyH.nil)
            have HX6 := Lib.hid hS5
            clear hS5
            refine step_appT _ (by kernel_rfl) (.tmp 77) (.tmp 79) 57 57 rfl w.heap.size 33 33 ikw _ 1 24 Tryz.underlying57 Tryz.underlying57 HIK.out.1 HIK.out.2.1 HIK.out.2.2.1 HIK.out.2.2.2 rfl (by omega) _ j _ (by kernel_rfl) HR5.out.rk (some ⟨wx2.heap.size + 1, 0, none⟩) 1 1 [.slice KA l.length kc] (by kernel_rfl) (Rd_of_blk (HR5.out.bk _ rfl) rfl) (by simp [Value.oneCell']) (by simp only [maxLen]; omega) (by omega) HR5.out.hB ?_
            intro v3 wx6 hown hg
            have HR6 := Lib.hid (HR5.out.appK hown hg)
            refine hK.out _ _ ⟨HX6.out.1.grown_ hg HU.out.2.2 (Nat.le_refl _), HX6.out.2.grown_ hg HU.out.2.2 (by omega)⟩ (fun hS6 => ?_)
            clear hK K hown hg
            refine wpAnyH_take (i := 12) (v := ?_) rfl (by kernel_rfl) (by kernel_rfl) (by kernel_rfl) (fun _ _ _ h => h) (Or.inl ⟨by kernel_rfl, ?hy⟩) hS6 ?rest
            case hy => (intro W hSw; clear hSw; go_simp; with_reducible rfl)
            case rest =>
            refine wpAnyH_take (i := 13) (v := ?_) rfl (by kernel_rfl) (by kernel_rfl) (by kernel_rfl) (fun _ _ _ h => h) (Or.inl ⟨by kernel_rfl, ?hy⟩) hS6 ?rest
            case hy => (intro W hSw; clear hSw; go_simp; with_reducible rfl)
            case rest =>
            refine wpAnyH_take (i := 14) (v := ?_) rfl (by kernel_rfl) (by kernel_rfl) (by kernel_rfl) (fun _ _ _ h => h) (Or.inl ⟨by kernel_rfl, ?hy⟩) hS6 ?rest
            case hy => (intro W hSw; clear hSw; go_simp; with_reducible rfl)
            case rest =>
            refine wpAnyH_done (by kernel_rfl) ?_ _
            have HNX := Lib.hid (W1Inv.next HV.out HBX.out HY.out (o := zOgT) (a := ⟨KA, kc, ls⟩) HR6.out (by rw [HG.out.1]; rfl) rfl (by simp [kwC, HLS.out]) HOO.out HPO.out.1 HPO.out.2.1 HPO.out.2.2 HG.out.2.2.2.2.2)
            clear hS6
            go_wp2_with fail
            go_roundw
            case rel => exact ⟨j + 1, os ++ [zOgT], ks ++ [⟨KA, kc, ls⟩], by omega, by go_num, HNX.out⟩
            case measure => first | (simp [intOf]; done) | (simp [intOf]; omega)
        · skip
          go_simp
          refine hK.out _ _ ⟨hS2.1.alloc _, hS2.2.alloc _⟩ (fun hS3 => ?_)
          clear hK K
          have HR3 := Lib.hid (HR2.out.allocK (wx2.heap.size) (by simp))
          refine wpAnyH_ready (rs := [6]) (by kernel_rfl) (by simp) ?_
          refine AllReadyH.cons rfl (fun K hK => ?_) (AllReadyH.nil)
          go_simp
          refine hK.out _ _ ⟨hS3.1.alloc _, hS3.2.alloc _⟩ (fun hS4 => ?_)
          clear hK K
          have HR4 := Lib.hid (HR3.out.allocO (wx2.heap.size + 1) (by simp))
          refine wpAnyH_ready (rs := [7]) (by kernel_rfl) (by simp) ?_
          refine AllReadyH.cons rfl (fun K hK => ?_) (AllReadyH.nil)
          have HX5 := Lib.hid hS4
          clear hS4
          refine step_appT _ (by kernel_rfl) (.tmp 73) (.tmp 75) 56 56 rfl w.heap.size 32 32 iog _ 4 56 Tryz.underlying56 Tryz.underlying56 HIO.out.1 HIO.out.2.1 HIO.out.2.2.1 HIO.out.2.2.2 rfl (by omega) _ j _ (by kernel_rfl) HR4.out.ro (some ⟨wx2.heap.size + 1, 0, none⟩) 1 1 [.int .i64 0, .int .i64 0, .string ⟨#[]⟩, .slice none 0 0] (by kernel_rfl) (Rd_of_blk (HR4.out.bo _ rfl) rfl) (by simp [Value.oneCell']) (by simp only [maxLen]; omega) (by omega) HR4.out.hB ?_
          intro v2 wx5 hown hg
          have HR5 := Lib.hid (HR4.out.appO hown hg)
          refine hK.out _ _ ⟨HX5.out.1.grown_ hg HU.out.2.1 (Nat.le_refl _), HX5.out.2.grown_ hg HU.out.2.1 (by omega)⟩ (fun hS5 => ?_)
          clear hK K hown hg
          refine wpAnyH_ready (rs := [11]) (by kernel_rfl) (by simp) ?_
          refine AllReadyH.cons rfl (fun K hK => ?_) (AllReadyH.nil)
          have HX6 := Lib.hid hS5
          clear hS5
          refine step_appT _ (by kernel_rfl) (.tmp 77) (.tmp 79) 57 57 rfl w.heap.size 33 33 ikw _ 1 24 Tryz.underlying57 Tryz.underlying57 HIK.out.1 HIK.out.2.1 HIK.out.2.2.1 HIK.out.2.2.2 rfl (by omega) _ j _ (by kernel_rfl) HR5.out.rk (some ⟨wx2.heap.size, 0, none⟩) 1 1 [.slice KA l.length kc] (by kernel_rfl) (Rd_of_blk (HR5.out.bk _ rfl) rfl) (by simp [Value.oneCell']) (by simp only [maxLen]; omega) (by omega) HR5.out.hB ?_
          intro v3 wx6 hown hg
          have HR6 := Lib.hid (HR5.out.appK hown hg)
          refine hK.out _ _ ⟨HX6.out.1.grown_ hg HU.out.2.2 (Nat.le_refl _), HX6.out.2.grown_ hg HU.out.2.2 (by omega)⟩ (fun hS6 => ?_)
          clear hK K hown hg
          refine wpAnyH_take (i := 12) (v := ?_) rfl (by kernel_rfl) (by kernel_rfl) (by kernel_rfl) (fun _ _ _ h => h) (Or.inl ⟨by kernel_rfl, ?hy⟩) hS6 ?rest
          case hy => (intro W hSw; clear hSw; go_simp; with_reducible rfl)
          case rest =>
          refine wpAnyH_take (i := 13) (v := ?_) rfl (by kernel_rfl) (by kernel_rfl) (by kernel_rfl) (fun _ _ _ h => h) (Or.inl ⟨by kernel_rfl, ?hy⟩) hS6 ?rest
          case hy => (intro W hSw; clear hSw; go_simp; with_reducible rfl)
          case rest =>
          refine wpAnyH_take (i := 14) (v := ?_) rfl (by kernel_rfl) (by kernel_rfl) (by kernel_rfl) (fun _ _ _ h => h) (Or.inl ⟨by kernel_rfl, ?hy⟩) hS6 ?rest
          case hy => (intro W hSw; clear hSw; go_simp; with_reducible rfl)
          case rest =>
          refine wpAnyH_done (by kernel_rfl) ?_ _
          have HNX := Lib.hid (W1Inv.next HV.out HBX.out HY.out (o := zOgT) (a := ⟨KA, kc, ls⟩) HR6.out (by rw [HG.out.1]; rfl) rfl (by simp [kwC, HLS.out]) HOO.out HPO.out.1 HPO.out.2.1 HPO.out.2.2 HG.out.2.2.2.2.2)
          clear hS6
          go_wp2_with fail
          go_roundw
          case rel => exact ⟨j + 1, os ++ [zOgT], ks ++ [⟨KA, kc, ls⟩], by omega, by go_num, HNX.out⟩
          case measure => first | (simp [intOf]; done) | (simp [intOf]; omega)
      · skip
        go_simp
        refine hK.out _ _ ⟨hS1.1.alloc _, hS1.2.alloc _⟩ (fun hS2 => ?_)
        clear hK K
        have HR2 := Lib.hid (HR1.out.allocO (w11.heap.size + 1) (by simp))
        refine wpAnyH_ready (rs := [3, 10]) (by kernel_rfl) (by simp) ?_
        refine AllReadyH.cons rfl (fun K hK => ?_) (AllReadyH.cons rfl (fun K hK => ?_) (AllReadyH.nil))
        · skip
          have HX3 := Lib.hid hS2
          clear hS2
          refine step_appT _ (by kernel_rfl) (.tmp 69) (.tmp 71) 55 55 rfl w.heap.size 29 29 icm _ 2 32 Tryz.underlying55 Tryz.underlying55 HIC.out.1 HIC.out.2.1 HIC.out.2.2.1 HIC.out.2.2.2 rfl (by omega) _ j _ (by kernel_rfl) HR2.out.rc (some ⟨w11.heap.size, 0, none⟩) 1 1 [.string cm.1, .string cm.2] (by kernel_rfl) (Rd_of_blk (HR2.out.bc _ rfl) rfl) (by simp [Value.oneCell']) (by simp only [maxLen]; omega) (by omega) HR2.out.hB ?_
          intro v1 wx3 hown hg
          have HR3 := Lib.hid (HR2.out.drew.appC hown hg)
          refine hK.out _ _ ⟨HX3.out.1.grown_ hg HU.out.1 (Nat.le_refl _), HX3.out.2.grown_ hg HU.out.1 (by omega)⟩ (fun hS3 => ?_)
          clear hK K hown hg
          refine wpAnyH_ready (rs := [7, 10]) (by kernel_rfl) (by simp) ?_
          refine AllReadyH.cons rfl (fun K hK => ?_) (AllReadyH.cons rfl (fun K hK => ?_) (AllReadyH.nil))
          · skip
            have HX4 := Lib.hid hS3
            clear hS3
            refine step_appT _ (by kernel_rfl) (.tmp 73) (.tmp 75) 56 56 rfl w.heap.size 32 32 iog _ 4 56 Tryz.underlying56 Tryz.underlying56 HIO.out.1 HIO.out.2.1 HIO.out.2.2.1 HIO.out.2.2.2 rfl (by omega) _ j _ (by kernel_rfl) HR3.out.ro (some ⟨w11.heap.size + 1, 0, none⟩) 1 1 [.int .i64 0, .int .i64 0, .string ⟨#[]⟩, .slice none 0 0] (by kernel_rfl) (Rd_of_blk (HR3.out.bo _ rfl) rfl) (by simp [Value.oneCell']) (by simp only [maxLen]; omega) (by omega) HR3.out.hB ?_
            intro v2 wx4 hown hg
            have HR4 := Lib.hid (HR3.out.appO hown hg)
            refine hK.out _ _ ⟨HX4.out.1.grown_ hg HU.out.2.1 (Nat.le_refl _), HX4.out.2.grown_ hg HU.out.2.1 (by omega)⟩ (fun hS4 => ?_)
            clear hK K hown hg
            refine wpAnyH_ready (rs := [10]) (by kernel_rfl) (by simp) ?_
            refine AllReadyH.cons rfl (fun K hK => ?_) (AllReadyH.nil)
            go_simp
            refine hK.out _ _ ⟨hS4.1.alloc _, hS4.2.alloc _⟩ (fun hS5 => ?_)
            clear hK K
            have HR5 := Lib.hid (HR4.out.allocK (wx4.heap.size) (by simp))
            refine wpAnyH_ready (rs := [11]) (by kernel_rfl) (by simp) ?_
            refine AllReadyH.cons rfl (fun K hK => ?_) (AllReadyH.nil)
            have HX6 := Lib.hid hS5
            clear hS5
            refine step_appT _ (by kernel_rfl) (.tmp 77) (.tmp 79) 57 57 rfl w.heap.size 33 33 ikw _ 1 24 Tryz.underlying57 Tryz.underlying57 HIK.out.1 HIK.out.2.1 HIK.out.2.2.1 HIK.out.2.2.2 rfl (by omega) _ j _ (by kernel_rfl) HR5.out.rk (some ⟨wx4.heap.size, 0, none⟩) 1 1 [.slice KA l.length kc] (by kernel_rfl) (Rd_of_blk (HR5.out.bk _ rfl) rfl) (by simp [Value.oneCell']) (by simp only [maxLen]; omega) (by omega) HR5.out.hB ?_
            intro v3 wx6 hown hg
            have HR6 := Lib.hid (HR5.out.appK hown hg)
            refine hK.out _ _ ⟨HX6.out.1.grown_ hg HU.out.2.2 (Nat.le_refl _), HX6.out.2.grown_ hg HU.out.2.2 (by omega)⟩ (fun hS6 => ?_)
            clear hK K hown hg
            refine wpAnyH_take (i := 12) (v := ?_) rfl (by kernel_rfl) (by kernel_rfl) (by kernel_rfl) (fun _ _ _ h => h) (Or.inl ⟨by kernel_rfl, ?hy⟩) hS6 ?rest
            case hy => (intro W hSw; clear hSw; go_simp; with_reducible rfl)
            case rest =>
            refine wpAnyH_take (i := 13) (v := ?_) rfl (by kernel_rfl) (by kernel_rfl) (by kernel_rfl) (fun _ _ _ h => h) (Or.inl ⟨by kernel_rfl, ?hy⟩) hS6 ?rest
            case hy => (intro W hSw; clear hSw; go_simp; with_reducible rfl)
            case rest =>
            refine wpAnyH_take (i := 14) (v := ?_) rfl (by kernel_rfl) (by kernel_rfl) (by kernel_rfl) (fun _ _ _ h => h) (Or.inl ⟨by kernel_rfl, ?hy⟩) hS6 ?rest
            case hy => (intro W hSw; clear hSw; go_simp; with_reducible rfl)
            case rest =>
            refine wpAnyH_done (by kernel_rfl) ?_ _
            have HNX := Lib.hid (W1Inv.next HV.out HBX.out HY.out (o := zOgT) (a := ⟨KA, kc, ls⟩) HR6.out (by rw [HG.out.1]; rfl) rfl (by simp [kwC, HLS.out]) HOO.out HPO.out.1 HPO.out.2.1 HPO.out.2.2 HG.out.2.2.2.2.2)
            clear hS6
            go_wp2_with fail
            go_roundw
            case rel => exact ⟨j + 1, os ++ [zOgT], ks ++ [⟨KA, kc, ls⟩], by omega, by go_num, HNX.out⟩
            case measure => first | (simp [intOf]; done) | (simp [intOf]; omega)
          · skip
            go_simp
            refine hK.out _ _ ⟨hS3.1.alloc _, hS3.2.alloc _⟩ (fun hS4 => ?_)
            clear hK K
            have HR4 := Lib.hid (HR3.out.allocK (wx3.heap.size) (by simp))
            refine wpAnyH_ready (rs := [7]) (by kernel_rfl) (by simp) ?_
            refine AllReadyH.cons rfl (fun K hK => ?_) (AllReadyH.nil)
            have HX5 := Lib.hid hS4
            clear hS4
            refine step_appT _ (by kernel_rfl) (.tmp 73) (.tmp 75) 56 56 rfl w.heap.size 32 32 iog _ 4 56 Tryz.underlying56 Tryz.underlying56 HIO.out.1 HIO.out.2.1 HIO.out.2.2.1 HIO.out.2.2.2 rfl (by omega) _ j _ (by kernel_rfl) HR4.out.ro (some ⟨w11.heap.size + 1, 0, none⟩) 1 1 [.int .i64 0, .int .i64 0, .string ⟨#[]⟩, .slice none 0 0] (by kernel_rfl) (Rd_of_blk (HR4.out.bo _ rfl) rfl) (by simp [Value.oneCell']) (by simp only [maxLen]; omega) (by omega) HR4.out.hB ?_
            intro v2 wx5 hown hg
            have HR5 := Lib.hid (HR4.out.appO hown hg)
            refine hK.out _ _ ⟨HX5.out.1.grown_ hg HU.out.2.1 (Nat.le_refl _), HX5.out.2.grown_ hg HU.out.2.1 (by omega)⟩ (fun hS5 => ?_)
            clear hK K hown hg
            refine wpAnyH_ready (rs := [11]) (by kernel_rfl) (by simp) ?_
            refine AllReadyH.cons rfl (fun K hK => ?_) (AllReadyH.nil)
            have HX6 := Lib.hid hS5
            clear hS5
            refine step_appT _ (by kernel_rfl) (.tmp 77) (.tmp 79) 57 57 rfl w.heap.size 33 33 ikw _ 1 24 Tryz.underlying57 Tryz.underlying57 HIK.out.1 HIK.out.2.1 HIK.out.2.2.1 HIK.out.2.2.2 rfl (by omega) _ j _ (by kernel_rfl) HR5.out.rk (some ⟨wx3.heap.size, 0, none⟩) 1 1 [.slice KA l.length kc] (by kernel_rfl) (Rd_of_blk (HR5.out.bk _ rfl) rfl) (by simp [Value.oneCell']) (by simp only [maxLen]; omega) (by omega) HR5.out.hB ?_
            intro v3 wx6 hown hg
            have HR6 := Lib.hid (HR5.out.appK hown hg)
            refine hK.out _ _ ⟨HX6.out.1.grown_ hg HU.out.2.2 (Nat.le_refl _), HX6.out.2.grown_ hg HU.out.2.2 (by omega)⟩ (fun hS6 => ?_)
            clear hK K hown hg
            refine wpAnyH_take (i := 12) (v := ?_) rfl (by kernel_rfl) (by kernel_rfl) (by kernel_rfl) (fun _ _ _ h => h) (Or.inl ⟨by kernel_rfl, ?hy⟩) hS6 ?rest
            case hy => (intro W hSw; clear hSw; go_simp; with_reducible rfl)
            case rest =>
            refine wpAnyH_take (i := 13) (v := ?_) rfl (by kernel_rfl) (by kernel_rfl) (by kernel_rfl) (fun _ _ _ h => h) (Or.inl ⟨by kernel_rfl, ?hy⟩) hS6 ?rest
            case hy => (intro W hSw; clear hSw; go_simp; with_reducible rfl)
            case rest =>
            refine wpAnyH_take (i := 14) (v := ?_) rfl (by kernel_rfl) (by kernel_rfl) (by kernel_rfl) (fun _ _ _ h => h) (Or.inl ⟨by kernel_rfl, ?hy⟩) hS6 ?rest
            case hy => (intro W hSw; clear hSw; go_simp; with_reducible rfl)
            case rest =>
            refine wpAnyH_done (by kernel_rfl) ?_ _
            have HNX := Lib.hid (W1Inv.next HV.out HBX.out HY.out (o := zOgT) (a := ⟨KA, kc, ls⟩) HR6.out (by rw [HG.out.1]; rfl) rfl (by simp [kwC, HLS.out]) HOO.out HPO.out.1 HPO.out.2.1 HPO.out.2.2 HG.out.2.2.2.2.2)
            clear hS6
            go_wp2_with fail
            go_roundw
            case rel => exact ⟨j + 1, os ++ [zOgT], ks ++ [⟨KA, kc, ls⟩], by omega, by go_num, HNX.out⟩
            case measure => first | (simp [intOf]; done) | (simp [intOf]; omega)
        · skip
          go_simp
          refine hK.out _ _ ⟨hS2.1.alloc _, hS2.2.alloc _⟩ (fun hS3 => ?_)
          clear hK K
          have HR3 := Lib.hid (HR2.out.allocK (w11.heap.size + 2) (by simp))
          refine wpAnyH_ready (rs := [3]) (by kernel_rfl) (by simp) ?_
          refine AllReadyH.cons rfl (fun K hK => ?_) (AllReadyH.nil)
          have HX4 := Lib.hid hS3
          clear hS3
          refine step_appT _ (by kernel_rfl) (.tmp 69) (.tmp 71) 55 55 rfl w.heap.size 29 29 icm _ 2 32 Tryz.underlying55 Tryz.underlying55 HIC.out.1 HIC.out.2.1 HIC.out.2.2.1 HIC.out.2.2.2 rfl (by omega) _ j _ (by kernel_rfl) HR3.out.rc (some ⟨w11.heap.size, 0, none⟩) 1 1 [.string cm.1, .string cm.2] (by kernel_rfl) (Rd_of_blk (HR3.out.bc _ rfl) rfl) (by simp [Value.oneCell']) (by simp only [maxLen]; omega) (by omega) HR3.out.hB ?_
          intro v1 wx4 hown hg
          have HR4 := Lib.hid (HR3.out.drew.appC hown hg)
          refine hK.out _ _ ⟨HX4.out.1.grown_ hg HU.out.1 (Nat.le_refl _), HX4.out.2.grown_ hg HU.out.1 (by omega)⟩ (fun hS4 => ?_)
          clear hK K hown hg
          refine wpAnyH_ready (rs := [7]) (by kernel_rfl) (by simp) ?_
          refine AllReadyH.cons rfl (fun K hK => ?_) (AllReadyH.nil)
          have HX5 := Lib.hid hS4
          clear hS4
          refine step_appT _ (by kernel_rfl) (.tmp 73) (.tmp 75) 56 56 rfl w.heap.size 32 32 iog _ 4 56 Tryz.underlying56 Tryz.underlying56 HIO.out.1 HIO.out.2.1 HIO.out.2.2.1 HIO.out.2.2.2 rfl (by omega) _ j _ (by kernel_rfl) HR4.out.ro (some ⟨w11.heap.size + 1, 0, none⟩) 1 1 [.int .i64 0, .int .i64 0, .string ⟨#[]⟩, .slice none 0 0] (by kernel_rfl) (Rd_of_blk (HR4.out.bo _ rfl) rfl) (by simp [Value.oneCell']) (by simp only [maxLen]; omega) (by omega) HR4.out.hB ?_
          intro v2 wx5 hown hg
          have HR5 := Lib.hid (HR4.out.appO hown hg)
          refine hK.out _ _ ⟨HX5.out.1.grown_ hg HU.out.2.1 (Nat.le_refl _), HX5.out.2.grown_ hg HU.out.2.1 (by omega)⟩ (fun hS5 => ?_)
          clear hK K hown hg
          refine wpAnyH_ready (rs := [11]) (by kernel_rfl) (by simp) ?_
          refine AllReadyH.cons rfl (fun K hK => ?_) (AllReadyH.nil)
          have HX6 := Lib.hid hS5
          clear hS5
          refine step_appT _ (by kernel_rfl) (.tmp 77) (.tmp 79) 57 57 rfl w.heap.size 33 33 ikw _ 1 24 Tryz.underlying57 Tryz.underlying57 HIK.out.1 HIK.out.2.1 HIK.out.2.2.1 HIK.out.2.2.2 rfl (by omega) _ j _ (by kernel_rfl) HR5.out.rk (some ⟨w11.heap.size + 2, 0, none⟩) 1 1 [.slice KA l.length kc] (by kernel_rfl) (Rd_of_blk (HR5.out.bk _ rfl) rfl) (by simp [Value.oneCell']) (by simp only [maxLen]; omega) (by omega) HR5.out.hB ?_
          intro v3 wx6 hown hg
          have HR6 := Lib.hid (HR5.out.appK hown hg)
          refine hK.out _ _ ⟨HX6.out.1.grown_ hg HU.out.2.2 (Nat.le_refl _), HX6.out.2.grown_ hg HU.out.2.2 (by omega)⟩ (fun hS6 => ?_)
          clear hK K hown hg
          refine wpAnyH_take (i := 12) (v := ?_) rfl (by kernel_rfl) (by kernel_rfl) (by kernel_rfl) (fun _ _ _ h => h) (Or.inl ⟨by kernel_rfl, ?hy⟩) hS6 ?rest
          case hy => (intro W hSw; clear hSw; go_simp; with_reducible rfl)
          case rest =>
          refine wpAnyH_take (i := 13) (v := ?_) rfl (by kernel_rfl) (by kernel_rfl) (by kernel_rfl) (fun _ _ _ h => h) (Or.inl ⟨by kernel_rfl, ?hy⟩) hS6 ?rest
          case hy => (intro W hSw; clear hSw; go_simp; with_reducible rfl)
          case rest =>
          refine wpAnyH_take (i := 14) (v := ?_) rfl (by kernel_rfl) (by kernel_rfl) (by kernel_rfl) (fun _ _ _ h => h) (Or.inl ⟨by kernel_rfl, ?hy⟩) hS6 ?rest
          case hy => (intro W hSw; clear hSw; go_simp; with_reducible rfl)
          case rest =>
          refine wpAnyH_done (by kernel_rfl) ?_ _
          have HNX := Lib.hid (W1Inv.next HV.out HBX.out HY.out (o := zOgT) (a := ⟨KA, kc, ls⟩) HR6.out (by rw [HG.out.1]; rfl) rfl (by simp [kwC, HLS.out]) HOO.out HPO.out.1 HPO.out.2.1 HPO.out.2.2 HG.out.2.2.2.2.2)
          clear hS6
          go_wp2_with fail
          go_roundw
          case rel => exact ⟨j + 1, os ++ [zOgT], ks ++ [⟨KA, kc, ls⟩], by omega, by go_num, HNX.out⟩
          case measure => first | (simp [intOf]; done) | (simp [intOf]; omega)
      · skip
        go_simp
        refine hK.out _ _ ⟨hS1.1.alloc _, hS1.2.alloc _⟩ (fun hS2 => ?_)
        clear hK K
        have HR2 := Lib.hid (HR1.out.allocK (w11.heap.size + 1) (by simp))
        refine wpAnyH_ready (rs := [3, 6]) (by kernel_rfl) (by simp) ?_
        refine AllReadyH.cons rfl (fun K hK => ?_) (AllReadyH.cons rfl (fun K hK => ?_) (AllReadyH.nil))
        · skip
          have HX3 := Lib.hid hS2
          clear hS2
          refine step_appT _ (by kernel_rfl) (.tmp 69) (.tmp 71) 55 55 rfl w.heap.size 29 29 icm _ 2 32 Tryz.underlying55 Tryz.underlying55 HIC.out.1 HIC.out.2.1 HIC.out.2.2.1 HIC.out.2.2.2 rfl (by omega) _ j _ (by kernel_rfl) HR2.out.rc (some ⟨w11.heap.size, 0, none⟩) 1 1 [.string cm.1, .string cm.2] (by kernel_rfl) (Rd_of_blk (HR2.out.bc _ rfl) rfl) (by simp [Value.oneCell']) (by simp only [maxLen]; omega) (by omega) HR2.out.hB ?_
          intro v1 wx3 hown hg
          have HR3 := Lib.hid (HR2.out.drew.appC hown hg)
          refine hK.out _ _ ⟨HX3.out.1.grown_ hg HU.out.1 (Nat.le_refl _), HX3.out.2.grown_ hg HU.out.1 (by omega)⟩ (fun hS3 => ?_)
          clear hK K hown hg
          refine wpAnyH_ready (rs := [6]) (by kernel_rfl) (by simp) ?_
          refine AllReadyH.cons rfl (fun K hK => ?_) (AllReadyH.nil)
          go_simp
          refine hK.out _ _ ⟨hS3.1.alloc _, hS3.2.alloc _⟩ (fun hS4 => ?_)
          clear hK K
          have HR4 := Lib.hid (HR3.out.allocO (wx3.heap.size) (by simp))
          refine wpAnyH_ready (rs := [7]) (by kernel_rfl) (by simp) ?_
          refine AllReadyH.cons rfl (fun K hK => ?_) (AllReadyH.nil)
          have HX5 := Lib.hid hS4
          clear hS4
          refine step_appT _ (by kernel_rfl) (.tmp 73) (.tmp 75) 56 56 rfl w.heap.size 32 32 iog _ 4 56 Tryz.underlying56 Tryz.underlying56 HIO.out.1 HIO.out.2.1 HIO.out.2.2.1 HIO.out.2.2.2 rfl (by omega) _ j _ (by kernel_rfl) HR4.out.ro (some ⟨wx3.heap.size, 0, none⟩) 1 1 [.int .i64 0, .int .i64 0, .string ⟨#[]⟩, .slice none 0 0] (by kernel_rfl) (Rd_of_blk (HR4.out.bo _ rfl) rfl) (by simp [Value.oneCell']) (by simp only [maxLen]; omega) (by omega) HR4.out.hB ?_
          intro v2 wx5 hown hg
          have HR5 := Lib.hid (HR4.out.appO hown hg)
          refine hK.out _ _ ⟨HX5.out.1.grown_ hg HU.out.2.1 (Nat.le_refl _), HX5.out.2.grown_ hg HU.out.2.1 (by omega)⟩ (fun hS5 => ?_)
          clear hK K hown hg
          refine wpAnyH_ready (rs := [11]) (by kernel_rfl) (by simp) ?_
          refine AllReadyH.cons rfl (fun K hK => ?_) (AllReadyH.nil)
          have HX6 := Lib.hid hS5
          clear hS5
          refine step_appT _ (by kernel_rfl) (.tmp 77) (.tmp 79) 57 57 rfl w.heap.size 33 33 ikw _ 1 24 Tryz.underlying57 Tryz.underlying57 HIK.out.1 HIK.out.2.1 HIK.out.2.2.1 HIK.out.2.2.2 rfl (by omega) _ j _ (by kernel_rfl) HR5.out.rk (some ⟨w11.heap.size + 1, 0, none⟩) 1 1 [.slice KA l.length kc] (by kernel_rfl) (Rd_of_blk (HR5.out.bk _ rfl) rfl) (by simp [Value.oneCell']) (by simp only [maxLen]; omega) (by omega) HR5.out.hB ?_
          intro v3 wx6 hown hg
          have HR6 := Lib.hid (HR5.out.appK hown hg)
          refine hK.out _ _ ⟨HX6.out.1.grown_ hg HU.out.2.2 (Nat.le_refl _), HX6.out.2.grown_ hg HU.out.2.2 (by omega)⟩ (fun hS6 => ?_)
          clear hK K hown hg
          refine wpAnyH_take (i := 12) (v := ?_) rfl (by kernel_rfl) (by kernel_rfl) (by kernel_rfl) (fun _ _ _ h => h) (Or.inl ⟨by kernel_rfl, ?hy⟩) hS6 ?rest
          case hy => (intro W hSw; clear hSw; go_simp; with_reducible rfl)
          case rest =>
          refine wpAnyH_take (i := 13) (v := ?_) rfl (by kernel_rfl) (by kernel_rfl) (by kernel_rfl) (fun _ _ _ h => h) (Or.inl ⟨by kernel_rfl, ?hy⟩) hS6 ?rest
          case hy => (intro W hSw; clear hSw; go_simp; with_reducible rfl)
          case rest =>
          refine wpAnyH_take (i := 14) (v := ?_) rfl (by kernel_rfl) (by kernel_rfl) (by kernel_rfl) (fun _ _ _ h => h) (Or.inl ⟨by kernel_rfl, ?hy⟩) hS6 ?rest
          case hy => (intro W hSw; clear hSw; go_simp; with_reducible rfl)
          case rest =>
          refine wpAnyH_done (by kernel_rfl) ?_ _
          have HNX := Lib.hid (W1Inv.next HV.out HBX.out HY.out (o := zOgT) (a := ⟨KA, kc, ls⟩) HR6.out (by rw [HG.out.1]; rfl) rfl (by simp [kwC, HLS.out]) HOO.out HPO.out.1 HPO.out.2.1 HPO.out.2.2 HG.out.2.2.2.2.2)
          clear hS6
          go_wp2_with fail
          go_roundw
          case rel => exact ⟨j + 1, os ++ [zOgT], ks ++ [⟨KA, kc, ls⟩], by omega, by go_num, HNX.out⟩
          case measure => first | (simp [intOf]; done) | (simp [intOf]; omega)
        · skip
          go_simp
          refine hK.out _ _ ⟨hS2.1.alloc _, hS2.2.alloc _⟩ (fun hS3 => ?_)
          clear hK K
          have HR3 := Lib.hid (HR2.out.allocO (w11.heap.size + 2) (by simp))
          refine wpAnyH_ready (rs := [3]) (by kernel_rfl) (by simp) ?_
          refine AllReadyH.cons rfl (fun K hK => ?_) (AllReadyH.nil)
          have HX4 := Lib.hid hS3
          clear hS3
          refine step_appT _ (by kernel_rfl) (.tmp 69) (.tmp 71) 55 55 rfl w.heap.size 29 29 icm _ 2 32 Tryz.underlying55 Tryz.underlying55 HIC.out.1 HIC.out.2.1 HIC.out.2.2.1 HIC.out.2.2.2 rfl (by omega) _ j _ (by kernel_rfl) HR3.out.rc (some ⟨w11.heap.size, 0, none⟩) 1 1 [.string cm.1, .string cm.2] (by kernel_rfl) (Rd_of_blk (HR3.out.bc _ rfl) rfl) (by simp [Value.oneCell']) (by simp only [maxLen]; omega) (by omega) HR3.out.hB ?_
          intro v1 wx4 hown hg
          have HR4 := Lib.hid (HR3.out.drew.appC hown hg)
          refine hK.out _ _ ⟨HX4.out.1.grown_ hg HU.out.1 (Nat.le_refl _), HX4.out.2.grown_ hg HU.out.1 (by omega)⟩ (fun hS4 => ?_)
          clear hK K hown hg
          refine wpAnyH_ready (rs := [7]) (by kernel_rfl) (by simp) ?_
          refine AllReadyH.cons rfl (fun K hK => ?_) (AllReadyH.nil)
          have HX5 := Lib.hid hS4
          clear hS4
          refine step_appT _ (by kernel_rfl) (.tmp 73) (.tmp 75) 56 56 rfl w.heap.size 32 32 iog _ 4 56 Tryz.underlying56 Tryz.underlying56 HIO.out.1 HIO.out.2.1 HIO.out.2.2.1 HIO.out.2.2.2 rfl (by omega) _ j _ (by kernel_rfl) HR4.out.ro (some ⟨w11.heap.size + 2, 0, none⟩) 1 1 [.int .i64 0, .int .i64 0, .string ⟨#[]⟩, .slice none 0 0] (by kernel_rfl) (Rd_of_blk (HR4.out.bo _ rfl) rfl) (by simp [Value.oneCell']) (by simp only [maxLen]; omega) (by omega) HR4.out.hB ?_
          intro v2 wx5 hown hg
          have HR5 := Lib.hid (HR4.out.appO hown hg)
          refine hK.out _ _ ⟨HX5.out.1.grown_ hg HU.out.2.1 (Nat.le_refl _), HX5.out.2.grown_ hg HU.out.2.1 (by omega)⟩ (fun hS5 => ?_)
          clear hK K hown hg
          refine wpAnyH_ready (rs := [11]) (by kernel_rfl) (by simp) ?_
          refine AllReadyH.cons rfl (fun K hK => ?_) (AllReadyH.nil)
          have HX6 := Lib.hid hS5
          clear hS5
          refine step_appT _ (by kernel_rfl) (.tmp 77) (.tmp 79) 57 57 rfl w.heap.size 33 33 ikw _ 1 24 Tryz.underlying57 Tryz.underlying57 HIK.out.1 HIK.out.2.1 HIK.out.2.2.1 HIK.out.2.2.2 rfl (by omega) _ j _ (by kernel_rfl) HR5.out.rk (some ⟨w11.heap.size + 1, 0, none⟩) 1 1 [.slice KA l.length kc] (by kernel_rfl) (Rd_of_blk (HR5.out.bk _ rfl) rfl) (by simp [Value.oneCell']) (by simp only [maxLen]; omega) (by omega) HR5.out.hB ?_
          intro v3 wx6 hown hg
          have HR6 := Lib.hid (HR5.out.appK hown hg)
          refine hK.out _ _ ⟨HX6.out.1.grown_ hg HU.out.2.2 (Nat.le_refl _), HX6.out.2.grown_ hg HU.out.2.2 (by omega)⟩ (fun hS6 => ?_)
          clear hK K hown hg
          refine wpAnyH_take (i := 12) (v := ?_) rfl (by kernel_rfl) (by kernel_rfl) (by kernel_rfl) (fun _ _ _ h => h) (Or.inl ⟨by kernel_rfl, ?hy⟩) hS6 ?rest
          case hy => (intro W hSw; clear hSw; go_simp; with_reducible rfl)
          case rest =>
          refine wpAnyH_take (i := 13) (v := ?_) rfl (by kernel_rfl) (by kernel_rfl) (by kernel_rfl) (fun _ _ _ h => h) (Or.inl ⟨by kernel_rfl, ?hy⟩) hS6 ?rest
          case hy => (intro W hSw; clear hSw; go_simp; with_reducible rfl)
          case rest =>
          refine wpAnyH_take (i := 14) (v := ?_) rfl (by kernel_rfl) (by kernel_rfl) (by kernel_rfl) (fun _ _ _ h => h) (Or.inl ⟨by kernel_rfl, ?hy⟩) hS6 ?rest
          case hy => (intro W hSw; clear hSw; go_simp; with_reducible rfl)
          case rest =>
          refine wpAnyH_done (by kernel_rfl) ?_ _
          have HNX := Lib.hid (W1Inv.next HV.out HBX.out HY.out (o := zOgT) (a := ⟨KA, kc, ls⟩) HR6.out (by rw [HG.out.1]; rfl) rfl (by simp [kwC, HLS.out]) HOO.out HPO.out.1 HPO.out.2.1 HPO.out.2.2 HG.out.2.2.2.2.2)
          clear hS6
          go_wp2_with fail
          go_roundw
          case rel => exact ⟨j + 1, os ++ [zOgT], ks ++ [⟨KA, kc, ls⟩], by omega, by go_num, HNX.out⟩
          case measure => first | (simp [intOf]; done) | (simp [intOf]; omega)
    · skip
      go_simp
      refine hK.out _ _ ⟨hS0.1.alloc _, hS0.2.alloc _⟩ (fun hS1 => ?_)
      clear hK K
      have HR1 := Lib.hid (HR0.out.allocO (w11.heap.size) (by simp))
      refine wpAnyH_ready (rs := [2, 10]) (by kernel_rfl) (by simp) ?_
      refine AllReadyH.cons rfl (fun K hK => ?_) (AllReadyH.cons rfl (fun K hK => ?_) (AllReadyH.nil))
      · skip
        go_simp
        refine hK.out _ _ ⟨hS1.1.alloc _, hS1.2.alloc _⟩ (fun hS2 => ?_)
        clear hK K
        have HR2 := Lib.hid (HR1.out.allocC (w11.heap.size + 1) (by simp))
        refine wpAnyH_ready (rs := [3, 10]) (by kernel_rfl) (by simp) ?_
        refine AllReadyH.cons rfl (fun K hK => ?_) (AllReadyH.cons rfl (fun K hK => ?_) (AllReadyH.nil))
        · skip
          have HX3 := Lib.hid hS2
          clear hS2
          refine step_appT _ (by kernel_rfl) (.tmp 69) (.tmp 71) 55 55 rfl w.heap.size 29 29 icm _ 2 32 Tryz.underlying55 Tryz.underlying55 HIC.out.1 HIC.out.2.1 HIC.out.2.2.1 HIC.out.2.2.2 rfl (by omega) _ j _ (by kernel_rfl) HR2.out.rc (some ⟨w11.heap.size + 1, 0, none⟩) 1 1 [.string cm.1, .string cm.2] (by kernel_rfl) (Rd_of_blk (HR2.out.bc _ rfl) rfl) (by simp [Value.oneCell']) (by simp only [maxLen]; omega) (by omega) HR2.out.hB ?_
          intro v1 wx3 hown hg
          have HR3 := Lib.hid (HR2.out.drew.appC hown hg)
          refine hK.out _ _ ⟨HX3.out.1.grown_ hg HU.out.1 (Nat.le_refl _), HX3.out.2.grown_ hg HU.out.1 (by omega)⟩ (fun hS3 => ?_)
          clear hK K hown hg
          refine wpAnyH_ready (rs := [7, 10]) (by kernel_rfl) (by simp) ?_
          refine AllReadyH.cons rfl (fun K hK => ?_) (AllReadyH.cons rfl (fun K hK => ?_) (AllReadyH.nil))
          · skip
            have HX4 := Lib.hid hS3
            clear hS3
            refine step_appT _ (by kernel_rfl) (.tmp 73) (.tmp 75) 56 56 rfl w.heap.size 32 32 iog _ 4 56 Tryz.underlying56 Tryz.underlying56 HIO.out.1 HIO.out.2.1 HIO.out.2.2.1 HIO.out.2.2.2 rfl (by omega) _ j _ (by kernel_rfl) HR3.out.ro (some ⟨w11.heap.size, 0, none⟩) 1 1 [.int .i64 0, .int .i64 0, .string ⟨#[]⟩, .slice none 0 0] (by kernel_rfl) (Rd_of_blk (HR3.out.bo _ rfl) rfl) (by simp [Value.oneCell']) (by simp only [maxLen]; omega) (by omega) HR3.out.hB ?_
            intro v2 wx4 hown hg
            have HR4 := Lib.hid (HR3.out.appO hown hg)
            refine hK.out _ _ ⟨HX4.out.1.grown_ hg HU.out.2.1 (Nat.le_refl _), HX4.out.2.grown_ hg HU.out.2.1 (by omega)⟩ (fun hS4 => ?_)
            clear hK K hown hg
            refine wpAnyH_ready (rs := [10]) (by kernel_rfl) (by simp) ?_
            refine AllReadyH.cons rfl (fun K hK => ?_) (AllReadyH.nil)
            go_simp
            refine hK.out _ _ ⟨hS4.1.alloc _, hS4.2.alloc _⟩ (fun hS5 => ?_)
            clear hK K
            have HR5 := Lib.hid (HR4.out.allocK (wx4.heap.size) (by simp))
            refine wpAnyH_ready (rs := [11]) (by kernel_rfl) (by simp) ?_
            refine AllReadyH.cons rfl (fun K hK => ?_) (AllReadyH.nil)
            have HX6 := Lib.hid hS5
            clear hS5
            refine step_appT _ (by kernel_rfl) (.tmp 77) (.tmp 79) 57 57 rfl w.heap.size 33 33 ikw _ 1 24 Tryz.underlying57 Tryz.underlying57 HIK.out.1 HIK.out.2.1 HIK.out.2.2.1 HIK.out.2.2.2 rfl (by omega) _ j _ (by kernel_rfl) HR5.out.rk (some ⟨wx4.heap.size, 0, none⟩) 1 1 [.slice KA l.length kc] (by kernel_rfl) (Rd_of_blk (HR5.out.bk _ rfl) rfl) (by simp [Value.oneCell']) (by simp only [maxLen]; omega) (by omega) HR5.out.hB ?_
            intro v3 wx6 hown hg
            have HR6 := Lib.hid (HR5.out.appK hown hg)
            refine hK.out _ _ ⟨HX6.out.1.grown_ hg HU.out.2.2 (Nat.le_refl _), HX6.out.2.grown_ hg HU.out.2.2 (by omega)⟩ (fun hS6 => ?_)
            clear hK K hown hg
            refine wpAnyH_take (i := 12) (v := ?_) rfl (by kernel_rfl) (by kernel_rfl) (by kernel_rfl) (fun _ _ _ h => h) (Or.inl ⟨by kernel_rfl, ?hy⟩) hS6 ?rest
            case hy => (intro W hSw; clear hSw; go_simp; with_reducible rfl)
            case rest =>
            refine wpAnyH_take (i := 13) (v := ?_) rfl (by kernel_rfl) (by kernel_rfl) (by kernel_rfl) (fun _ _ _ h => h) (Or.inl ⟨by kernel_rfl, ?hy⟩) hS6 ?rest
            case hy => (intro W hSw; clear hSw; go_simp; with_reducible rfl)
            case rest =>
            refine wpAnyH_take (i := 14) (v := ?_) rfl (by kernel_rfl) (by kernel_rfl) (by kernel_rfl) (fun _ _ _ h => h) (Or.inl ⟨by kernel_rfl, ?hy⟩) hS6 ?rest
            case hy => (intro W hSw; clear hSw; go_simp; with_reducible rfl)
            case rest =>
            refine wpAnyH_done (by kernel_rfl) ?_ _
            have HNX := Lib.hid (W1Inv.next HV.out HBX.out HY.out (o := zOgT) (a := ⟨KA, kc, ls⟩) HR6.out (by rw [HG.out.1]; rfl) rfl (by simp [kwC, HLS.out]) HOO.out HPO.out.1 HPO.out.2.1 HPO.out.2.2 HG.out.2.2.2.2.2)
            clear hS6
            go_wp2_with fail
            go_roundw
            case rel => exact ⟨j + 1, os ++ [zOgT], ks ++ [⟨KA, kc, ls⟩], by omega, by go_num, HNX.out⟩
            case measure => first | (simp [intOf]; done) | (simp [intOf]; omega)
          · skip
            go_simp
            refine hK.out _ _ ⟨hS3.1.alloc _, hS3.2.alloc _⟩ (fun hS4 => ?_)
            clear hK K
            have HR4 := Lib.hid (HR3.out.allocK (wx3.heap.size) (by simp))
            refine wpAnyH_ready (rs := [7]) (by kernel_rfl) (by simp) ?_
            refine AllReadyH.cons rfl (fun K hK => ?_) (AllReadyH.nil)
            have HX5 := Lib.hid hS4
            clear hS4
            refine step_appT _ (by kernel_rfl) (.tmp 73) (.tmp 75) 56 56 rfl w.heap.size 32 32 iog _ 4 56 Tryz.underlying56 Tryz.underlying56 HIO.out.1 HIO.out.2.1 HIO.out.2.2.1 HIO.out.2.2.2 rfl (by omega) _ j _ (by kernel_rfl) HR4.out.ro (some ⟨w11.heap.size, 0, none⟩) 1 1 [.int .i64 0, .int .i64 0, .string ⟨#[]⟩, .slice none 0 0] (by kernel_rfl) (Rd_of_blk (HR4.out.bo _ rfl) rfl) (by simp [Value.oneCell']) (by simp only [maxLen]; omega) (by omega) HR4.out.hB ?_
            intro v2 wx5 hown hg
            have HR5 := Lib.hid (HR4.out.appO hown hg)
            refine hK.out _ _ ⟨HX5.out.1.grown_ hg HU.out.2.1 (Nat.le_refl _), HX5.out.2.grown_ hg HU.out.2.1 (by omega)⟩ (fun hS5 => ?_)
            clear hK K hown hg
            refine wpAnyH_ready (rs := [11]) (by kernel_rfl) (by simp) ?_
            refine AllReadyH.cons rfl (fun K hK => ?_) (AllReadyH.nil)
            have HX6 := Lib.hid hS5
            clear hS5
            refine step_appT _ (by kernel_rfl) (.tmp 77) (.tmp 79) 57 57 rfl w.heap.size 33 33 ikw _ 1 24 Tryz.underlying57 Tryz.underlying57 HIK.out.1 HIK.out.2.1 HIK.out.2.2.1 HIK.out.2.2.2 rfl (by omega) _ j _ (by kernel_rfl) HR5.out.rk (some ⟨wx3.heap.size, 0, none⟩) 1 1 [.slice KA l.length kc] (by kernel_rfl) (Rd_of_blk (HR5.out.bk _ rfl) rfl) (by simp [Value.oneCell']) (by simp only [maxLen]; omega) (by omega) HR5.out.hB ?_
            intro v3 wx6 hown hg
            have HR6 := Lib.hid (HR5.out.appK hown hg)
            refine hK.out _ _ ⟨HX6.out.1.grown_ hg HU.out.2.2 (Nat.le_refl _), HX6.out.2.grown_ hg HU.out.2.2 (by omega)⟩ (fun hS6 => ?_)
            clear hK K hown hg
            refine wpAnyH_take (i := 12) (v := ?_) rfl (by kernel_rfl) (by kernel_rfl) (by kernel_rfl) (fun _ _ _ h => h) (Or.inl ⟨by kernel_rfl, ?hy⟩) hS6 ?rest
            case hy => (intro W hSw; clear hSw; go_simp; with_reducible rfl)
            case rest =>
            refine wpAnyH_take (i := 13) (v := ?_) rfl (by kernel_rfl) (by kernel_rfl) (by kernel_rfl) (fun _ _ _ h => h) (Or.inl ⟨by kernel_rfl, ?hy⟩) hS6 ?rest
            case hy => (intro W hSw; clear hSw; go_simp; with_reducible rfl)
            case rest =>
            refine wpAnyH_take (i := 14) (v := ?_) rfl (by kernel_rfl) (by kernel_rfl) (by kernel_rfl) (fun _ _ _ h => h) (Or.inl ⟨by kernel_rfl, ?hy⟩) hS6 ?rest
            case hy => (intro W hSw; clear hSw; go_simp; with_reducible rfl)
            case rest =>
            refine wpAnyH_done (by kernel_rfl) ?_ _
            have HNX := Lib.hid (W1Inv.next HV.out HBX.out HY.out (o := zOgT) (a := ⟨KA, kc, ls⟩) HR6.out (by rw [HG.out.1]; rfl) rfl (by simp [kwC, HLS.out]) HOO.out HPO.out.1 HPO.out.2.1 HPO.out.2.2 HG.out.2.2.2.2.2)
            clear hS6
            go_wp2_with fail
            go_roundw
            case rel => exact ⟨j + 1, os ++ [zOgT], ks ++ [⟨KA, kc, ls⟩], by omega, by go_num, HNX.out⟩
            case measure => first | (simp [intOf]; done) | (simp [intOf]; omega)
        · skip
          go_simp
          refine hK.out _ _ ⟨hS2.1.alloc _, hS2.2.alloc _⟩ (fun hS3 => ?_)
          clear hK K
          have HR3 := Lib.hid (HR2.out.allocK (w11.heap.size + 2) (by simp))
          refine wpAnyH_ready (rs := [3]) (by kernel_rfl) (by simp) ?_
          refine AllReadyH.cons rfl (fun K hK => ?_) (AllReadyH.nil)
          have HX4 := Lib.hid hS3
          clear hS3
          refine step_appT _ (by kernel_rfl) (.tmp 69) (.tmp 71) 55 55 rfl w.heap.size 29 29 icm _ 2 32 Tryz.underlying55 Tryz.underlying55 HIC.out.1 HIC.out.2.1 HIC.out.2.2.1 HIC.out.2.2.2 rfl (by omega) _ j _ (by kernel_rfl) HR3.out.rc (some ⟨w11.heap.size + 1, 0, none⟩) 1 1 [.string cm.1, .string cm.2] (by kernel_rfl) (Rd_of_blk (HR3.out.bc _ rfl) rfl) (by simp [Value.oneCell']) (by simp only [maxLen]; omega) (by omega) HR3.out.hB ?_
          intro v1 wx4 hown hg
          have HR4 := Lib.hid (HR3.out.drew.appC hown hg)
          refine hK.out _ _ ⟨HX4.out.1.grown_ hg HU.out.1 (Nat.le_refl _), HX4.out.2.grown_ hg HU.out.1 (by omega)⟩ (fun hS4 => ?_)
          clear hK K hown hg
          refine wpAnyH_ready (rs := [7]) (by kernel_rfl) (by simp) ?_
          refine AllReadyH.cons rfl (fun K hK => ?_) (AllReadyH.nil)
          have HX5 := Lib.hid hS4
          clear hS4
          refine step_appT _ (by kernel_rfl) (.tmp 73) (.tmp 75) 56 56 rfl w.heap.size 32 32 iog _ 4 56 Tryz.underlying56 Tryz.underlying56 HIO.out.1 HIO.out.2.1 HIO.out.2.2.1 HIO.out.2.2.2 rfl (by omega) _ j _ (by kernel_rfl) HR4.out.ro (some ⟨w11.heap.size, 0, none⟩) 1 1 [.int .i64 0, .int .i64 0, .string ⟨#[]⟩, .slice none 0 0] (by kernel_rfl) (Rd_of_blk (HR4.out.bo _ rfl) rfl) (by simp [Value.oneCell']) (by simp only [maxLen]; omega) (by omega) HR4.out.hB ?_
          intro v2 wx5 hown hg
          have HR5 := Lib.hid (HR4.out.appO hown hg)
          refine hK.out _ _ ⟨HX5.out.1.grown_ hg HU.out.2.1 (Nat.le_refl _), HX5.out.2.grown_ hg HU.out.2.1 (by omega)⟩ (fun hS5 => ?_)
          clear hK K hown hg
          refine wpAnyH_ready (rs := [11]) (by kernel_rfl) (by simp) ?_
          refine AllReadyH.cons rfl (fun K hK => ?_) (AllReadyH.nil)
          have HX6 := Lib.hid hS5
          clear hS5
          refine step_appT _ (by kernel_rfl) (.tmp 77) (.tmp 79) 57 57 rfl w.heap.size 33 33 ikw _ 1 24 Tryz.underlying57 Tryz.underlying57 HIK.out.1 HIK.out.2.1 HIK.out.2.2.1 HIK.out.2.2.2 rfl (by omega) _ j _ (by kernel_rfl) HR5.out.rk (some ⟨w11.heap.size + 2, 0, none⟩) 1 1 [.slice KA l.length kc] (by kernel_rfl) (Rd_of_blk (HR5.out.bk _ rfl) rfl) (by simp [Value.oneCell']) (by simp only [maxLen]; omega) (by omega) HR5.out.hB ?_
          intro v3 wx6 hown hg
          have HR6 := Lib.hid (HR5.out.appK hown hg)
          refine hK.out _ _ ⟨HX6.out.1.grown_ hg HU.out.2.2 (Nat.le_refl _), HX6.out.2.grown_ hg HU.out.2.2 (by omega)⟩ (fun hS6 => ?_)
          clear hK K hown hg
          refine wpAnyH_take (i := 12) (v := ?_) rfl (by kernel_rfl) (by kernel_rfl) (by kernel_rfl) (fun _ _ _ h => h) (Or.inl ⟨by kernel_rfl, ?hy⟩) hS6 ?rest
          case hy => (intro W hSw; clear hSw; go_simp; with_reducible rfl)
          case rest =>
          refine wpAnyH_take (i := 13) (v := ?_) rfl (by kernel_rfl) (by kernel_rfl) (by kernel_rfl) (fun _ _ _ h => h) (Or.inl ⟨by kernel_rfl, ?hy⟩) hS6 ?rest
          case hy => (intro W hSw; clear hSw; go_simp; with_reducible rfl)
          case rest =>
          refine wpAnyH_take (i := 14) (v := ?_) rfl (by kernel_rfl) (by kernel_rfl) (by kernel_rfl) (fun _ _ _ h => h) (Or.inl ⟨by kernel_rfl, ?hy⟩) hS6 ?rest
          case hy => (intro W hSw; clear hSw; go_simp; with_reducible rfl)
          case rest =>
          refine wpAnyH_done (by kernel_rfl) ?_ _
          have HNX := Lib.hid (W1Inv.next HV.out HBX.out HY.out (o := zOgT) (a := ⟨KA, kc, ls⟩) HR6.out (by rw [HG.out.1]; rfl) rfl (by simp [kwC, HLS.out]) HOO.out HPO.out.1 HPO.out.2.1 HPO.out.2.2 HG.out.2.2.2.2.2)
          clear hS6
          go_wp2_with fail
          go_roundw
          case rel => exact ⟨j + 1, os ++ [zOgT], ks ++ [⟨KA, kc, ls⟩], by omega, by go_num, HNX.out⟩
          case measure => first | (simp [intOf]; done) | (simp [intOf]; omega)
      · skip
        go_simp
        refine hK.out _ _ ⟨hS1.1.alloc _, hS1.2.alloc _⟩ (fun hS2 => ?_)
        clear hK K
        have HR2 := Lib.hid (HR1.out.allocK (w11.heap.size + 1) (by simp))
        refine wpAnyH_ready (rs := [2]) (by kernel_rfl) (by simp) ?_
        refine AllReadyH.cons rfl (fun K hK => ?_) (AllReadyH.nil)
        go_simp
        refine hK.out _ _ ⟨hS2.1.alloc _, hS2.2.alloc _⟩ (fun hS3 => ?_)
        clear hK K
        have HR3 := Lib.hid (HR2.out.allocC (w11.heap.size + 2) (by simp))
        refine wpAnyH_ready (rs := [3]) (by kernel_rfl) (by simp) ?_
        refine AllReadyH.cons rfl (fun K hK => ?_) (AllReadyH.nil)
        have HX4 := Lib.hid hS3
        clear hS3
        refine step_appT _ (by kernel_rfl) (.tmp 69) (.tmp 71) 55 55 rfl w.heap.size 29 29 icm _ 2 32 Tryz.underlying55 Tryz.underlying55 HIC.out.1 HIC.out.2.1 HIC.out.2.2.1 HIC.out.2.2.2 rfl (by omega) _ j _ (by kernel_rfl) HR3.out.rc (some ⟨w11.heap.size + 2, 0, none⟩) 1 1 [.string cm.1, .string cm.2] (by kernel_rfl) (Rd_of_blk (HR3.out.bc _ rfl) rfl) (by simp [Value.oneCell']) (by simp only [maxLen]; omega) (by omega) HR3.out.hB ?_
        intro v1 wx4 hown hg
        have HR4 := Lib.hid (HR3.out.drew.appC hown hg)
        refine hK.out _ _ ⟨HX4.out.1.grown_ hg HU.out.1 (Nat.le_refl _), HX4.out.2.grown_ hg HU.out.1 (by omega)⟩ (fun hS4 => ?_)
        clear hK K hown hg
        refine wpAnyH_ready (rs := [7]) (by kernel_rfl) (by simp) ?_
        refine AllReadyH.cons rfl (fun K hK => ?_) (AllReadyH.nil)
        have HX5 := Lib.hid hS4
        clear hS4
        refine step_appT _ (by kernel_rfl) (.tmp 73) (.tmp 75) 56 56 rfl w.heap.size 32 32 iog _ 4 56 Tryz.underlying56 Tryz.underlying56 HIO.out.1 HIO.out.2.1 HIO.out.2.2.1 HIO.out.2.2.2 rfl (by omega) _ j _ (by kernel_rfl) HR4.out.ro (some ⟨w11.heap.size, 0, none⟩) 1 1 [.int .i64 0, .int .i64 0, .string ⟨#[]⟩, .slice none 0 0] (by kernel_rfl) (Rd_of_blk (HR4.out.bo _ rfl) rfl) (by simp [Value.oneCell']) (by simp only [maxLen]; omega) (by omega) HR4.out.hB ?_
        intro v2 wx5 hown hg
        have HR5 := Lib.hid (HR4.out.appO hown hg)
        refine hK.out _ _ ⟨HX5.out.1.grown_ hg HU.out.2.1 (Nat.le_refl _), HX5.out.2.grown_ hg HU.out.2.1 (by omega)⟩ (fun hS5 => ?_)
        clear hK K hown hg
        refine wpAnyH_ready (rs := [11]) (by kernel_rfl) (by simp) ?_
        refine AllReadyH.cons rfl (fun K hK => ?_) (AllReadyH.nil)
        have HX6 := Lib.hid hS5
        clear hS5
        refine step_appT _ (by kernel_rfl) (.tmp 77) (.tmp 79) 57 57 rfl w.heap.size 33 33 ikw _ 1 24 Tryz.underlying57 Tryz.underlying57 HIK.out.1 HIK.out.2.1 HIK.out.2.2.1 HIK.out.2.2.2 rfl (by omega) _ j _ (by kernel_rfl) HR5.out.rk (some ⟨w11.heap.size + 1, 0, none⟩) 1 1 [.slice KA l.length kc] (by kernel_rfl) (Rd_of_blk (HR5.out.bk _ rfl) rfl) (by simp [Value.oneCell']) (by simp only [maxLen]; omega) (by omega) HR5.out.hB ?_
        intro v3 wx6 hown hg
        have HR6 := Lib.hid (HR5.out.appK hown hg)
        refine hK.out _ _ ⟨HX6.out.1.grown_ hg HU.out.2.2 (Nat.le_refl _), HX6.out.2.grown_ hg HU.out.2.2 (by omega)⟩ (fun hS6 => ?_)
        clear hK K hown hg
        refine wpAnyH_take (i := 12) (v := ?_) rfl (by kernel_rfl) (by kernel_rfl) (by kernel_rfl) (fun _ _ _ h => h) (Or.inl ⟨by kernel_rfl, ?hy⟩) hS6 ?rest
        case hy => (intro W hSw; clear hSw; go_simp; with_reducible rfl)
        case rest =>
        refine wpAnyH_take (i := 13) (v := ?_) rfl (by kernel_rfl) (by kernel_rfl) (by kernel_rfl) (fun _ _ _ h => h) (Or.inl ⟨by kernel_rfl, ?hy⟩) hS6 ?rest
        case hy => (intro W hSw; clear hSw; go_simp; with_reducible rfl)
        case rest =>
        refine wpAnyH_take (i := 14) (v := ?_) rfl (by kernel_rfl) (by kernel_rfl) (by kernel_rfl) (fun _ _ _ h => h) (Or.inl ⟨by kernel_rfl, ?hy⟩) hS6 ?rest
        case hy => (intro W hSw; clear hSw; go_simp; with_reducible rfl)
        case rest =>
        refine wpAnyH_done (by kernel_rfl) ?_ _
        have HNX := Lib.hid (W1Inv.next HV.out HBX.out HY.out (o := zOgT) (a := ⟨KA, kc, ls⟩) HR6.out (by rw [HG.out.1]; rfl) rfl (by simp [kwC, HLS.out]) HOO.out HPO.out.1 HPO.out.2.1 HPO.out.2.2 HG.out.2.2.2.2.2)
        clear hS6
        go_wp2_with fail
        go_roundw
        case rel => exact ⟨j + 1, os ++ [zOgT], ks ++ [⟨KA, kc, ls⟩], by omega, by go_num, HNX.out⟩
        case measure => first | (simp [intOf]; done) | (simp [intOf]; omega)
    · skip
      go_simp
      refine hK.out _ _ ⟨hS0.1.alloc _, hS0.2.alloc _⟩ (fun hS1 => ?_)
      clear hK K
      have HR1 := Lib.hid (HR0.out.allocK (w11.heap.size) (by simp))
      refine wpAnyH_ready (rs := [2, 6]) (by kernel_rfl) (by simp) ?_
      refine AllReadyH.cons rfl (fun K hK => ?_) (AllReadyH.cons rfl (fun K hK => ?_) (AllReadyH.nil))
      · skip
        go_simp
        refine hK.out _ _ ⟨hS1.1.alloc _, hS1.2.alloc _⟩ (fun hS2 => ?_)
        clear hK K
        have HR2 := Lib.hid (HR1.out.allocC (w11.heap.size + 1) (by simp))
        refine wpAnyH_ready (rs := [3, 6]) (by kernel_rfl) (by simp) ?_
        refine AllReadyH.cons rfl (fun K hK => ?_) (AllReadyH.cons rfl (fun K hK => ?_) (AllReadyH.nil))
        · skip
          have HX3 := Lib.hid hS2
          clear hS2
          refine step_appT _ (by kernel_rfl) (.tmp 69) (.tmp 71) 55 55 rfl w.heap.size 29 29 icm _ 2 32 Tryz.underlying55 Tryz.underlying55 HIC.out.1 HIC.out.2.1 HIC.out.2.2.1 HIC.out.2.2.2 rfl (by omega) _ j _ (by kernel_rfl) HR2.out.rc (some ⟨w11.heap.size + 1, 0, none⟩) 1 1 [.string cm.1, .string cm.2] (by kernel_rfl) (Rd_of_blk (HR2.out.bc _ rfl) rfl) (by simp [Value.oneCell']) (by simp only [maxLen]; omega) (by omega) HR2.out.hB ?_
          intro v1 wx3 hown hg
          have HR3 := Lib.hid (HR2.out.drew.appC hown hg)
          refine hK.out _ _ ⟨HX3.out.1.grown_ hg HU.out.1 (Nat.le_refl _), HX3.out.2.grown_ hg HU.out.1 (by omega)⟩ (fun hS3 => ?_)
          clear hK K hown hg
          refine wpAnyH_ready (rs := [6]) (by kernel_rfl) (by simp) ?_
          refine AllReadyH.cons rfl (fun K hK => ?_) (AllReadyH.nil)
          go_simp
          refine hK.out _ _ ⟨hS3.1.alloc _, hS3.2.alloc _⟩ (fun hS4 => ?_)
          clear hK K
          have HR4 := Lib.hid (HR3.out.allocO (wx3.heap.size) (by simp))
          refine wpAnyH_ready (rs := [7]) (by kernel_rfl) (by simp) ?_
          refine AllReadyH.cons rfl (fun K hK => ?_) (AllReadyH.nil)
          have HX5 := Lib.hid hS4
          clear hS4
          refine step_appT _ (by kernel_rfl) (.tmp 73) (.tmp 75) 56 56 rfl w.heap.size 32 32 iog _ 4 56 Tryz.underlying56 Tryz.underlying56 HIO.out.1 HIO.out.2.1 HIO.out.2.2.1 HIO.out.2.2.2 rfl (by omega) _ j _ (by kernel_rfl) HR4.out.ro (some ⟨wx3.heap.size, 0, none⟩) 1 1 [.int .i64 0, .int .i64 0, .string ⟨#[]⟩, .slice none 0 0] (by kernel_rfl) (Rd_of_blk (HR4.out.bo _ rfl) rfl) (by simp [Value.oneCell']) (by simp only [maxLen]; omega) (by omega) HR4.out.hB ?_
          intro v2 wx5 hown hg
          have HR5 := Lib.hid (HR4.out.appO hown hg)
          refine hK.out _ _ ⟨HX5.out.1.grown_ hg HU.out.2.1 (Nat.le_refl _), HX5.out.2.grown_ hg HU.out.2.1 (by omega)⟩ (fun hS5 => ?_)
          clear hK K hown hg
          refine wpAnyH_ready (rs := [11]) (by kernel_rfl) (by simp) ?_
          refine AllReadyH.cons rfl (fun K hK => ?_) (AllReadyH.nil)
          have HX6 := Lib.hid hS5
          clear hS5
          refine step_appT _ (by kernel_rfl) (.tmp 77) (.tmp 79) 57 57 rfl w.heap.size 33 33 ikw _ 1 24 Tryz.underlying57 Tryz.underlying57 HIK.out.1 HIK.out.2.1 HIK.out.2.2.1 HIK.out.2.2.2 rfl (by omega) _ j _ (by kernel_rfl) HR5.out.rk (some ⟨w11.heap.size, 0, none⟩) 1 1 [.slice KA l.length kc] (by kernel_rfl) (Rd_of_blk (HR5.out.bk _ rfl) rfl) (by simp [Value.oneCell']) (by simp only [maxLen]; omega) (by omega) HR5.out.hB ?_
          intro v3 wx6 hown hg
          have HR6 := Lib.hid (HR5.out.appK hown hg)
          refine hK.out _ _ ⟨HX6.out.1.grown_ hg HU.out.2.2 (Nat.le_refl _), HX6.out.2.grown_ hg HU.out.2.2 (by omega)⟩ (fun hS6 => ?_)
          clear hK K hown hg
          refine wpAnyH_take (i := 12) (v := ?_) rfl (by kernel_rfl) (by kernel_rfl) (by kernel_rfl) (fun _ _ _ h => h) (Or.inl ⟨by kernel_rfl, ?hy⟩) hS6 ?rest
          case hy => (intro W hSw; clear hSw; go_simp; with_reducible rfl)
          case rest =>
          refine wpAnyH_take (i := 13) (v := ?_) rfl (by kernel_rfl) (by kernel_rfl) (by kernel_rfl) (fun _ _ _ h => h) (Or.inl ⟨by kernel_rfl, ?hy⟩) hS6 ?rest
          case hy => (intro W hSw; clear hSw; go_simp; with_reducible rfl)
          case rest =>
          refine wpAnyH_take (i := 14) (v := ?_) rfl (by kernel_rfl) (by kernel_rfl) (by kernel_rfl) (fun _ _ _ h => h) (Or.inl ⟨by kernel_rfl, ?hy⟩) hS6 ?rest
          case hy => (intro W hSw; clear hSw; go_simp; with_reducible rfl)
          case rest =>
          refine wpAnyH_done (by kernel_rfl) ?_ _
          have HNX := Lib.hid (W1Inv.next HV.out HBX.out HY.out (o := zOgT) (a := ⟨KA, kc, ls⟩) HR6.out (by rw [HG.out.1]; rfl) rfl (by simp [kwC, HLS.out]) HOO.out HPO.out.1 HPO.out.2.1 HPO.out.2.2 HG.out.2.2.2.2.2)
          clear hS6
          go_wp2_with fail
          go_roundw
          case rel => exact ⟨j + 1, os ++ [zOgT], ks ++ [⟨KA, kc, ls⟩], by omega, by go_num, HNX.out⟩
          case measure => first | (simp [intOf]; done) | (simp [intOf]; omega)
        · skip
          go_simp
          refine hK.out _ _ ⟨hS2.1.alloc _, hS2.2.alloc _⟩ (fun hS3 => ?_)
          clear hK K
          have HR3 := Lib.hid (HR2.out.allocO (w11.heap.size + 2) (by simp))
          refine wpAnyH_ready (rs := [3]) (by kernel_rfl) (by simp) ?_
          refine AllReadyH.cons rfl (fun K hK => ?_) (AllReadyH.nil)
          have HX4 := Lib.hid hS3
          clear hS3
          refine step_appT _ (by kernel_rfl) (.tmp 69) (.tmp 71) 55 55 rfl w.heap.size 29 29 icm _ 2 32 Tryz.underlying55 Tryz.underlying55 HIC.out.1 HIC.out.2.1 HIC.out.2.2.1 HIC.out.2.2.2 rfl (by omega) _ j _ (by kernel_rfl) HR3.out.rc (some ⟨w11.heap.size + 1, 0, none⟩) 1 1 [.string cm.1, .string cm.2] (by kernel_rfl) (Rd_of_blk (HR3.out.bc _ rfl) rfl) (by simp [Value.oneCell']) (by simp only [maxLen]; omega) (by omega) HR3.out.hB ?_
          intro v1 wx4 hown hg
          have HR4 := Lib.hid (HR3.out.drew.appC hown hg)
          refine hK.out _ _ ⟨HX4.out.1.grown_ hg HU.out.1 (Nat.le_refl _), HX4.out.2.grown_ hg HU.out.1 (by omega)⟩ (fun hS4 => ?_)
          clear hK K hown hg
          refine wpAnyH_ready (rs := [7]) (by kernel_rfl) (by simp) ?_
          refine AllReadyH.cons rfl (fun K hK => ?_) (AllReadyH.nil)
          have HX5 := Lib.hid hS4
          clear hS4
          refine step_appT _ (by kernel_rfl) (.tmp 73) (.tmp 75) 56 56 rfl w.heap.size 32 32 iog _ 4 56 Tryz.underlying56 Tryz.underlying56 HIO.out.1 HIO.out.2.1 HIO.out.2.2.1 HIO.out.2.2.2 rfl (by omega) _ j _ (by kernel_rfl) HR4.out.ro (some ⟨w11.heap.size + 2, 0, none⟩) 1 1 [.int .i64 0, .int .i64 0, .string ⟨#[]⟩, .slice none 0 0] (by kernel_rfl) (Rd_of_blk (HR4.out.bo _ rfl) rfl) (by simp [Value.oneCell']) (by simp only [maxLen]; omega) (by omega) HR4.out.hB ?_
          intro v2 wx5 hown hg
          have HR5 := Lib.hid (HR4.out.appO hown hg)
          refine hK.out _ _ ⟨HX5.out.1.grown_ hg HU.out.2.1 (Nat.le_refl _), HX5.out.2.grown_ hg HU.out.2.1 (by omega)⟩ (fun hS5 => ?_)
          clear hK K hown hg
          refine wpAnyH_ready (rs := [11]) (by kernel_rfl) (by simp) ?_
          refine AllReadyH.cons rfl (fun K hK => ?_) (AllReadyH.nil)
          have HX6 := Lib.hid hS5
          clear hS5
          refine step_appT _ (by kernel_rfl) (.tmp 77) (.tmp 79) 57 57 rfl w.heap.size 33 33 ikw _ 1 24 Tryz.underlying57 Tryz.underlying57 HIK.out.1 HIK.out.2.1 HIK.out.2.2.1 HIK.out.2.2.2 rfl (by omega) _ j _ (by kernel_rfl) HR5.out.rk (some ⟨w11.heap.size, 0, none⟩) 1 1 [.slice KA l.length kc] (by kernel_rfl) (Rd_of_blk (HR5.out.bk _ rfl) rfl) (by simp [Value.oneCell']) (by simp only [maxLen]; omega) (by omega) HR5.out.hB ?_
          intro v3 wx6 hown hg
          have HR6 := Lib.hid (HR5.out.appK hown hg)
          refine hK.out _ _ ⟨HX6.out.1.grown_ hg HU.out.2.2 (Nat.le_refl _), HX6.out.2.grown_ hg HU.out.2.2 (by omega)⟩ (fun hS6 => ?_)
          clear hK K hown hg
          refine wpAnyH_take (i := 12) (v := ?_) rfl (by kernel_rfl) (by kernel_rfl) (by kernel_rfl) (fun _ _ _ h => h) (Or.inl ⟨by kernel_rfl, ?hy⟩) hS6 ?rest
          case hy => (intro W hSw; clear hSw; go_simp; with_reducible rfl)
          case rest =>
          refine wpAnyH_take (i := 13) (v := ?_) rfl (by kernel_rfl) (by kernel_rfl) (by kernel_rfl) (fun _ _ _ h => h) (Or.inl ⟨by kernel_rfl, ?hy⟩) hS6 ?rest
          case hy => (intro W hSw; clear hSw; go_simp; with_reducible rfl)
          case rest =>
          refine wpAnyH_take (i := 14) (v := ?_) rfl (by kernel_rfl) (by kernel_rfl) (by kernel_rfl) (fun _ _ _ h => h) (Or.inl ⟨by kernel_rfl, ?hy⟩) hS6 ?rest
          case hy => (intro W hSw; clear hSw; go_simp; with_reducible rfl)
          case rest =>
          refine wpAnyH_done (by kernel_rfl) ?_ _
          have HNX := Lib.hid (W1Inv.next HV.out HBX.out HY.out (o := zOgT) (a := ⟨KA, kc, ls⟩) HR6.out (by rw [HG.out.1]; rfl) rfl (by simp [kwC, HLS.out]) HOO.out HPO.out.1 HPO.out.2.1 HPO.out.2.2 HG.out.2.2.2.2.2)
          clear hS6
          go_wp2_with fail
          go_roundw
          case rel => exact ⟨j + 1, os ++ [zOgT], ks ++ [⟨KA, kc, ls⟩], by omega, by go_num, HNX.out⟩
          case measure => first | (simp [intOf]; done) | (simp [intOf]; omega)
      · skip
        go_simp
        refine hK.out _ _ ⟨hS1.1.alloc _, hS1.2.alloc _⟩ (fun hS2 => ?_)
        clear hK K
        have HR2 := Lib.hid (HR1.out.allocO (w11.heap.size + 1) (by simp))
        refine wpAnyH_ready (rs := [2]) (by kernel_rfl) (by simp) ?_
        refine AllReadyH.cons rfl (fun K hK => ?_) (AllReadyH.nil)
        go_simp
        refine hK.out _ _ ⟨hS2.1.alloc _, hS2.2.alloc _⟩ (fun hS3 => ?_)
        clear hK K
        have HR3 := Lib.hid (HR2.out.allocC (w11.heap.size + 2) (by simp))
        refine wpAnyH_ready (rs := [3]) (by kernel_rfl) (by simp) ?_
        refine AllReadyH.cons rfl (fun K hK => ?_) (AllReadyH.nil)
        have HX4 := Lib.hid hS3
        clear hS3
        refine step_appT _ (by kernel_rfl) (.tmp 69) (.tmp 71) 55 55 rfl w.heap.size 29 29 icm _ 2 32 Tryz.underlying55 Tryz.underlying55 HIC.out.1 HIC.out.2.1 HIC.out.2.2.1 HIC.out.2.2.2 rfl (by omega) _ j _ (by kernel_rfl) HR3.out.rc (some ⟨w11.heap.size + 2, 0, none⟩) 1 1 [.string cm.1, .string cm.2] (by kernel_rfl) (Rd_of_blk (HR3.out.bc _ rfl) rfl) (by simp [Value.oneCell']) (by simp only [maxLen]; omega) (by omega) HR3.out.hB ?_
        intro v1 wx4 hown hg
        have HR4 := Lib.hid (HR3.out.drew.appC hown hg)
        refine hK.out _ _ ⟨HX4.out.1.grown_ hg HU.out.1 (Nat.le_refl _), HX4.out.2.grown_ hg HU.out.1 (by omega)⟩ (fun hS4 => ?_)
        clear hK K hown hg
        refine wpAnyH_ready (rs := [7]) (by kernel_rfl) (by simp) ?_
        refine AllReadyH.cons rfl (fun K hK => ?_) (AllReadyH.nil)
        have HX5 := Lib.hid hS4
        clear hS4
        refine step_appT _ (by kernel_rfl) (.tmp 73) (.tmp 75) 56 56 rfl w.heap.size 32 32 iog _ 4 56 Tryz.underlying56 Tryz.underlying56 HIO.out.1 HIO.out.2.1 HIO.out.2.2.1 HIO.out.2.2.2 rfl (by omega) _ j _ (by kernel_rfl) HR4.out.ro (some ⟨w11.heap.size + 1, 0, none⟩) 1 1 [.int .i64 0, .int .i64 0, .string ⟨#[]⟩, .slice none 0 0] (by kernel_rfl) (Rd_of_blk (HR4.out.bo _ rfl) rfl) (by simp [Value.oneCell']) (by simp only [maxLen]; omega) (by omega) HR4.out.hB ?_
        intro v2 wx5 hown hg
        have HR5 := Lib.hid (HR4.out.appO hown hg)
        refine hK.out _ _ ⟨HX5.out.1.grown_ hg HU.out.2.1 (Nat.le_refl _), HX5.out.2.grown_ hg HU.out.2.1 (by omega)⟩ (fun hS5 => ?_)
        clear hK K hown hg
        refine wpAnyH_ready (rs := [11]) (by kernel_rfl) (by simp) ?_
        refine AllReadyH.cons rfl (fun K hK => ?_) (AllReadyH.nil)
        have HX6 := Lib.hid hS5
        clear hS5
        refine step_appT _ (by kernel_rfl) (.tmp 77) (.tmp 79) 57 57 rfl w.heap.size 33 33 ikw _ 1 24 Tryz.underlying57 Tryz.underlying57 HIK.out.1 HIK.out.2.1 HIK.out.2.2.1 HIK.out.2.2.2 rfl (by omega) _ j _ (by kernel_rfl) HR5.out.rk (some ⟨w11.heap.size, 0, none⟩) 1 1 [.slice KA l.length kc] (by kernel_rfl) (Rd_of_blk (HR5.out.bk _ rfl) rfl) (by simp [Value.oneCell']) (by simp only [maxLen]; omega) (by omega) HR5.out.hB ?_
        intro v3 wx6 hown hg
        have HR6 := Lib.hid (HR5.out.appK hown hg)
        refine hK.out _ _ ⟨HX6.out.1.grown_ hg HU.out.2.2 (Nat.le_refl _), HX6.out.2.grown_ hg HU.out.2.2 (by omega)⟩ (fun hS6 => ?_)
        clear hK K hown hg
        refine wpAnyH_take (i := 12) (v := ?_) rfl (by kernel_rfl) (by kernel_rfl) (by kernel_rfl) (fun _ _ _ h => h) (Or.inl ⟨by kernel_rfl, ?hy⟩) hS6 ?rest
        case hy => (intro W hSw; clear hSw; go_simp; with_reducible rfl)
        case rest =>
        refine wpAnyH_take (i := 13) (v := ?_) rfl (by kernel_rfl) (by kernel_rfl) (by kernel_rfl) (fun _ _ _ h => h) (Or.inl ⟨by kernel_rfl, ?hy⟩) hS6 ?rest
        case hy => (intro W hSw; clear hSw; go_simp; with_reducible rfl)
        case rest =>
        refine wpAnyH_take (i := 14) (v := ?_) rfl (by kernel_rfl) (by kernel_rfl) (by kernel_rfl) (fun _ _ _ h => h) (Or.inl ⟨by kernel_rfl, ?hy⟩) hS6 ?rest
        case hy => (intro W hSw; clear hSw; go_simp; with_reducible rfl)
        case rest =>
        refine wpAnyH_done (by kernel_rfl) ?_ _
        have HNX := Lib.hid (W1Inv.next HV.out HBX.out HY.out (o := zOgT) (a := ⟨KA, kc, ls⟩) HR6.out (by rw [HG.out.1]; rfl) rfl (by simp [kwC, HLS.out]) HOO.out HPO.out.1 HPO.out.2.1 HPO.out.2.2 HG.out.2.2.2.2.2)
        clear hS6
        go_wp2_with fail
        go_roundw
        case rel => exact ⟨j + 1, os ++ [zOgT], ks ++ [⟨KA, kc, ls⟩], by omega, by go_num, HNX.out⟩
        case measure => first | (simp [intOf]; done) | (simp [intOf]; omega)
end

end Go.Proofs.YtjfondfjdhjooaaGreatDoor
