/- The law TreeIncludes: the walk. -/
import Derived.Test.YtfmlhlliephlhaaDoorLGrows02
import Derived.Test.YtfmlhlliephlhaaDoorQuietC
import Derived.Deep.RegionHeld3
namespace Go.Proofs.YtfmlhlliephlhaaDoor
open Go.RowKit

theorem allD_pt (l : List ByteArray) (i : Nat) (h : allD l = true) : allD (pt l i) = true := by
  obtain ⟨n, hn⟩ : ∃ n, l.length = n := ⟨_, rfl⟩
  induction n using Nat.strongRecOn generalizing l i with
  | _ n ih =>
    by_cases h2 : 2 ≤ l.length
    · have k1 := hf_lt l.length h2
      have k2 := hf_pos l.length
      by_cases hi : i < hf l.length
      · rw [pt_lt l i h2 hi]
        have h1 := ih _ (by rw [List.length_take]; omega) (l.take (hf l.length)) i (allD_take h _) rfl
        have h3 := isD_rt _ (allD_drop h (hf l.length))
        simp only [allD, List.all_append, Bool.and_eq_true] at h1 ⊢
        exact ⟨h1, by simp [h3]⟩
      · rw [pt_ge l i h2 hi]
        have h1 := ih _ (by rw [List.length_drop]; omega) (l.drop (hf l.length)) (i - hf l.length) (allD_drop h _) rfl
        have h3 := isD_rt _ (allD_take h (hf l.length))
        simp only [allD, List.all_append, Bool.and_eq_true] at h1 ⊢
        exact ⟨h1, by simp [h3]⟩
    · rw [pt_one l i h2]; rfl

theorem incl_yes (l : List ByteArray) (i : Nat) (s : ByteArray) (hD : allD l = true) (hs : l[i]? = some s) (hn : l.length ≤ 1000000) : chkB (rt l) (l.length : Int) (i : Int) s (pt l i) = true := by
  have hi : i < l.length := (List.getElem?_eq_some_iff.1 hs).1
  have hm : s ∈ l := List.mem_of_getElem? hs
  have hds : isD s = true := by simp only [allD, List.all_eq_true] at hD; exact hD s hm
  unfold chkB
  have h1 : ((l.length : Int) ≤ 1000000 ∧ (0 : Int) ≤ (i : Int) ∧ (i : Int) < (l.length : Int)) := by omega
  rw [decide_eq_true h1, allD_pt l i hD, hds, Int.toNat_natCast, Int.toNat_natCast, pt_up l i s hs, pt_len]
  simp
theorem chk_len (root : ByteArray) (n i : Int) (s : ByteArray) (p : List ByteArray) (h : p.length ≠ plen n.toNat i.toNat) : chkB root n i s p = false := by
  unfold chkB
  rw [decide_eq_false h]
  simp

theorem strs_app {w : World} {A : Option Addr} {p : List ByteArray} {x : ByteArray} (h : Rd w 1 A (p.length + 1) (p.map Value.string ++ [.string x])) : Strs w A (p ++ [x]) := by
  unfold Strs
  simpa using h

theorem step_app {P : Program} (w : World) {ops : Array Oper} {o : Oper} {a : Act} {K : Act → World → Prop} {Q : Exit → Act → World → Prop} {E : Prop} (hw : Region.wanted o (yielded ops a.tmps) = true) (s x : Operand) (t t2 : TypeId)
    (ho : o.op = .call { callee := .builtin .append, args := #[s, x], argTypes := #[t, t2] })
    (base : Nat) (e e2 : TypeId) (i : TypeInfo) (z : Value) (size bytes : Nat) (ht : P.underlying t = some (.slice e)) (ht2 : P.underlying t2 = some (.slice e2)) (hi : P.info? e = some i) (hz : i.zero = some z)
    (hsize : i.size = size) (hby : i.bytes = bytes) (hzs : z.cells.size = size) (hsz : 0 < size)
    (v : Value) (n : Nat) (xs : List Value) (hs : a.eval s = v) (hown : w.ownsRow base e size v n xs)
    (A : Option Addr) (m c : Nat) (news : List Value) (hx : a.eval x = .slice A m c) (hr : Rd w size A m news) (h1 : ∀ u ∈ news, u.oneCell' = true)
    (h63 : n + m ≤ maxLen) (hbytes : (n + m) * bytes ≤ 140737488355328) (hbase : base ≤ w.heap.size)
    (h : ∀ v' w', w'.ownsRow base e size v' (n + m) (xs ++ news) → w.grownBy w' v.ownBlock → K (a.put o.dst v') w') :
    if Region.wanted o (yielded ops a.tmps) = true then Oper.wp P o a w K Q else E := by
  rw [if_pos hw]
  obtain ⟨v', w', hrun, h2, h3⟩ := run_app (P := P) w base t t2 o.type e e2 i z size bytes ht ht2 hi hz hsize hby hzs hsz v n xs hown A m c news hr h1 h63 hbytes hbase
  unfold Oper.wp execOp
  simp only [ho, resolve, invoke, builtin, Sem.run_bind, Sem.run_pure, Result.andThen_ok, List.map_toArray, List.map_cons, List.map_nil, hs, hx, hrun]
  exact h v' w' h2 h3

set_option maxRecDepth 100000 in
set_option maxHeartbeats 32000000 in
theorem incl_walk (A : Option Addr) (c : Nat) (l : List ByteArray) (x : UInt8) (w : World) (hT : Tabs w) (hS : Strs w A l) (hl : l.length ≤ 9223372036854775807) (hc : l.length ≤ c) :
    Calls Tryd.prog 3 #[.slice A l.length c, .int .u8 x.toNat] w fun e w' => e = .returned (.bool true) ∧ Below w.heap.size w w' := by
  have HH := Lib.hid (head_any w hT)
  have HT : Hid (∀ W, Below w.heap.size w W → Tabs W) := Lib.hid (fun W hW => hT.below hW)
  have HS : Hid (∀ W, Below w.heap.size w W → Strs W A l) := Lib.hid (fun W hW => hS.below hW)
  have HG := Lib.hid (fun W (hW : Below w.heap.size w W) => lgood_any A c l W (hS.below hW) hl)
  have hx := x.toNat_lt
  obtain ⟨X, hX⟩ : ∃ X, x.toNat = X := ⟨_, rfl⟩
  rw [hX] at hx ⊢
  clear hX hT
  obtain ⟨v, hv⟩ : ∃ v, lgood l = v := ⟨_, rfl⟩
  have HV := Lib.hid hv
  rw [hv] at HG
  clear hv
  cases v with
  | false =>
    clear hS
    go_enter Tryd.func3, Tryd.ntmps3
    go_wp2_with fail
    refine HH.out.mono ?_
    rintro e w1 ⟨rfl, hb1⟩
    have HB1 := Lib.hid hb1
    clear hb1
    go_wp2_with fail
    refine (HG.out w1 HB1.out).mono ?_
    rintro e w2 ⟨rfl, hb2⟩
    have HB2 := Lib.hid (below_trans HB1.out hb2)
    clear hb2
    go_wp2
    go_ret
    exact ⟨rfl, HB2.out⟩
  | true =>
    obtain ⟨hD, h20, hsm⟩ := lgood_eq HV.out
    have HD := Lib.hid hD
    have HSM := Lib.hid hsm
    clear hD hsm
    by_cases hn0 : l.length = 0
    · obtain rfl : l = [] := List.eq_nil_of_length_eq_zero hn0
      simp only [List.length_nil] at HG ⊢
      clear hS hn0 hl hc h20
      go_enter Tryd.func3, Tryd.ntmps3
      go_wp2_with fail
      refine HH.out.mono ?_
      rintro e w1 ⟨rfl, hb1⟩
      have HB1 := Lib.hid hb1
      clear hb1
      go_wp2_with fail
      refine (HG.out w1 HB1.out).mono ?_
      rintro e w2 ⟨rfl, hb2⟩
      have HB2 := Lib.hid (below_trans HB1.out hb2)
      clear hb2
      go_wp2
      go_ret
      exact ⟨rfl, HB2.out⟩
    obtain ⟨n, hn⟩ : ∃ n, l.length = n := ⟨_, rfl⟩
    obtain ⟨i, hi⟩ : ∃ i, X % n = i := ⟨_, rfl⟩
    have hin : i < n := by have := Nat.mod_lt X (show 0 < n by omega); omega
    have hrem : (X : Int) % (n : Int) = (i : Int) := by rw [← hi]; rfl
    have HREM := Lib.hid hrem
    clear hi hrem
    obtain ⟨s, hs⟩ := get_some l i (by omega)
    obtain ⟨b, off, rfl, c0⟩ := hS.at_ hs
    have HCELL : Hid (∀ W, Below w.heap.size w W → W.cell? ⟨b, off + i, none⟩ = some (.string s)) := Lib.hid (fun W hW => kept_cell hW c0)
    have hss : s.size ≤ 200 := HSM.out s (List.mem_of_getElem? hs)
    have hyes := incl_yes l i s HD.out hs (by omega)
    have hpl := pt_len l i
    have hpd := plen_bdig l.length i (by omega)
    have hpz := plen_zero l.length i
    have hsmP := allD_sm (allD_pt l i HD.out)
    rw [hn] at hyes hpl hpd hpz
    have hno : ∀ q : List ByteArray, q.length ≠ (pt l i).length → chkB (rt l) (n : Int) (i : Int) s q = false := fun q hq => chk_len _ _ _ _ _ (by rw [Int.toNat_natCast, Int.toNat_natCast, ← hpl]; exact hq)
    have HPT : Hid (∀ W, Below w.heap.size w W → Calls Tryd.prog 11 #[.slice (some ⟨b, off, none⟩) n c, .int .i64 (i : Int)] W fun e w' => ∃ A' c', e = .returned (.tuple #[.slice A' (pt l i).length c', .int .i64 0]) ∧ (pt l i).length ≤ c' ∧ Strs w' A' (pt l i) ∧ Below W.heap.size W w') := Lib.hid (fun W hW => by
      have := tpath_any (some ⟨b, off, none⟩) c l (i : Int) W (by omega) (by omega) (HS.out W hW) HSM.out (HT.out W hW) HD.out (by omega) (by omega)
      rw [hn, Int.toNat_natCast] at this
      exact this.mono fun _ _ ⟨A', c', he, h1, h2, _, hb⟩ => ⟨A', c', he, h1, h2, hb⟩)
    have hbd := bdig_le n
    have HRT : Hid (∀ (W : World), Below w.heap.size w W → Calls Tryd.prog 10 #[.slice (some ⟨b, off, none⟩) n c] W fun e w' => e = .returned (.string (rt l)) ∧ Below W.heap.size W w') := Lib.hid (fun W hW => by
      have := rooted_any (some ⟨b, off, none⟩) c l W (by omega) (by omega) (HS.out W hW) HSM.out (HT.out W hW)
      rw [HD.out, if_pos rfl, hn] at this
      exact this)
    have HRN : Hid (∀ (W : World), Below w.heap.size w W → Calls Tryd.prog 10 #[.slice none 0 0] W fun e w' => e = .returned (.string em) ∧ Below W.heap.size W w') := Lib.hid (fun W hW => by
      have := rooted_any none 0 [] W (by simp) (by simp) ⟨rfl, fun h => by simp at h⟩ (fun s hs => by cases hs) (HT.out W hW)
      rw [show allD [] = true from rfl, if_pos rfl, rt_nil] at this
      exact this)
    have HCK : Hid (∀ (W : World) (A' : Option Addr) (c' : Nat) (q : List ByteArray) (v : Bool), chkB (rt l) (n : Int) (i : Int) s q = v → Below w.heap.size w W → Strs W A' q → q.length ≤ 100 → sm q → Calls Tryd.prog 12 #[.string (rt l), .int .i64 (n : Int), .int .i64 (i : Int), .string s, .slice A' q.length c'] W fun e w' => e = .returned (.bool v) ∧ Below W.heap.size W w') := Lib.hid (fun W A' c' q v hv hW h1 h2 h3 => by
      subst hv
      exact tcheck_any (rt l) (n : Int) (i : Int) s A' c' q W (HT.out W hW) h1 (by omega) (by omega) (fun s hs => by have := h3 s hs; omega))
    have HYES := Lib.hid hyes
    have HNO := Lib.hid hno
    have HSMP := Lib.hid hsmP
    have HPZ := Lib.hid hpz
    rw [← hpl] at hpd HPZ
    rw [hn] at HG hn0 h20 hc hl ⊢
    have hne0 : ((n : Int) == 0) = false := by simp only [beq_eq_false_iff_ne, ne_eq]; omega
    have hp100 : (pt l i).length ≤ 100 := by omega
    clear hyes hno hsmP hpl hs c0 hS hn hpz
    generalize rt l = r at *
    generalize pt l i = p at *
    go_enter Tryd.func3, Tryd.ntmps3
    go_wp2_with fail
    refine HH.out.mono ?_
    rintro e w1 ⟨rfl, hb1⟩
    have HB1 := Lib.hid hb1
    clear hb1
    go_wp2_with fail
    refine (HG.out w1 HB1.out).mono ?_
    rintro e w2 ⟨rfl, hb2⟩
    have HB2 := Lib.hid (below_trans HB1.out hb2)
    clear hb2
    go_wp2_with fail
    refine (HRT.out w2 HB2.out).mono ?_
    rintro e w3 ⟨rfl, hb3⟩
    have HB3 := Lib.hid (below_trans HB2.out hb3)
    clear hb3
    go_wp2_with fail
    rw [HREM.out]
    refine (HPT.out w3 HB3.out).mono ?_
    rintro e w4 ⟨A', c', rfl, hc4, hs4, hb4⟩
    have HB4 := Lib.hid (below_trans HB3.out hb4)
    have HS4 := Lib.hid hs4
    have HC4 := Lib.hid hc4
    clear hb4 hs4 hc4
    have q4 := HCELL.out w4 HB4.out
    have ql4 := lt_of_cell q4
    have hii : (i : Int) < (n : Int) := by omega
    go_wp2_with fail
    refine (HCK.out w4 A' c' p true HYES.out HB4.out HS4.out hp100 HSMP.out).mono ?_
    rintro e w5 ⟨rfl, hb5⟩
    have HB5 := Lib.hid (below_trans HB4.out hb5)
    have HB45 := Lib.hid hb5
    have HS5 := Lib.hid (HS4.out.below hb5)
    clear hb5 q4 ql4
    go_wp2_with fail
    go_loop [10, 11] (fun u9 u10 => ∃ v d : Nat, v ≤ n ∧ d + bdig v = bdig n ∧ u9 = .int .i64 d ∧ u10 = .int .i64 v) (fun _ u10 => (intOf u10).toNat)
    case atStart => exact ⟨n, 0, Nat.le_refl _, by omega, rfl, rfl⟩
    case round =>
    obtain ⟨v, d, hv, hd, rfl, rfl⟩ := hrel
    by_cases hlt : 0 < v
    · have hdv := bdig_pos v hlt
      have hvi : (0 : Int) < (v : Int) := by omega
      go_wp2
      go_round
      case rel => exact ⟨v / 2, d + 1, by omega, by omega, by go_num, by go_num⟩
      case measure => simp [intOf]; omega
    · obtain rfl : v = 0 := by omega
      have hd0 : bdig 0 = 0 := by rw [bdig]; simp
      obtain rfl : d = bdig n := by omega
      have hle : ¬ (bdig n : Int) < (p.length : Int) := by omega
      have hle2 : decide ((bdig n : Int) < (p.length : Int)) = false := decide_eq_false hle
      have hle3 : decide (bdig n < p.length) = false := decide_eq_false (by omega)
      obtain ⟨ip, hj1, hy0, hy1, hy2⟩ := info_parts info_strg
      have HI := Lib.hid (And.intro hj1 (And.intro hy0 (And.intro hy1 hy2)))
      clear hj1 hy0 hy1 hy2
      have HO1 : Hid ((w5.drew.alloc (.cells #[] 9)).ownsRow w5.heap.size 9 1 (.slice (some ⟨w5.heap.size, 0, none⟩) 0 0) 0 []) := Lib.hid ⟨rfl, .inr ⟨w5.heap.size, 0, #[], rfl, Nat.le_refl _, Blk.new w5.drew _ _ _ rfl, Nat.le_refl _, Nat.zero_le _, rfl, rfl⟩⟩
      have HRD1 : Hid (Rd (w5.drew.alloc (.cells #[] 9)) 1 A' p.length (p.map Value.string)) := Lib.hid (HS5.out.below (below_alloc (Below.drew (Below.refl _ _)) _))
      have HONE : Hid (∀ u ∈ p.map Value.string, u.oneCell' = true) := Lib.hid (by intro u hu; obtain ⟨t, _, rfl⟩ := List.mem_map.1 hu; rfl)
      have HCKN : Hid (∀ (W : World) (A5 : Option Addr) (c5 : Nat), Below w.heap.size w W → Strs W A5 (p ++ [em]) → Calls Tryd.prog 12 #[.string r, .int .i64 (n : Int), .int .i64 (i : Int), .string s, .slice A5 (p.length + 1) c5] W fun e w' => e = .returned (.bool false) ∧ Below W.heap.size W w') := Lib.hid (fun W A5 c5 hW h1 => by
        have := HCK.out W A5 c5 (p ++ [em]) false (HNO.out _ (by simp)) hW h1 (by simp; omega) (fun t ht => by
          rcases List.mem_append.1 ht with h2 | h2
          · exact HSMP.out t h2
          · rw [List.mem_singleton.1 h2, show em.size = 16 from dg_size _]; omega)
        rw [List.length_append, List.length_singleton] at this
        exact this)
      have HPZZ : Hid ((p = [] ∧ n = 1) ∨ (0 < p.length ∧ 2 ≤ n)) := Lib.hid (by
        have := HPZ.out
        by_cases h2 : 2 ≤ n
        · exact Or.inr ⟨by omega, h2⟩
        · exact Or.inl ⟨List.eq_nil_of_length_eq_zero (by omega), by omega⟩)
      have HCKD : Hid (∀ (W6 : World), Below w.heap.size w W6 → Strs W6 A' p → 0 < p.length → Hid (∀ W, Below W6.heap.size W6 W → Calls Tryd.prog 12 #[.string r, .int .i64 (n : Int), .int .i64 (i : Int), .string s, .slice A' (p.length - 1) c'] W fun e w' => e = .returned (.bool false) ∧ Below W6.heap.size W6 w')) := Lib.hid (fun W6 h6 hs6 hp0 => Lib.hid (fun W hW => by
        have := HCK.out W A' c' (p.take (p.length - 1)) false (HNO.out _ (by rw [List.length_take]; omega)) (below_trans h6 hW) ((hs6.below hW).take _) (by rw [List.length_take]; omega) (HSMP.out.take _)
        rw [List.length_take, Nat.min_eq_left (by omega)] at this
        exact this.mono fun _ _ ⟨he, hb⟩ => ⟨he, below_trans hW hb⟩))
      have hp1000 : p.length ≤ 100 := hp100
      go_wp2_with fail
      refine wp_region_held_drew (S := fun W => W.cell? ⟨b, off + i, none⟩ = some (.string s)) (by kernel_rfl) (HCELL.out _ HB5.out.drew) (fun hS5 => ?_)
      refine wpAnyH_take (i := 0) (v := ?_) rfl (by kernel_rfl) (by kernel_rfl) (by kernel_rfl) (fun _ _ _ h => h) (Or.inl ⟨by kernel_rfl, ?hy⟩) hS5 ?rest
      case hy => (intro w hSw; clear hSw; go_simp; try with_reducible rfl)
      case rest =>
      refine wpAnyH_take (i := 1) (v := ?_) rfl (by kernel_rfl) (by kernel_rfl) (by kernel_rfl) (fun _ _ _ h => h) (Or.inl ⟨by kernel_rfl, ?hy⟩) hS5 ?rest
      case hy => (intro w hSw; clear hSw; go_simp; try with_reducible rfl)
      case rest =>
      refine wpAnyH_take (i := 2) (v := ?_) rfl (by kernel_rfl) (by kernel_rfl) (by kernel_rfl) (fun _ _ _ h => h) (Or.inl ⟨by kernel_rfl, ?hy⟩) hS5 ?rest
      case hy => (intro w hSw; clear hSw; go_simp; try with_reducible rfl)
      case rest =>
      refine wpAnyH_take (i := 3) (v := .bool false) rfl (by kernel_rfl) (by kernel_rfl) (by kernel_rfl) (fun _ _ _ h => h) (Or.inl ⟨by kernel_rfl, ?hy⟩) hS5 ?rest
      case hy => (intro w hSw; clear hSw; go_simp; try with_reducible rfl)
      case rest =>
      refine wpAnyH_take (i := 4) (v := .bool false) rfl (by kernel_rfl) (by kernel_rfl) (by kernel_rfl) (fun _ _ _ h => h) (Or.inl ⟨by kernel_rfl, ?hy⟩) hS5 ?rest
      case hy => (intro w hSw; clear hSw; go_simp; try with_reducible rfl)
      case rest =>
      refine wpAnyH_take (i := 5) (v := ?_) rfl (by kernel_rfl) (by kernel_rfl) (by kernel_rfl) (fun _ _ _ h => h) (Or.inl ⟨by kernel_rfl, ?hy⟩) hS5 ?rest
      case hy => (intro w hSw; clear hSw; go_simp; try with_reducible rfl)
      case rest =>
      refine wpAnyH_take (i := 6) (v := ?_) rfl (by kernel_rfl) (by kernel_rfl) (by kernel_rfl) (fun _ _ _ h => h) (Or.inl ⟨by kernel_rfl, ?hy⟩) hS5 ?rest
      case hy => (intro w hSw; clear hSw; go_simp; try with_reducible rfl)
      case rest =>
      refine wpAnyH_take (i := 7) (v := ?_) rfl (by kernel_rfl) (by kernel_rfl) (by kernel_rfl) (fun _ _ _ h => h) (Or.inl ⟨by kernel_rfl, ?hy⟩) hS5 ?rest
      case hy => (intro w hSw; clear hSw; go_simp; try with_reducible rfl)
      case rest =>
      refine wpAnyH_take (i := 8) (v := ?_) rfl (by kernel_rfl) (by kernel_rfl) (by kernel_rfl) (fun _ _ _ h => h) (Or.inl ⟨by kernel_rfl, ?hy⟩) hS5 ?rest
      case hy => (intro w hSw; clear hSw; go_simp; try with_reducible rfl)
      case rest =>
      refine wpAnyH_take (i := 9) (v := ?_) rfl (by kernel_rfl) (by kernel_rfl) (by kernel_rfl) (fun _ _ _ h => h) (Or.inl ⟨by kernel_rfl, ?hy⟩) hS5 ?rest
      case hy => (intro w hSw; clear hSw; go_simp; try with_reducible rfl)
      case rest =>
      refine wpAnyH_take (i := 10) (v := ?_) rfl (by kernel_rfl) (by kernel_rfl) (by kernel_rfl) (fun _ _ _ h => h) (Or.inl ⟨by kernel_rfl, ?hy⟩) hS5 ?rest
      case hy => (intro w hSw; clear hSw; go_simp; try with_reducible rfl)
      case rest =>
      refine wpAnyH_take (i := 11) (v := ?_) rfl (by kernel_rfl) (by kernel_rfl) (by kernel_rfl) (fun _ _ _ h => h) (Or.inl ⟨by kernel_rfl, ?hy⟩) hS5 ?rest
      case hy => (intro w hSw; clear hSw; go_simp; try with_reducible rfl)
      case rest =>
      refine wpAnyH_take (i := 12) (v := .string s) rfl (by kernel_rfl) (by kernel_rfl) (by kernel_rfl) (fun _ _ _ h => h) (Or.inl ⟨by kernel_rfl, ?hy⟩) hS5 ?rest
      case hy => (intro w hSw; (try dsimp only at hSw); have ql := lt_of_cell hSw; go_simp; try with_reducible rfl)
      case rest =>
      refine wpAnyH_take (i := 14) (v := ?_) rfl (by kernel_rfl) (by kernel_rfl) (by kernel_rfl) (fun _ _ _ h => h) (Or.inl ⟨by kernel_rfl, ?hy⟩) hS5 ?rest
      case hy => (intro w hSw; clear hSw; go_simp; try with_reducible rfl)
      case rest =>
      refine wpAnyH_ready (rs := [13]) (by kernel_rfl) (by simp) ?_
      refine AllReadyH.cons rfl (fun K hK => ?_) AllReadyH.nil
      go_simp
      refine hK.out _ _ (HCELL.out _ (below_alloc HB5.out.drew _)) (fun _ => ?_)
      clear hK K
      refine wpAnyH_ready (rs := [15]) (by kernel_rfl) (by simp) ?_
      refine AllReadyH.cons rfl (fun K hK => ?_) AllReadyH.nil
      refine step_app (w5.drew.alloc (.cells #[] 9)) (by kernel_rfl) (.tmp 71) (.tmp 72) 22 22 rfl w5.heap.size 9 9 ip _ 1 16 Tryd.underlying22 Tryd.underlying22 HI.out.1 HI.out.2.1 HI.out.2.2.1 HI.out.2.2.2 rfl (by omega) (.slice (some ⟨w5.heap.size, 0, none⟩) 0 0) 0 [] (by kernel_rfl) HO1.out A' p.length c' (p.map Value.string) (by kernel_rfl) HRD1.out HONE.out (by simp only [maxLen]; omega) (by omega) (by simp) ?_
      intro v2 W2 hown2 hg2
      have HXW2 : Hid (Below w5.heap.size w5 W2) := Lib.hid ((below_alloc (Below.drew (Below.refl _ _)) _).grown hg2 (by simp) (fun j hj => (HO1.out.lt j hj).1))
      have HBW2 := Lib.hid (below_trans HB5.out HXW2.out)
      rw [List.nil_append, Nat.zero_add] at hown2
      have HO2 := Lib.hid hown2
      clear hown2 hg2
      refine hK.out _ _ (HCELL.out _ HBW2.out) (fun _ => ?_)
      clear hK K
      refine wpAnyH_ready (rs := [16]) (by kernel_rfl) (by simp) ?_
      refine AllReadyH.cons rfl (fun K hK => ?_) AllReadyH.nil
      go_simp
      refine (HRN.out _ HBW2.out).mono ?_
      rintro e W3 ⟨rfl, hb3⟩
      have HBW3 := Lib.hid (below_trans HBW2.out hb3)
      have HXW3 := Lib.hid (below_trans HXW2.out hb3)
      have HO3 := Lib.hid (row_below (row_below HO2.out hb3) (below_alloc (Below.refl _ _) (.cells #[.string em] 9)))
      clear hb3
      go_simp
      refine hK.out _ _ (HCELL.out _ HBW3.out) (fun _ => ?_)
      clear hK K
      refine wpAnyH_ready (rs := [17]) (by kernel_rfl) (by simp) ?_
      refine AllReadyH.cons rfl (fun K hK => ?_) AllReadyH.nil
      go_simp
      refine hK.out _ _ (HCELL.out _ (below_alloc HBW3.out _)) (fun _ => ?_)
      clear hK K
      refine wpAnyH_ready (rs := [18]) (by kernel_rfl) (by simp) ?_
      refine AllReadyH.cons rfl (fun K hK => ?_) AllReadyH.nil
      refine step_app (W3.alloc (.cells #[.string em] 9)) (by kernel_rfl) (.tmp 73) (.tmp 75) 22 22 rfl w5.heap.size 9 9 ip _ 1 16 Tryd.underlying22 Tryd.underlying22 HI.out.1 HI.out.2.1 HI.out.2.2.1 HI.out.2.2.2 rfl (by omega) v2 p.length _ (by kernel_rfl) HO3.out (some ⟨W3.heap.size, 0, none⟩) 1 1 [.string em] (by kernel_rfl) (Rd_new W3 #[.string em] _ 1 1 _ rfl rfl) (by simp [Value.oneCell']) (by simp only [maxLen]; omega) (by omega) (by have := HXW3.out.size; simp; omega) ?_
      intro v5 W5 hown5 hg5
      have HXW5 : Hid (Below w5.heap.size w5 W5) := Lib.hid ((below_alloc HXW3.out _).grown hg5 (by have := HXW3.out.size; simp; omega) (fun j hj => (HO3.out.lt j hj).1))
      have HBW5 := Lib.hid (below_trans HB5.out HXW5.out)
      obtain ⟨A5, c5, rfl, -, -, hs5⟩ := Rd.of_own hown5
      have HCHK5 := Lib.hid (HCKN.out W5 A5 c5 HBW5.out (strs_app hs5))
      clear hown5 hg5 hs5
      refine hK.out _ _ (HCELL.out _ HBW5.out) (fun _ => ?_)
      clear hK K
      refine wpAnyH_ready (rs := [19]) (by kernel_rfl) (by simp) ?_
      refine AllReadyH.cons rfl (fun K hK => ?_) AllReadyH.nil
      go_simp
      refine HCHK5.out.mono ?_
      rintro e W6 ⟨rfl, hb6⟩
      have HBW6 := Lib.hid (below_trans HBW5.out hb6)
      have HSW6 := Lib.hid (HS5.out.below (below_trans HXW5.out hb6))
      clear hb6
      go_simp
      refine hK.out _ _ (HCELL.out _ HBW6.out) (fun hS6 => ?_)
      clear hK K
      refine wpAnyH_take (i := 20) (v := ?_) rfl (by kernel_rfl) (by kernel_rfl) (by kernel_rfl) (fun _ _ _ h => h) (Or.inl ⟨by kernel_rfl, ?hy⟩) hS6 ?rest
      case hy => (intro w hSw; clear hSw; go_simp; try with_reducible rfl)
      case rest =>
      refine wpAnyH_done (by kernel_rfl) ?_ _
      clear hS6
      go_wp2_with fail
      refine wp_region_belowC (by kernel_rfl) (by kernel_rfl) (fun WQ HQS HQN => ?_)
      generalize bdig n = dn
      rcases HPZZ.out with ⟨hp0, hn1⟩ | ⟨hpp, hn2⟩
      · have hpe : ((p.length : Int) == 0) = true := by rw [hp0]; rfl
        have hpe0 : (p.length == 0) = true := by rw [hp0]; rfl
        have hne1 : ((n : Int) == 1) = true := by rw [hn1]; rfl
        have hne10 : (n == 1) = true := by rw [hn1]; rfl
        clear hp0 hn1
        refine HQS.go (fun K hK => ?_)
        go_simp
        apply Exists.intro
        refine ⟨fun W hW => ?_, hK _ ?_⟩
        · (try go_simp)
          exact rfl
        clear hK K
        refine HQS.go (fun K hK => ?_)
        go_simp
        apply Exists.intro
        refine ⟨fun W hW => ?_, hK _ ?_⟩
        · (try go_simp)
          exact rfl
        clear hK K
        refine HQS.go (fun K hK => ?_)
        go_simp
        apply Exists.intro
        refine ⟨fun W hW => ?_, hK _ ?_⟩
        · (try go_simp)
          exact rfl
        clear hK K
        refine HQS.go (fun K hK => ?_)
        go_simp
        apply Exists.intro
        refine ⟨fun W hW => ?_, hK _ ?_⟩
        · (try go_simp)
          exact rfl
        clear hK K
        refine HQS.go (fun K hK => ?_)
        go_simp
        apply Exists.intro
        refine ⟨fun W hW => ?_, hK _ ?_⟩
        · (try go_simp)
          exact rfl
        clear hK K
        refine HQS.go (fun K hK => ?_)
        go_simp
        apply Exists.intro
        refine ⟨fun W hW => ?_, hK _ ?_⟩
        · (try go_simp)
          exact rfl
        clear hK K
        refine HQS.go (fun K hK => ?_)
        go_simp
        apply Exists.intro
        refine ⟨fun W hW => ?_, hK _ ?_⟩
        · (try go_simp)
          exact rfl
        clear hK K
        refine HQS.go (fun K hK => ?_)
        go_simp
        apply Exists.intro
        refine ⟨fun W hW => ?_, hK _ ?_⟩
        · (try go_simp)
          exact rfl
        clear hK K
        refine HQS.go (fun K hK => ?_)
        go_simp
        apply Exists.intro
        refine ⟨fun W hW => ?_, hK _ ?_⟩
        · (try go_simp)
          exact rfl
        clear hK K
        refine HQS.go (fun K hK => ?_)
        go_simp
        apply Exists.intro
        refine ⟨fun W hW => ?_, hK _ ?_⟩
        · (try go_simp)
          exact rfl
        clear hK K
        refine HQS.go (fun K hK => ?_)
        go_simp
        apply Exists.intro
        refine ⟨fun W hW => ?_, hK _ ?_⟩
        · (try go_simp)
          exact rfl
        clear hK K
        refine HQS.go (fun K hK => ?_)
        go_simp
        apply Exists.intro
        refine ⟨fun W hW => ?_, hK _ ?_⟩
        · (try go_simp)
          exact rfl
        clear hK K
        refine HQS.go (fun K hK => ?_)
        go_simp
        apply Exists.intro
        refine ⟨fun W hW => ?_, hK _ ?_⟩
        · (try go_simp)
          exact rfl
        clear hK K
        refine HQS.go (fun K hK => ?_)
        go_simp
        apply Exists.intro
        refine ⟨fun W hW => ?_, hK _ ?_⟩
        · (try go_simp)
          exact rfl
        clear hK K
        refine HQS.go (fun K hK => ?_)
        go_simp
        apply Exists.intro
        refine ⟨fun W hW => ?_, hK _ ?_⟩
        · (try go_simp)
          exact rfl
        clear hK K
        refine HQS.go (fun K hK => ?_)
        go_simp
        refine hK _ ?_
        clear hK K
        refine HQS.go (fun K hK => ?_)
        go_simp
        refine hK _ ?_
        clear hK K
        refine HQS.go (fun K hK => ?_)
        go_simp
        refine hK _ ?_
        clear hK K
        refine HQS.go (fun K hK => ?_)
        go_simp
        refine hK _ ?_
        clear hK K
        refine HQS.go (fun K hK => ?_)
        go_simp
        refine hK _ ?_
        clear hK K
        refine HQS.go (fun K hK => ?_)
        go_simp
        refine hK _ ?_
        clear hK K
        refine HQS.go (fun K hK => ?_)
        go_simp
        refine hK _ ?_
        clear hK K
        refine HQS.go (fun K hK => ?_)
        go_simp
        refine hK _ ?_
        clear hK K
        refine HQS.go (fun K hK => ?_)
        go_simp
        refine hK _ ?_
        clear hK K
        refine HQS.go (fun K hK => ?_)
        go_simp
        refine hK _ ?_
        clear hK K
        refine HQS.go (fun K hK => ?_)
        go_simp
        refine hK _ ?_
        clear hK K
        refine HQS.go (fun K hK => ?_)
        go_simp
        refine hK _ ?_
        clear hK K
        refine HQS.go (fun K hK => ?_)
        go_simp
        refine hK _ ?_
        clear hK K
        refine HQS.go (fun K hK => ?_)
        go_simp
        refine hK _ ?_
        clear hK K
        refine HQS.go (fun K hK => ?_)
        go_simp
        refine hK _ ?_
        clear hK K
        refine HQS.go (fun K hK => ?_)
        go_simp
        apply Exists.intro
        refine ⟨fun W hW => ?_, hK _ ?_⟩
        · (try go_simp)
          exact rfl
        clear hK K
        refine HQS.go (fun K hK => ?_)
        go_simp
        apply Exists.intro
        refine ⟨fun W hW => ?_, hK _ ?_⟩
        · (try go_simp)
          exact rfl
        clear hK K
        refine HQS.go (fun K hK => ?_)
        go_simp
        apply Exists.intro
        refine ⟨fun W hW => ?_, hK _ ?_⟩
        · (try go_simp)
          exact rfl
        clear hK K
        refine HQN.go ?_
        intro W hW
        go_wp2
        go_ret
        exact ⟨rfl, below_trans HBW6.out hW⟩
      · have hpe : ((p.length : Int) == 0) = false := by simp only [beq_eq_false_iff_ne, ne_eq]; omega
        have hpe0 : (p.length == 0) = false := by simp only [beq_eq_false_iff_ne, ne_eq]; omega
        have hne1 : ((n : Int) == 1) = false := by simp only [beq_eq_false_iff_ne, ne_eq]; omega
        have hne10 : (n == 1) = false := by simp only [beq_eq_false_iff_ne, ne_eq]; omega
        have hsub : IntKind.i64.wrap ((p.length : Int) - 1) = ((p.length - 1 : Nat) : Int) := by rw [IntWalk.i64_in _ (by omega)]; omega
        have hcc : ((p.length - 1 : Nat) : Int) ≤ (c' : Int) := by have := HC4.out; omega
        have HCKP := HCKD.out W6 HBW6.out HSW6.out hpp
        refine HQS.go (fun K hK => ?_)
        go_simp
        apply Exists.intro
        refine ⟨fun W hW => ?_, hK _ ?_⟩
        · (try go_simp)
          exact rfl
        clear hK K
        refine HQS.go (fun K hK => ?_)
        go_simp
        apply Exists.intro
        refine ⟨fun W hW => ?_, hK _ ?_⟩
        · (try go_simp)
          exact rfl
        clear hK K
        refine HQS.go (fun K hK => ?_)
        go_simp
        apply Exists.intro
        refine ⟨fun W hW => ?_, hK _ ?_⟩
        · (try go_simp)
          exact rfl
        clear hK K
        refine HQS.go (fun K hK => ?_)
        go_simp
        apply Exists.intro
        refine ⟨fun W hW => ?_, hK _ ?_⟩
        · (try go_simp)
          exact rfl
        clear hK K
        refine HQS.go (fun K hK => ?_)
        go_simp
        apply Exists.intro
        refine ⟨fun W hW => ?_, hK _ ?_⟩
        · (try go_simp)
          exact rfl
        clear hK K
        refine HQS.go (fun K hK => ?_)
        go_simp
        apply Exists.intro
        refine ⟨fun W hW => ?_, hK _ ?_⟩
        · (try go_simp)
          exact rfl
        clear hK K
        refine HQS.go (fun K hK => ?_)
        go_simp
        apply Exists.intro
        refine ⟨fun W hW => ?_, hK _ ?_⟩
        · (try go_simp)
          exact rfl
        clear hK K
        refine HQS.go (fun K hK => ?_)
        go_simp
        apply Exists.intro
        refine ⟨fun W hW => ?_, hK _ ?_⟩
        · (try go_simp)
          exact rfl
        clear hK K
        refine HQS.go (fun K hK => ?_)
        go_simp
        apply Exists.intro
        refine ⟨fun W hW => ?_, hK _ ?_⟩
        · (try go_simp)
          exact rfl
        clear hK K
        refine HQS.go (fun K hK => ?_)
        go_simp
        apply Exists.intro
        refine ⟨fun W hW => ?_, hK _ ?_⟩
        · (try go_simp)
          exact rfl
        clear hK K
        refine HQS.go (fun K hK => ?_)
        go_simp
        apply Exists.intro
        refine ⟨fun W hW => ?_, hK _ ?_⟩
        · (try go_simp)
          exact rfl
        clear hK K
        refine HQS.go (fun K hK => ?_)
        go_simp
        apply Exists.intro
        refine ⟨fun W hW => ?_, hK _ ?_⟩
        · (try go_simp)
          exact rfl
        clear hK K
        refine HQS.go (fun K hK => ?_)
        go_simp
        apply Exists.intro
        refine ⟨fun W hW => ?_, hK _ ?_⟩
        · (try go_simp)
          exact rfl
        clear hK K
        refine HQS.go (fun K hK => ?_)
        go_simp
        apply Exists.intro
        refine ⟨fun W hW => ?_, hK _ ?_⟩
        · (try go_simp)
          exact rfl
        clear hK K
        refine HQS.go (fun K hK => ?_)
        go_simp
        apply Exists.intro
        refine ⟨fun W hW => ?_, hK _ ?_⟩
        · (try go_simp)
          exact rfl
        clear hK K
        refine HQS.go (fun K hK => ?_)
        go_simp
        apply Exists.intro
        refine ⟨fun W hW => ?_, hK _ ?_⟩
        · (try go_simp)
          exact rfl
        clear hK K
        refine HQS.go (fun K hK => ?_)
        go_simp
        apply Exists.intro
        refine ⟨fun W hW => ?_, hK _ ?_⟩
        · (try go_simp)
          exact rfl
        clear hK K
        refine HQS.go (fun K hK => ?_)
        go_simp
        apply Exists.intro
        refine ⟨fun W hW => ?_, hK _ ?_⟩
        · (try go_simp)
          exact rfl
        clear hK K
        refine HQS.go (fun K hK => ?_)
        go_simp
        apply Exists.intro
        refine ⟨fun W hW => ?_, hK _ ?_⟩
        · (try go_simp)
          exact rfl
        clear hK K
        refine HQS.go (fun K hK => ?_)
        go_simp
        apply Exists.intro
        refine ⟨fun W hW => ?_, hK _ ?_⟩
        · (try go_simp)
          exact rfl
        clear hK K
        refine HQS.go (fun K hK => ?_)
        go_simp
        apply Exists.intro
        refine ⟨fun W hW => ?_, hK _ ?_⟩
        · (try go_simp)
          exact rfl
        clear hK K
        refine HQS.go (fun K hK => ?_)
        go_simp
        apply Exists.intro
        refine ⟨fun W hW => ?_, hK _ ?_⟩
        · (try go_simp)
          exact rfl
        clear hK K
        refine HQS.go (fun K hK => ?_)
        go_simp
        apply Exists.intro
        refine ⟨fun W hW => ?_, hK _ ?_⟩
        · have qq := HCELL.out W (below_trans HBW6.out hW)
          have ql := lt_of_cell qq
          go_simp
          exact rfl
        clear hK K
        refine HQS.go (fun K hK => ?_)
        go_simp
        apply Exists.intro
        refine ⟨fun W hW => ?_, hK _ ?_⟩
        · (try go_simp)
          exact rfl
        clear hK K
        refine HQS.go (fun K hK => ?_)
        go_simp
        apply Exists.intro
        refine ⟨fun W hW => ?_, hK _ ?_⟩
        · (try go_simp)
          exact rfl
        clear hK K
        refine HQS.go (fun K hK => ?_)
        go_simp
        apply Exists.intro
        refine ⟨fun W hW => ?_, hK _ ?_⟩
        · (try go_simp)
          exact rfl
        clear hK K
        refine HQS.go (fun K hK => ?_)
        go_simp
        apply Exists.intro
        refine ⟨fun W hW => ?_, hK _ ?_⟩
        · (try go_simp)
          exact rfl
        clear hK K
        refine HQS.go (fun K hK => ?_)
        go_simp
        apply Exists.intro
        refine ⟨fun W hW => ?_, hK _ ?_⟩
        · (try go_simp)
          exact rfl
        clear hK K
        refine HQS.go (fun K hK => ?_)
        go_simp
        apply Exists.intro
        refine ⟨fun W hW => ?_, hK _ ?_⟩
        · exact HCKP.out W hW
        clear hK K
        refine HQS.go (fun K hK => ?_)
        go_simp
        apply Exists.intro
        refine ⟨fun W hW => ?_, hK _ ?_⟩
        · (try go_simp)
          exact rfl
        clear hK K
        refine HQS.go (fun K hK => ?_)
        go_simp
        apply Exists.intro
        refine ⟨fun W hW => ?_, hK _ ?_⟩
        · (try go_simp)
          exact rfl
        clear hK K
        refine HQS.go (fun K hK => ?_)
        go_simp
        apply Exists.intro
        refine ⟨fun W hW => ?_, hK _ ?_⟩
        · (try go_simp)
          exact rfl
        clear hK K
        refine HQS.go (fun K hK => ?_)
        go_simp
        apply Exists.intro
        refine ⟨fun W hW => ?_, hK _ ?_⟩
        · (try go_simp)
          exact rfl
        clear hK K
        refine HQN.go ?_
        intro W hW
        go_wp2
        go_ret
        exact ⟨rfl, below_trans HBW6.out hW⟩

end Go.Proofs.YtfmlhlliephlhaaDoor
