/- The law TreeContinues: the walk. -/
import Derived.Test.YtfmlhlliephlhaaDoorLBinds02
import Derived.Test.YtfmlhlliephlhaaDoorTreeB02
namespace Go.Proofs.YtfmlhlliephlhaaDoor
open Go.RowKit

theorem ltx_small (n m : Nat) (wh : Bool) (old : ByteArray) (p : List ByteArray) (hp : allD p = true) (ho : old.size ≤ 200) : ∀ t ∈ ltx n m wh old p, t.size ≤ 1000000000 := by
  induction n using Nat.strongRecOn generalizing m wh p with
  | _ n ih =>
    by_cases hc : m < n ∧ 2 ≤ n
    · have k1 := hf_lt n hc.2
      have k2 := hf_pos n
      have hd : allD p.dropLast = true := by rw [List.dropLast_eq_take]; exact allD_take hp _
      have hl := getLastD_size p hp
      intro t ht
      by_cases hi : m ≤ hf n
      · have hb := bothv_size (hf n) m wh old p.dropLast hd ho
        rw [ltx_le n m wh old p hc.1 hc.2 hi] at ht
        rcases List.mem_append.1 ht with h3 | h3
        · exact ih (hf n) k1 m wh p.dropLast hd t h3
        · rw [List.mem_singleton.1 h3]; exact jb_small _ _ hb.2 hl
      · have hb := bothv_size (n - hf n) (m - hf n) false old p.dropLast hd ho
        rw [ltx_gt n m wh old p hc.1 hc.2 hi] at ht
        rcases List.mem_append.1 ht with h3 | h3
        · rcases List.mem_append.1 h3 with h4 | h4
          · exact ih (n - hf n) (by omega) (m - hf n) false p.dropLast hd t h4
          · rw [List.mem_singleton.1 h4]; exact jb_small _ _ hl hb.1
        · rw [List.mem_singleton.1 h3]; exact jb_small _ _ hl hb.2
    · have e : ltx n m wh old p = [] := by rw [ltx, dif_neg hc]
      rw [e]; intro t ht; cases ht

theorem ext_parts {old root : ByteArray} {n m : Nat} {p : List ByteArray} (hm : 1 ≤ m) (h : extB old (m : Int) root (n : Int) p = true) : allD p = true ∧ bothv n m true old p = (old, root) ∧ p.length = llen n m true := by
  unfold extB at h
  have h0 : ¬ (m : Int) = 0 := by omega
  rw [if_neg h0] at h
  simp only [Bool.and_eq_true, decide_eq_true_eq, Int.toNat_natCast] at h
  exact ⟨h.2.1, Prod.ext h.2.2.2.1 h.2.2.2.2.1, h.2.2.2.2.2⟩

set_option maxRecDepth 100000 in
set_option maxHeartbeats 32000000 in
theorem conts_walk (A : Option Addr) (c : Nat) (a : List ByteArray) (B : Option Addr) (d : Nat) (l : List ByteArray) (G : Option Addr) (g : Nat) (p : List ByteArray) (w : World) (hT : Tabs w) (hSa : Strs w A a) (hSl : Strs w B l) (hSp : Strs w G p) (hla : a.length ≤ 9223372036854775807) (hll : l.length ≤ 9223372036854775807) (hlp : p.length ≤ 9223372036854775807) (hc : a.length ≤ c) (hd : l.length ≤ d) (hg : p.length ≤ g) :
    Calls Tryd.prog 7 #[.slice A a.length c, .slice B l.length d, .slice G p.length g] w fun e w' => e = .returned (.bool true) ∧ Below w.heap.size w w' := by
  have HH := Lib.hid (head_any w hT)
  have HT : Hid (∀ W, Below w.heap.size w W → Tabs W) := Lib.hid (fun W hW => hT.below hW)
  have HSA : Hid (∀ W, Below w.heap.size w W → Strs W A a) := Lib.hid (fun W hW => hSa.below hW)
  have HSL : Hid (∀ W, Below w.heap.size w W → Strs W B l) := Lib.hid (fun W hW => hSl.below hW)
  have HSP : Hid (∀ W, Below w.heap.size w W → Strs W G p) := Lib.hid (fun W hW => hSp.below hW)
  have HGA := Lib.hid (fun W (hW : Below w.heap.size w W) => lgood_any A c a W (hSa.below hW) hla)
  have HGL := Lib.hid (fun W (hW : Below w.heap.size w W) => lgood_any B d l W (hSl.below hW) hll)
  have HF := Lib.hid (fun W (hW : Below w.heap.size w W) => lfew_any G g p W (hSp.below hW) hlp)
  clear hT hSa hSl hSp
  obtain ⟨va, hva⟩ : ∃ v, lgood a = v := ⟨_, rfl⟩
  obtain ⟨vl, hvl⟩ : ∃ v, lgood l = v := ⟨_, rfl⟩
  obtain ⟨vf, hvf⟩ : ∃ v, lfew p = v := ⟨_, rfl⟩
  have HVA := Lib.hid hva
  have HVL := Lib.hid hvl
  have HVF := Lib.hid hvf
  rw [hva] at HGA
  rw [hvl] at HGL
  rw [hvf] at HF
  clear hva hvl hvf
  cases va with
  | false =>
    go_enter Tryd.func7, Tryd.ntmps7
    go_wp2_with fail
    refine HH.out.mono ?_
    rintro e w1 ⟨rfl, hb1⟩
    have HBw1 := Lib.hid hb1
    clear hb1
    go_wp2_with fail
    refine (HGA.out w1 HBw1.out).mono ?_
    rintro e w2 ⟨rfl, hb⟩
    have HBw2 := Lib.hid (below_trans HBw1.out hb)
    clear hb
    go_wp2
    go_ret
    exact ⟨rfl, HBw2.out⟩
  | true =>
  cases vl with
  | false =>
    go_enter Tryd.func7, Tryd.ntmps7
    go_wp2_with fail
    refine HH.out.mono ?_
    rintro e w1 ⟨rfl, hb1⟩
    have HBw1 := Lib.hid hb1
    clear hb1
    go_wp2_with fail
    refine (HGA.out w1 HBw1.out).mono ?_
    rintro e w2 ⟨rfl, hb⟩
    have HBw2 := Lib.hid (below_trans HBw1.out hb)
    clear hb
    go_wp2_with fail
    refine (HGL.out w2 HBw2.out).mono ?_
    rintro e w3 ⟨rfl, hb⟩
    have HBw3 := Lib.hid (below_trans HBw2.out hb)
    clear hb
    go_wp2
    go_ret
    exact ⟨rfl, HBw3.out⟩
  | true =>
  cases vf with
  | false =>
    go_enter Tryd.func7, Tryd.ntmps7
    go_wp2_with fail
    refine HH.out.mono ?_
    rintro e w1 ⟨rfl, hb1⟩
    have HBw1 := Lib.hid hb1
    clear hb1
    go_wp2_with fail
    refine (HGA.out w1 HBw1.out).mono ?_
    rintro e w2 ⟨rfl, hb⟩
    have HBw2 := Lib.hid (below_trans HBw1.out hb)
    clear hb
    go_wp2_with fail
    refine (HGL.out w2 HBw2.out).mono ?_
    rintro e w3 ⟨rfl, hb⟩
    have HBw3 := Lib.hid (below_trans HBw2.out hb)
    clear hb
    go_wp2_with fail
    refine (HF.out w3 HBw3.out).mono ?_
    rintro e _ ⟨rfl, rfl⟩
    go_wp2
    go_ret
    exact ⟨rfl, HBw3.out⟩
  | true =>
  by_cases hmn : a.length ≤ l.length
  case neg =>
    have hd1 : decide (l.length < a.length) = true := decide_eq_true (by omega)
    have hi1 : (l.length : Int) < (a.length : Int) := by omega
    have hd2 : decide ((l.length : Int) < (a.length : Int)) = true := decide_eq_true hi1
    go_enter Tryd.func7, Tryd.ntmps7
    go_wp2_with fail
    refine HH.out.mono ?_
    rintro e w1 ⟨rfl, hb1⟩
    have HBw1 := Lib.hid hb1
    clear hb1
    go_wp2_with fail
    refine (HGA.out w1 HBw1.out).mono ?_
    rintro e w2 ⟨rfl, hb⟩
    have HBw2 := Lib.hid (below_trans HBw1.out hb)
    clear hb
    go_wp2_with fail
    refine (HGL.out w2 HBw2.out).mono ?_
    rintro e w3 ⟨rfl, hb⟩
    have HBw3 := Lib.hid (below_trans HBw2.out hb)
    clear hb
    go_wp2_with fail
    refine (HF.out w3 HBw3.out).mono ?_
    rintro e _ ⟨rfl, rfl⟩
    go_wp2
    go_ret
    exact ⟨rfl, HBw3.out⟩
  case pos =>
  obtain ⟨hDa, ha20, hsma⟩ := lgood_eq HVA.out
  obtain ⟨hDl, hl20, hsml⟩ := lgood_eq HVL.out
  obtain ⟨hp20, hsmp⟩ := lfew_eq HVF.out
  obtain ⟨m, hm⟩ : ∃ m, a.length = m := ⟨_, rfl⟩
  obtain ⟨n, hn⟩ : ∃ n, l.length = n := ⟨_, rfl⟩
  have htl : (l.take m).length = m := by rw [List.length_take]; omega
  have hzr := rt_size _ hsma
  have hzl := rt_size _ hsml
  have HST : Hid (∀ W, Below w.heap.size w W → Strs W B (l.take m)) := Lib.hid (fun W hW => (HSL.out W hW).take m)
  have HRA : Hid (∀ (W : World), Below w.heap.size w W → Calls Tryd.prog 10 #[.slice A m c] W fun e w' => e = .returned (.string (rt a)) ∧ Below W.heap.size W w') := Lib.hid (fun W hW => by
    have := rooted_any A c a W (by omega) hc (HSA.out W hW) hsma (HT.out W hW)
    rw [hDa, if_pos rfl, hm] at this
    exact this)
  have HRL : Hid (∀ (W : World), Below w.heap.size w W → Calls Tryd.prog 10 #[.slice B n d] W fun e w' => e = .returned (.string (rt l)) ∧ Below W.heap.size W w') := Lib.hid (fun W hW => by
    have := rooted_any B d l W (by omega) hd (HSL.out W hW) hsml (HT.out W hW)
    rw [hDl, if_pos rfl, hn] at this
    exact this)
  obtain ⟨xv, hxv⟩ : ∃ v, extB (rt a) (m : Int) (rt l) (n : Int) p = v := ⟨_, rfl⟩
  have HEX : Hid (∀ (W : World), Below w.heap.size w W → Calls Tryd.prog 20 #[.string (rt a), .int .i64 (m : Int), .string (rt l), .int .i64 (n : Int), .slice G p.length g] W fun e w' => e = .returned (.bool xv) ∧ Below W.heap.size W w') := Lib.hid (fun W hW => by
    have := ext_any (rt a) (m : Int) (rt l) (n : Int) G g p W (HT.out W hW) (HSP.out W hW) (by omega) (by omega) (by omega) (fun s hs => by have := hsmp s hs; omega)
    rw [hxv] at this
    exact this)
  obtain ⟨sv, hsv⟩ : ∃ v, decide (a = l.take m) = v := ⟨_, rfl⟩
  have HSAME : Hid (∀ (W : World), Below w.heap.size w W → Calls Tryd.prog 18 #[.slice A m c, .slice B m d] W fun e w' => e = .returned (.bool sv) ∧ Below W.heap.size W w') := Lib.hid (fun W hW => by
    have := rsame A B c d a (l.take m) W (HSA.out W hW) (HST.out W hW) (by omega) (by omega)
    rw [hsv, hm, htl] at this
    exact this)
  have HXA : Hid (∀ W, Below w.heap.size w W → Calls Tryd.prog 15 #[.slice A m c] W fun e w' => ∃ v, e = .returned v ∧ w'.ownsRow W.heap.size 9 1 v (txt a).length ((txt a).map Value.string) ∧ Below W.heap.size W w') := Lib.hid (fun W hW => by
    have := rtxt_any a.length A c a W (Nat.le_refl _) (by omega) hc (HSA.out W hW) hsma
    rw [hm] at this
    exact this)
  have HXL : Hid (∀ W, Below w.heap.size w W → Calls Tryd.prog 15 #[.slice B n d] W fun e w' => ∃ v, e = .returned v ∧ w'.ownsRow W.heap.size 9 1 v (txt l).length ((txt l).map Value.string) ∧ Below W.heap.size W w') := Lib.hid (fun W hW => by
    have := rtxt_any l.length B d l W (Nat.le_refl _) (by omega) hd (HSL.out W hW) hsml
    rw [hn] at this
    exact this)
  have HXT : Hid (∀ W, Below w.heap.size w W → Calls Tryd.prog 15 #[.slice B m d] W fun e w' => ∃ v, e = .returned v ∧ w'.ownsRow W.heap.size 9 1 v (txt (l.take m)).length ((txt (l.take m)).map Value.string) ∧ Below W.heap.size W w') := Lib.hid (fun W hW => by
    have := rtxt_any (l.take m).length B d (l.take m) W (Nat.le_refl _) (by omega) (by omega) (HST.out W hW) (hsml.take m)
    rw [htl] at this
    exact this)
  have hfin : xv = true → sv = false → 1 ≤ m ∧ (txt a).length ≤ 100 ∧ (txt l).length ≤ 100 ∧ (txt (l.take m)).length ≤ 100 ∧ (ltx n m true (rt a) p).length ≤ 100 ∧
      (∀ W, Below w.heap.size w W → Calls Tryd.prog 19 #[.slice B n d, .int .i64 (m : Int)] W fun e w' => ∃ A' c', e = .returned (.tuple #[.slice A' p.length c', .int .i64 0]) ∧ Below W.heap.size W w') ∧
      (∀ W, Below w.heap.size w W → Calls Tryd.prog 21 #[.int .i64 (n : Int), .int .i64 (m : Int), .bool true, .string (rt a), .slice G p.length g] W fun e w' => ∃ v, e = .returned v ∧ w'.ownsRow W.heap.size 9 1 v (ltx n m true (rt a) p).length ((ltx n m true (rt a) p).map Value.string) ∧ Below W.heap.size W w') ∧
      (∀ (W : World) (A' : Option Addr) (c' : Nat), Strs W A' (txt a ++ txt l ++ txt (l.take m) ++ ltx n m true (rt a) p) → Calls Tryd.prog 14 #[.slice A' ((txt a).length + (txt l).length + (txt (l.take m)).length + (ltx n m true (rt a) p).length) c'] W fun e w' => e = .returned (.bool true) ∧ Below W.heap.size W w') := by
    intro hxt hsf
    have hne : a ≠ l.take m := of_decide_eq_false (hsv.trans hsf)
    have hm1 : 1 ≤ m := by
      rcases Nat.eq_zero_or_pos m with h0 | h0
      · exfalso
        apply hne
        subst h0
        rw [List.take_zero]
        exact List.eq_nil_of_length_eq_zero hm
      · exact h0
    obtain ⟨hDp, hup, hlen⟩ := ext_parts hm1 (hxv.trans hxt)
    have h1 := (txt_len a).1
    have h2 := (txt_len l).1
    have h3 := (txt_len (l.take m)).1
    have h4 := ltx_len n m true (rt a) p (by omega)
    refine ⟨hm1, by omega, by omega, by omega, by omega, fun W hW => ?_, fun W hW => ?_, fun W A' c' hs' => ?_⟩
    · have := tlink_any B d l (m : Int) W (by omega) (by omega) (HSL.out W hW) hsml (HT.out W hW) hDl (by omega) (by omega)
      rw [hn, Int.toNat_natCast, lk_len l m true hm1, hn, ← hlen] at this
      exact this.mono fun _ _ ⟨A', c', he, _, _, _, hb⟩ => ⟨A', c', he, hb⟩
    · exact rltx_any n n m true (rt a) G g p W (Nat.le_refl _) hm1 (by omega) (by omega) hlen hg (HSP.out W hW) hDp hzr
    · have := shown_any A' c' (txt a ++ txt l ++ txt (l.take m) ++ ltx n m true (rt a) p) W hs' (by rw [List.length_append, List.length_append, List.length_append]; omega) (fun u hu => by
        rcases List.mem_append.1 hu with h5 | h5
        · rcases List.mem_append.1 h5 with h6 | h6
          · rcases List.mem_append.1 h6 with h7 | h7
            · exact txt_small a hsma u h7
            · exact txt_small l hsml u h7
          · exact txt_small _ (hsml.take m) u h6
        · exact ltx_small n m true (rt a) p hDp hzr u h5) (by
        have hb := link_bind l m true (rt a) (rt a) p hm1 (by omega) (by rw [hn]; exact hup)
        rw [hn] at hb
        rcases hb with hb | hb
        · have hr := (roots_bind a (l.take m) (by omega) hb).resolve_left hne
          exact hr.mono fun u hu => by
            rcases List.mem_append.1 hu with h5 | h5
            · exact List.mem_append.2 (.inl (List.mem_append.2 (.inl (List.mem_append.2 (.inl h5)))))
            · exact List.mem_append.2 (.inl (List.mem_append.2 (.inr h5)))
        · exact hb.mono fun u hu => by
            rcases List.mem_append.1 hu with h5 | h5
            · exact List.mem_append.2 (.inl (List.mem_append.2 (.inl (List.mem_append.2 (.inr h5)))))
            · exact List.mem_append.2 (.inr h5))
      rw [List.length_append, List.length_append, List.length_append] at this
      exact this
  have HFIN := Lib.hid hfin
  rw [hm] at HGA hmn hla hc ⊢
  rw [hn] at HGL hmn hll hd ⊢
  have hmi : (m : Int) ≤ (n : Int) := by omega
  have hmd : (m : Int) ≤ (d : Int) := by omega
  have hni : ¬ (n : Int) < (m : Int) := by omega
  have hnd : decide (n < m) = false := decide_eq_false (by omega)
  obtain ⟨ip, hj1, hy0, hy1, hy2⟩ := info_parts info_strg
  have HI := Lib.hid (And.intro hj1 (And.intro hy0 (And.intro hy1 hy2)))
  clear hj1 hy0 hy1 hy2 hfin hxv hsv hm hn hDa hDl hsma hsml hsmp htl hzr hzl
  generalize txt a = TA at *
  generalize txt l = TL at *
  generalize txt (l.take m) = TT at *
  generalize ltx n m true (rt a) p = TX at *
  generalize rt a = ra at *
  generalize rt l = rl at *
  cases xv with
  | false =>
    go_enter Tryd.func7, Tryd.ntmps7
    go_wp2_with fail
    refine HH.out.mono ?_
    rintro e w1 ⟨rfl, hb1⟩
    have HBw1 := Lib.hid hb1
    clear hb1
    go_wp2_with fail
    refine (HGA.out w1 HBw1.out).mono ?_
    rintro e w2 ⟨rfl, hb⟩
    have HBw2 := Lib.hid (below_trans HBw1.out hb)
    clear hb
    go_wp2_with fail
    refine (HGL.out w2 HBw2.out).mono ?_
    rintro e w3 ⟨rfl, hb⟩
    have HBw3 := Lib.hid (below_trans HBw2.out hb)
    clear hb
    go_wp2_with fail
    refine (HF.out w3 HBw3.out).mono ?_
    rintro e _ ⟨rfl, rfl⟩
    go_wp2_with fail
    refine (HRA.out w3 HBw3.out).mono ?_
    rintro e w4 ⟨rfl, hb⟩
    have HBw4 := Lib.hid (below_trans HBw3.out hb)
    clear hb
    go_wp2_with fail
    refine (HRL.out w4 HBw4.out).mono ?_
    rintro e w5 ⟨rfl, hb⟩
    have HBw5 := Lib.hid (below_trans HBw4.out hb)
    clear hb
    go_wp2_with fail
    refine (HEX.out w5 HBw5.out).mono ?_
    rintro e w6 ⟨rfl, hb⟩
    have HBw6 := Lib.hid (below_trans HBw5.out hb)
    clear hb
    go_wp2
    go_ret
    exact ⟨rfl, HBw6.out⟩
  | true =>
  cases sv with
  | true =>
    go_enter Tryd.func7, Tryd.ntmps7
    go_wp2_with fail
    refine HH.out.mono ?_
    rintro e w1 ⟨rfl, hb1⟩
    have HBw1 := Lib.hid hb1
    clear hb1
    go_wp2_with fail
    refine (HGA.out w1 HBw1.out).mono ?_
    rintro e w2 ⟨rfl, hb⟩
    have HBw2 := Lib.hid (below_trans HBw1.out hb)
    clear hb
    go_wp2_with fail
    refine (HGL.out w2 HBw2.out).mono ?_
    rintro e w3 ⟨rfl, hb⟩
    have HBw3 := Lib.hid (below_trans HBw2.out hb)
    clear hb
    go_wp2_with fail
    refine (HF.out w3 HBw3.out).mono ?_
    rintro e _ ⟨rfl, rfl⟩
    go_wp2_with fail
    refine (HRA.out w3 HBw3.out).mono ?_
    rintro e w4 ⟨rfl, hb⟩
    have HBw4 := Lib.hid (below_trans HBw3.out hb)
    clear hb
    go_wp2_with fail
    refine (HRL.out w4 HBw4.out).mono ?_
    rintro e w5 ⟨rfl, hb⟩
    have HBw5 := Lib.hid (below_trans HBw4.out hb)
    clear hb
    go_wp2_with fail
    refine (HEX.out w5 HBw5.out).mono ?_
    rintro e w6 ⟨rfl, hb⟩
    have HBw6 := Lib.hid (below_trans HBw5.out hb)
    clear hb
    go_wp2_with fail
    refine (HSAME.out w6 HBw6.out).mono ?_
    rintro e w7 ⟨rfl, hb⟩
    have HBw7 := Lib.hid (below_trans HBw6.out hb)
    clear hb
    go_wp2
    go_ret
    exact ⟨rfl, HBw7.out⟩
  | false =>
  obtain ⟨hm1, hta, htl, htt, htx, hlk, hpt, hsh⟩ := HFIN.out rfl rfl
  have HLK := Lib.hid hlk
  have HLTX := Lib.hid hpt
  have HSHOWN := Lib.hid hsh
  have HT20 := Lib.hid (And.intro hta (And.intro htl (And.intro htt htx)))
  have hne0 : ((m : Int) == 0) = false := by simp only [beq_eq_false_iff_ne, ne_eq]; omega
  have hne00 : (m == 0) = false := by simp only [beq_eq_false_iff_ne, ne_eq]; omega
  clear hpt hsh hta htl htt htx hlk
  go_enter Tryd.func7, Tryd.ntmps7
  go_wp2_with fail
  refine HH.out.mono ?_
  rintro e w1 ⟨rfl, hb1⟩
  have HBw1 := Lib.hid hb1
  clear hb1
  go_wp2_with fail
  refine (HGA.out w1 HBw1.out).mono ?_
  rintro e w2 ⟨rfl, hb⟩
  have HBw2 := Lib.hid (below_trans HBw1.out hb)
  clear hb
  go_wp2_with fail
  refine (HGL.out w2 HBw2.out).mono ?_
  rintro e w3 ⟨rfl, hb⟩
  have HBw3 := Lib.hid (below_trans HBw2.out hb)
  clear hb
  go_wp2_with fail
  refine (HF.out w3 HBw3.out).mono ?_
  rintro e _ ⟨rfl, rfl⟩
  go_wp2_with fail
  refine (HRA.out w3 HBw3.out).mono ?_
  rintro e w4 ⟨rfl, hb⟩
  have HBw4 := Lib.hid (below_trans HBw3.out hb)
  clear hb
  go_wp2_with fail
  refine (HRL.out w4 HBw4.out).mono ?_
  rintro e w5 ⟨rfl, hb⟩
  have HBw5 := Lib.hid (below_trans HBw4.out hb)
  clear hb
  go_wp2_with fail
  refine (HEX.out w5 HBw5.out).mono ?_
  rintro e w6 ⟨rfl, hb⟩
  have HBw6 := Lib.hid (below_trans HBw5.out hb)
  clear hb
  go_wp2_with fail
  refine (HSAME.out w6 HBw6.out).mono ?_
  rintro e w7 ⟨rfl, hb⟩
  have HBw7 := Lib.hid (below_trans HBw6.out hb)
  clear hb
  go_wp2_with fail
  refine (HLK.out w7 HBw7.out).mono ?_
  rintro e w8 ⟨A', c', rfl, hb⟩
  have HBw8 := Lib.hid (below_trans HBw7.out hb)
  clear hb
  go_wp2_with fail
  refine wp_region_held_drew (S := fun _ => True) (by kernel_rfl) trivial (fun hS5 => ?_)
  refine wpAnyH_take (i := 0) (v := ?_) rfl (by kernel_rfl) (by kernel_rfl) (by kernel_rfl) (fun _ _ _ h => h) (Or.inl ⟨by kernel_rfl, ?hy⟩) hS5 ?rest
  case hy => (intro w hSw; clear hSw; go_simp; try with_reducible rfl)
  case rest =>
  refine wpAnyH_take (i := 2) (v := ?_) rfl (by kernel_rfl) (by kernel_rfl) (by kernel_rfl) (fun _ _ _ h => h) (Or.inl ⟨by kernel_rfl, ?hy⟩) hS5 ?rest
  case hy => (intro w hSw; clear hSw; go_simp; try with_reducible rfl)
  case rest =>
  refine wpAnyH_take (i := 5) (v := ?_) rfl (by kernel_rfl) (by kernel_rfl) (by kernel_rfl) (fun _ _ _ h => h) (Or.inl ⟨by kernel_rfl, ?hy⟩) hS5 ?rest
  case hy => (intro w hSw; clear hSw; go_simp; try with_reducible rfl)
  case rest =>
  refine wpAnyH_take (i := 6) (v := ?_) rfl (by kernel_rfl) (by kernel_rfl) (by kernel_rfl) (fun _ _ _ h => h) (Or.inl ⟨by kernel_rfl, ?hy⟩) hS5 ?rest
  case hy => (intro w hSw; clear hSw; go_simp; try with_reducible rfl)
  case rest =>
  refine wpAnyH_take (i := 7) (v := ?_) rfl (by kernel_rfl) (by kernel_rfl) (by kernel_rfl) (fun _ _ _ h => h) (Or.inl ⟨by kernel_rfl, ?hy⟩) hS5 ?rest
  case hy => (intro w hSw; clear hSw; go_simp; try with_reducible rfl)
  case rest =>
  refine wpAnyH_take (i := 8) (v := ?_) rfl (by kernel_rfl) (by kernel_rfl) (by kernel_rfl) (fun _ _ _ h => h) (Or.inl ⟨by kernel_rfl, ?hy⟩) hS5 ?rest
  case hy => (intro w hSw; clear hSw; go_simp; try with_reducible rfl)
  case rest =>
  refine wpAnyH_ready (rs := [1]) (by kernel_rfl) (by simp) ?_
  refine AllReadyH.cons rfl (fun K hK => ?_) AllReadyH.nil
  go_simp
  refine (HXA.out _ HBw8.out.drew).mono ?_
  rintro e w9 ⟨v1, rfl, ho, hb⟩
  have HBw9 := Lib.hid (below_trans HBw8.out.drew hb)
  have HO9 : Hid (w9.ownsRow w.heap.size 9 1 v1 TA.length (TA.map Value.string)) := Lib.hid (own_base ho HBw8.out.drew.size)
  clear hb ho
  go_simp
  refine hK.out _ _ trivial (fun _ => ?_)
  clear hK K
  refine wpAnyH_ready (rs := [3]) (by kernel_rfl) (by simp) ?_
  refine AllReadyH.cons rfl (fun K hK => ?_) AllReadyH.nil
  go_simp
  refine (HXL.out w9 HBw9.out).mono ?_
  rintro e w10 ⟨v2, rfl, ho, hb⟩
  have HBw10 := Lib.hid (below_trans HBw9.out hb)
  have HO10 := Lib.hid (row_below HO9.out hb)
  obtain ⟨A2, c2, rfl, -, -, hr2⟩ := Rd.of_own ho
  have HR2 := Lib.hid hr2
  clear hb ho hr2
  go_simp
  refine hK.out _ _ trivial (fun _ => ?_)
  clear hK K
  refine wpAnyH_ready (rs := [4]) (by kernel_rfl) (by simp) ?_
  refine AllReadyH.cons rfl (fun K hK => ?_) AllReadyH.nil
  refine step_appT w10 (by kernel_rfl) (.tmp 75) (.tmp 77) 22 22 rfl w.heap.size 9 9 ip _ 1 16 Tryd.underlying22 Tryd.underlying22 HI.out.1 HI.out.2.1 HI.out.2.2.1 HI.out.2.2.2 rfl (by omega) v1 TA.length _ (by kernel_rfl) HO10.out A2 TL.length c2 (TL.map Value.string) (by kernel_rfl) HR2.out (by intro u hu; obtain ⟨t, _, rfl⟩ := List.mem_map.1 hu; rfl) (by have := HT20.out; simp only [maxLen]; omega) (by have := HT20.out; omega) HBw10.out.size ?_
  intro v3 w11 ho hg'
  have HBw11 : Hid (Below w.heap.size w w11) := Lib.hid (HBw10.out.grown hg' HBw10.out.size (fun j hj => (HO10.out.lt j hj).1))
  have HO11 := Lib.hid ho
  clear ho hg'
  refine hK.out _ _ trivial (fun _ => ?_)
  clear hK K
  refine wpAnyH_ready (rs := [9]) (by kernel_rfl) (by simp) ?_
  refine AllReadyH.cons rfl (fun K hK => ?_) AllReadyH.nil
  go_simp
  refine (HXT.out w11 HBw11.out).mono ?_
  rintro e w12 ⟨v4, rfl, ho, hb⟩
  have HBw12 := Lib.hid (below_trans HBw11.out hb)
  have HO12 := Lib.hid (row_below HO11.out hb)
  obtain ⟨A4, c4, rfl, -, -, hr4⟩ := Rd.of_own ho
  have HR4 := Lib.hid hr4
  clear hb ho hr4
  go_simp
  refine hK.out _ _ trivial (fun _ => ?_)
  clear hK K
  refine wpAnyH_ready (rs := [10]) (by kernel_rfl) (by simp) ?_
  refine AllReadyH.cons rfl (fun K hK => ?_) AllReadyH.nil
  refine step_appT w12 (by kernel_rfl) (.tmp 78) (.tmp 83) 22 22 rfl w.heap.size 9 9 ip _ 1 16 Tryd.underlying22 Tryd.underlying22 HI.out.1 HI.out.2.1 HI.out.2.2.1 HI.out.2.2.2 rfl (by omega) v3 (TA.length + TL.length) _ (by kernel_rfl) HO12.out A4 TT.length c4 (TT.map Value.string) (by kernel_rfl) HR4.out (by intro u hu; obtain ⟨t, _, rfl⟩ := List.mem_map.1 hu; rfl) (by have := HT20.out; simp only [maxLen]; omega) (by have := HT20.out; omega) HBw12.out.size ?_
  intro v5 w13 ho hg'
  have HBw13 : Hid (Below w.heap.size w w13) := Lib.hid (HBw12.out.grown hg' HBw12.out.size (fun j hj => (HO12.out.lt j hj).1))
  have HO13 := Lib.hid ho
  clear ho hg'
  refine hK.out _ _ trivial (fun _ => ?_)
  clear hK K
  refine wpAnyH_take (i := 11) (v := ?_) rfl (by kernel_rfl) (by kernel_rfl) (by kernel_rfl) (fun _ _ _ h => h) (Or.inl ⟨by kernel_rfl, ?hy⟩) hS5 ?rest
  case hy => (intro w hSw; clear hSw; go_simp; try with_reducible rfl)
  case rest =>
  refine wpAnyH_done (by kernel_rfl) ?_ _
  go_wp2_with fail
  refine (HRA.out w13 HBw13.out).mono ?_
  rintro e w14 ⟨rfl, hb⟩
  have HBw14 := Lib.hid (below_trans HBw13.out hb)
  have HO14 := Lib.hid (row_below HO13.out hb)
  clear hb
  go_wp2_with fail
  refine (HLTX.out w14 HBw14.out).mono ?_
  rintro e w15 ⟨v6, rfl, ho, hb⟩
  have HBw15 := Lib.hid (below_trans HBw14.out hb)
  have HO15 := Lib.hid (row_below HO14.out hb)
  obtain ⟨A6, c6, rfl, -, -, hr6⟩ := Rd.of_own ho
  have HR6 := Lib.hid hr6
  clear hb ho hr6
  go_wp2_with (at_builtin; refine wpList_appG _ (by kernel_rfl) (.tmp 87) (.tmp 95) 22 22 rfl w.heap.size 9 9 ip _ 1 16 Tryd.underlying22 Tryd.underlying22 HI.out.1 HI.out.2.1 HI.out.2.2.1 HI.out.2.2.2 rfl (by omega) v5 (TA.length + TL.length + TT.length) _ rfl HO15.out A6 TX.length c6 (TX.map Value.string) rfl HR6.out (by intro u hu; obtain ⟨t, _, rfl⟩ := List.mem_map.1 hu; rfl) (by have := HT20.out; simp only [maxLen]; omega) (by have := HT20.out; omega) HBw15.out.size ?_)
  intro v7 w16 ho hg'
  have HBw16 : Hid (Below w.heap.size w w16) := Lib.hid (HBw15.out.grown hg' HBw15.out.size (fun j hj => (HO15.out.lt j hj).1))
  obtain ⟨A7, c7, rfl, -, -, hr7⟩ := Rd.of_own ho
  have HSH := Lib.hid (HSHOWN.out w16 A7 c7 (by unfold Strs; rw [List.map_append, List.map_append, List.map_append, List.length_append, List.length_append, List.length_append, List.append_assoc, List.append_assoc]; exact hr7))
  clear ho hg' hr7
  go_wp2_with fail
  refine HSH.out.mono ?_
  rintro e w17 ⟨rfl, hb⟩
  have HBw17 := Lib.hid (below_trans HBw16.out hb)
  clear hb
  go_wp2
  go_ret
  exact ⟨rfl, HBw17.out⟩
end Go.Proofs.YtfmlhlliephlhaaDoor
