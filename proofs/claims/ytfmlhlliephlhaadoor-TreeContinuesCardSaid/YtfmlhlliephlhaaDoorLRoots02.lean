/- The law TreeRoots: the walk. -/
import Derived.Test.YtfmlhlliephlhaaDoorTreeTx02
import Derived.Test.YtfmlhlliephlhaaDoorTreeSh02
import Derived.Test.YtfmlhlliephlhaaDoorTreeHead02
namespace Go.Proofs.YtfmlhlliephlhaaDoor
open Go.RowKit

theorem wpList_appG {P : Program} (w : World) {ops : Array Oper} {rest : List Oper} {o : Oper} {a : Act} {Q : Exit → Act → World → Prop} (hw : Region.wanted o (yielded ops a.tmps) = true) (s x : Operand) (t t2 : TypeId)
    (ho : o.op = .call { callee := .builtin .append, args := #[s, x], argTypes := #[t, t2] })
    (base : Nat) (e e2 : TypeId) (i : TypeInfo) (z : Value) (size bytes : Nat) (ht : P.underlying t = some (.slice e)) (ht2 : P.underlying t2 = some (.slice e2)) (hi : P.info? e = some i) (hz : i.zero = some z)
    (hsize : i.size = size) (hby : i.bytes = bytes) (hzs : z.cells.size = size) (hsz : 0 < size)
    (v : Value) (n : Nat) (xs : List Value) (hs : a.eval s = v) (hown : w.ownsRow base e size v n xs)
    (A : Option Addr) (m c : Nat) (news : List Value) (hx : a.eval x = .slice A m c) (hr : Rd w size A m news) (h1 : ∀ u ∈ news, u.oneCell' = true)
    (h63 : n + m ≤ maxLen) (hbytes : (n + m) * bytes ≤ 140737488355328) (hbase : base ≤ w.heap.size)
    (h : ∀ v' w', w'.ownsRow base e size v' (n + m) (xs ++ news) → w.grownBy w' v.ownBlock → wpList P ops Q rest (a.put o.dst v') w') : wpList P ops Q (o :: rest) a w := by
  refine wpList_step fun K hK => ?_
  rw [if_pos hw]
  obtain ⟨v', w', hrun, h2, h3⟩ := run_app (P := P) w base t t2 o.type e e2 i z size bytes ht ht2 hi hz hsize hby hzs hsz v n xs hown A m c news hr h1 h63 hbytes hbase
  unfold Oper.wp execOp
  simp only [ho, resolve, invoke, builtin, Sem.run_bind, Sem.run_pure, Result.andThen_ok, List.map_toArray, List.map_cons, List.map_nil, hs, hx, hrun]
  exact hK _ _ (h v' w' h2 h3)

theorem lfew_eq {l : List ByteArray} (h : lfew l = true) : l.length ≤ 20 ∧ sm l := by
  simp only [lfew, fewB, Bool.and_eq_true, decide_eq_true_eq, List.all_eq_true] at h
  exact ⟨h.1, fun s hs => by have := h.2.1 s hs; omega⟩
theorem lgood_few {l : List ByteArray} (h : lfew l = true) : lgood l = allD l := by rw [lgood, h, Bool.and_true]

theorem jb_small (a b : ByteArray) (ha : a.size ≤ 200) (hb : b.size ≤ 200) : (jb [bNode, a, b]).size ≤ 1000000000 := by
  have := jb3 bNode a b (by decide) ha hb
  show ((jn [bNode, a, b]).toArray).size ≤ 1000000000
  simp; omega
theorem txt_small (l : List ByteArray) (h : sm l) : ∀ s ∈ txt l, s.size ≤ 1000000000 := by
  obtain ⟨n, hn⟩ : ∃ n, l.length = n := ⟨_, rfl⟩
  induction n using Nat.strongRecOn generalizing l with
  | _ n ih =>
    by_cases h2 : 2 ≤ l.length
    · have k1 := hf_lt l.length h2
      have k2 := hf_pos l.length
      rw [txt_two l h2]
      intro s hs
      rcases List.mem_append.1 hs with h3 | h3
      · rcases List.mem_append.1 h3 with h4 | h4
        · exact ih (hf l.length) (by omega) _ (h.take _) (by rw [List.length_take]; omega) s h4
        · exact ih (l.length - hf l.length) (by omega) _ (h.drop _) (by rw [List.length_drop]) s h4
      · rw [List.mem_singleton.1 h3]
        exact jb_small _ _ (rt_size _ (h.take _)) (rt_size _ (h.drop _))
    · match l, h2 with
      | [], _ =>
        rw [txt_nil]
        intro s hs
        rw [List.mem_singleton.1 hs]
        have := jn_few [bEmpty] (by intro s hs; rw [List.mem_singleton.1 hs]; decide)
        show ((jn [bEmpty]).toArray).size ≤ 1000000000
        simp at this ⊢; omega
      | [x], _ => rw [txt_one]; intro s hs; cases hs
      | x :: y :: l, h2 => simp at h2

set_option maxRecDepth 100000 in
set_option maxHeartbeats 32000000 in
theorem roots_walk (A B : Option Addr) (c d : Nat) (a b : List ByteArray) (w : World) (hT : Tabs w) (hSa : Strs w A a) (hSb : Strs w B b) (hla : a.length ≤ 9223372036854775807) (hlb : b.length ≤ 9223372036854775807) (hca : a.length ≤ c) (hcb : b.length ≤ d) :
    Calls Tryd.prog 5 #[.slice A a.length c, .slice B b.length d] w fun e w' => e = .returned (.bool true) ∧ Below w.heap.size w w' := by
  have HH := Lib.hid (head_any w hT)
  have HT : Hid (∀ W, Below w.heap.size w W → Tabs W) := Lib.hid (fun W hW => hT.below hW)
  have HSA : Hid (∀ W, Below w.heap.size w W → Strs W A a) := Lib.hid (fun W hW => hSa.below hW)
  have HSB : Hid (∀ W, Below w.heap.size w W → Strs W B b) := Lib.hid (fun W hW => hSb.below hW)
  have HFA := Lib.hid (fun W (hW : Below w.heap.size w W) => lfew_any A c a W (hSa.below hW) hla)
  have HFB := Lib.hid (fun W (hW : Below w.heap.size w W) => lfew_any B d b W (hSb.below hW) hlb)
  have HGA := Lib.hid (fun W (hW : Below w.heap.size w W) => lgood_any A c a W (hSa.below hW) hla)
  have HGB := Lib.hid (fun W (hW : Below w.heap.size w W) => lgood_any B d b W (hSb.below hW) hlb)
  have HSAME := Lib.hid (fun W (hW : Below w.heap.size w W) => rsame A B c d a b W (hSa.below hW) (hSb.below hW) hla hlb)
  clear hT hSa hSb
  obtain ⟨va, hva⟩ : ∃ v, lfew a = v := ⟨_, rfl⟩
  obtain ⟨vb, hvb⟩ : ∃ v, lfew b = v := ⟨_, rfl⟩
  have HVA := Lib.hid hva
  have HVB := Lib.hid hvb
  rw [hva] at HFA
  rw [hvb] at HFB
  clear hva hvb
  cases va with
  | false =>
    go_enter Tryd.func5, Tryd.ntmps5
    go_wp2_with fail
    refine HH.out.mono ?_
    rintro e w1 ⟨rfl, hb1⟩
    have HB1 := Lib.hid hb1
    clear hb1
    go_wp2_with fail
    refine (HFA.out w1 HB1.out).mono ?_
    rintro e _ ⟨rfl, rfl⟩
    go_wp2
    go_ret
    exact ⟨rfl, HB1.out⟩
  | true =>
  cases vb with
  | false =>
    go_enter Tryd.func5, Tryd.ntmps5
    go_wp2_with fail
    refine HH.out.mono ?_
    rintro e w1 ⟨rfl, hb1⟩
    have HB1 := Lib.hid hb1
    clear hb1
    go_wp2_with fail
    refine (HFA.out w1 HB1.out).mono ?_
    rintro e _ ⟨rfl, rfl⟩
    go_wp2_with fail
    refine (HFB.out w1 HB1.out).mono ?_
    rintro e _ ⟨rfl, rfl⟩
    go_wp2
    go_ret
    exact ⟨rfl, HB1.out⟩
  | true =>
  by_cases hlen : a.length = b.length
  case neg =>
    have hne : ((a.length : Int) == (b.length : Int)) = false := by simp only [beq_eq_false_iff_ne, ne_eq]; omega
    have hne2 : (a.length == b.length) = false := by simp only [beq_eq_false_iff_ne, ne_eq]; omega
    have hne3 : ((a.length : Int) != (b.length : Int)) = true := by rw [bne, hne]; rfl
    have hne4 : (a.length != b.length) = true := by rw [bne, hne2]; rfl
    go_enter Tryd.func5, Tryd.ntmps5
    go_wp2_with fail
    refine HH.out.mono ?_
    rintro e w1 ⟨rfl, hb1⟩
    have HB1 := Lib.hid hb1
    clear hb1
    go_wp2_with fail
    refine (HFA.out w1 HB1.out).mono ?_
    rintro e _ ⟨rfl, rfl⟩
    go_wp2_with fail
    refine (HFB.out w1 HB1.out).mono ?_
    rintro e _ ⟨rfl, rfl⟩
    go_wp2
    go_ret
    exact ⟨rfl, HB1.out⟩
  case pos =>
  obtain ⟨ha20, hsma⟩ := lfew_eq HVA.out
  obtain ⟨hb20, hsmb⟩ := lfew_eq HVB.out
  have HRA : Hid (∀ W, Below w.heap.size w W → Calls Tryd.prog 17 #[.slice A a.length c] W fun e w' => e = .returned (.tuple #[.string (if allD a then rt a else ByteArray.empty), .int .i64 (if allD a then 0 else 1)]) ∧ Below W.heap.size W w') := Lib.hid (fun W hW => root_any A c a W (by omega) hca (HSA.out W hW) hsma (HT.out W hW))
  have HRB : Hid (∀ W, Below w.heap.size w W → Calls Tryd.prog 17 #[.slice B b.length d] W fun e w' => e = .returned (.tuple #[.string (if allD b then rt b else ByteArray.empty), .int .i64 (if allD b then 0 else 1)]) ∧ Below W.heap.size W w') := Lib.hid (fun W hW => root_any B d b W (by omega) hcb (HSB.out W hW) hsmb (HT.out W hW))
  have HXA : Hid (∀ W, Below w.heap.size w W → Calls Tryd.prog 15 #[.slice A a.length c] W fun e w' => ∃ v, e = .returned v ∧ w'.ownsRow W.heap.size 9 1 v (txt a).length ((txt a).map Value.string) ∧ Below W.heap.size W w') := Lib.hid (fun W hW => rtxt_any a.length A c a W (Nat.le_refl _) (by omega) hca (HSA.out W hW) hsma)
  have HXB : Hid (∀ W, Below w.heap.size w W → Calls Tryd.prog 15 #[.slice B b.length d] W fun e w' => ∃ v, e = .returned v ∧ w'.ownsRow W.heap.size 9 1 v (txt b).length ((txt b).map Value.string) ∧ Below W.heap.size W w') := Lib.hid (fun W hW => rtxt_any b.length B d b W (Nat.le_refl _) (by omega) hcb (HSB.out W hW) hsmb)
  have HT20 : Hid ((txt a).length ≤ 21 ∧ (txt b).length ≤ 21) := Lib.hid ⟨by have := (txt_len a).1; omega, by have := (txt_len b).1; omega⟩
  have HSHOWN : Hid (∀ (W : World) (A' : Option Addr) (c' : Nat), a ≠ b → rt a = rt b → Strs W A' (txt a ++ txt b) → Calls Tryd.prog 14 #[.slice A' ((txt a).length + (txt b).length) c'] W fun e w' => e = .returned (.bool true) ∧ Below W.heap.size W w') := Lib.hid (fun W A' c' hab hr hs => by
    have := shown_any A' c' (txt a ++ txt b) W hs (by have := HT20.out; rw [List.length_append]; omega) (fun s hs => by
      rcases List.mem_append.1 hs with h3 | h3
      · exact txt_small a hsma s h3
      · exact txt_small b hsmb s h3) ((roots_bind a b hlen hr).resolve_left hab)
    rw [List.length_append] at this
    exact this)
  rw [lgood_few HVA.out] at HGA
  rw [lgood_few HVB.out] at HGB
  have HAB : Hid (allD a ≠ allD b → a ≠ b) := Lib.hid (fun h h2 => h (by rw [h2]))
  obtain ⟨n, hn⟩ : ∃ n, b.length = n := ⟨_, rfl⟩
  rw [hlen, hn] at HFA HGA HRA HXA HSAME ⊢
  rw [hn] at HFB HGB HRB HXB
  clear hlen hn hla hlb hca hcb hsma hsmb ha20 hb20
  obtain ⟨ip, hj1, hy0, hy1, hy2⟩ := info_parts info_strg
  have HI := Lib.hid (And.intro hj1 (And.intro hy0 (And.intro hy1 hy2)))
  clear hj1 hy0 hy1 hy2
  obtain ⟨ra, hra⟩ : ∃ r, rt a = r := ⟨_, rfl⟩
  obtain ⟨rb, hrb⟩ : ∃ r, rt b = r := ⟨_, rfl⟩
  have HRR : Hid (a = b → ra = rb) := Lib.hid (by rintro rfl; rw [← hra, ← hrb])
  rw [hra] at HRA HSHOWN
  rw [hrb] at HRB HSHOWN
  generalize txt a = TA at *
  generalize txt b = TB at *
  clear hra hrb
  obtain ⟨da, hda⟩ : ∃ r, allD a = r := ⟨_, rfl⟩
  obtain ⟨db, hdb⟩ : ∃ r, allD b = r := ⟨_, rfl⟩
  rw [hda] at HRA HGA
  rw [hdb] at HRB HGB
  clear hda hdb
  obtain ⟨sv, hsv⟩ : ∃ v, decide (a = b) = v := ⟨_, rfl⟩
  rw [hsv] at HSAME
  have HSV := Lib.hid hsv
  clear hsv
  cases da with
  | false =>
    simp only [Bool.false_eq_true, if_false] at HRA
    cases db with
    | false =>
      simp only [Bool.false_eq_true, if_false] at HRB
      go_enter Tryd.func5, Tryd.ntmps5
      go_wp2_with fail
      refine HH.out.mono ?_
      rintro e w1 ⟨rfl, hb1⟩
      have HB1 := Lib.hid hb1
      clear hb1
      go_wp2_with fail
      refine (HFA.out w1 HB1.out).mono ?_
      rintro e _ ⟨rfl, rfl⟩
      go_wp2_with fail
      refine (HFB.out w1 HB1.out).mono ?_
      rintro e _ ⟨rfl, rfl⟩
      go_wp2_with fail
      refine (HRA.out w1 HB1.out).mono ?_
      rintro e w2 ⟨rfl, hb⟩
      have HBw2 := Lib.hid (below_trans HB1.out hb)
      clear hb
      go_wp2_with fail
      refine (HRB.out w2 HBw2.out).mono ?_
      rintro e w3 ⟨rfl, hb⟩
      have HBw3 := Lib.hid (below_trans HBw2.out hb)
      clear hb
      go_wp2_with fail
      refine (HGA.out w3 HBw3.out).mono ?_
      rintro e w4 ⟨rfl, hb⟩
      have HBw4 := Lib.hid (below_trans HBw3.out hb)
      clear hb
      go_wp2_with fail
      refine (HGB.out w4 HBw4.out).mono ?_
      rintro e w5 ⟨rfl, hb⟩
      have HBw5 := Lib.hid (below_trans HBw4.out hb)
      clear hb
      go_wp2
      go_ret
      exact ⟨rfl, HBw5.out⟩
    | true =>
      simp only [if_true] at HRB
      go_enter Tryd.func5, Tryd.ntmps5
      go_wp2_with fail
      refine HH.out.mono ?_
      rintro e w1 ⟨rfl, hb1⟩
      have HB1 := Lib.hid hb1
      clear hb1
      go_wp2_with fail
      refine (HFA.out w1 HB1.out).mono ?_
      rintro e _ ⟨rfl, rfl⟩
      go_wp2_with fail
      refine (HFB.out w1 HB1.out).mono ?_
      rintro e _ ⟨rfl, rfl⟩
      go_wp2_with fail
      refine (HRA.out w1 HB1.out).mono ?_
      rintro e w2 ⟨rfl, hb⟩
      have HBw2 := Lib.hid (below_trans HB1.out hb)
      clear hb
      go_wp2_with fail
      refine (HRB.out w2 HBw2.out).mono ?_
      rintro e w3 ⟨rfl, hb⟩
      have HBw3 := Lib.hid (below_trans HBw2.out hb)
      clear hb
      go_wp2_with fail
      refine (HGA.out w3 HBw3.out).mono ?_
      rintro e w4 ⟨rfl, hb⟩
      have HBw4 := Lib.hid (below_trans HBw3.out hb)
      clear hb
      go_wp2_with fail
      refine (HGB.out w4 HBw4.out).mono ?_
      rintro e w5 ⟨rfl, hb⟩
      have HBw5 := Lib.hid (below_trans HBw4.out hb)
      clear hb
      go_wp2
      go_ret
      exact ⟨rfl, HBw5.out⟩
  | true =>
    simp only [if_true] at HRA
    cases db with
    | false =>
      simp only [Bool.false_eq_true, if_false] at HRB
      go_enter Tryd.func5, Tryd.ntmps5
      go_wp2_with fail
      refine HH.out.mono ?_
      rintro e w1 ⟨rfl, hb1⟩
      have HB1 := Lib.hid hb1
      clear hb1
      go_wp2_with fail
      refine (HFA.out w1 HB1.out).mono ?_
      rintro e _ ⟨rfl, rfl⟩
      go_wp2_with fail
      refine (HFB.out w1 HB1.out).mono ?_
      rintro e _ ⟨rfl, rfl⟩
      go_wp2_with fail
      refine (HRA.out w1 HB1.out).mono ?_
      rintro e w2 ⟨rfl, hb⟩
      have HBw2 := Lib.hid (below_trans HB1.out hb)
      clear hb
      go_wp2_with fail
      refine (HRB.out w2 HBw2.out).mono ?_
      rintro e w3 ⟨rfl, hb⟩
      have HBw3 := Lib.hid (below_trans HBw2.out hb)
      clear hb
      go_wp2_with fail
      refine (HGA.out w3 HBw3.out).mono ?_
      rintro e w4 ⟨rfl, hb⟩
      have HBw4 := Lib.hid (below_trans HBw3.out hb)
      clear hb
      go_wp2_with fail
      refine (HGB.out w4 HBw4.out).mono ?_
      rintro e w5 ⟨rfl, hb⟩
      have HBw5 := Lib.hid (below_trans HBw4.out hb)
      clear hb
      go_wp2
      go_ret
      exact ⟨rfl, HBw5.out⟩
    | true =>
      simp only [if_true] at HRB
      cases sv with
      | true =>
        have hrr := HRR.out (of_decide_eq_true HSV.out)
        subst hrr
        have t1 := beq_true ra
        go_enter Tryd.func5, Tryd.ntmps5
        go_wp2_with fail
        refine HH.out.mono ?_
        rintro e w1 ⟨rfl, hb1⟩
        have HB1 := Lib.hid hb1
        clear hb1
        go_wp2_with fail
        refine (HFA.out w1 HB1.out).mono ?_
        rintro e _ ⟨rfl, rfl⟩
        go_wp2_with fail
        refine (HFB.out w1 HB1.out).mono ?_
        rintro e _ ⟨rfl, rfl⟩
        go_wp2_with fail
        refine (HRA.out w1 HB1.out).mono ?_
        rintro e w2 ⟨rfl, hb⟩
        have HBw2 := Lib.hid (below_trans HB1.out hb)
        clear hb
        go_wp2_with fail
        refine (HRB.out w2 HBw2.out).mono ?_
        rintro e w3 ⟨rfl, hb⟩
        have HBw3 := Lib.hid (below_trans HBw2.out hb)
        clear hb
        go_wp2_with fail
        refine (HGA.out w3 HBw3.out).mono ?_
        rintro e w4 ⟨rfl, hb⟩
        have HBw4 := Lib.hid (below_trans HBw3.out hb)
        clear hb
        go_wp2_with fail
        refine (HGB.out w4 HBw4.out).mono ?_
        rintro e w5 ⟨rfl, hb⟩
        have HBw5 := Lib.hid (below_trans HBw4.out hb)
        clear hb
        go_wp2_with fail
        refine (HSAME.out w5 HBw5.out).mono ?_
        rintro e w6 ⟨rfl, hb⟩
        have HBw6 := Lib.hid (below_trans HBw5.out hb)
        clear hb
        go_wp2
        go_ret
        exact ⟨rfl, HBw6.out⟩
      | false =>
        by_cases hrr : ra = rb
        case neg =>
          obtain ⟨t1, t2⟩ := bne_of ra rb hrr
          go_enter Tryd.func5, Tryd.ntmps5
          go_wp2_with fail
          refine HH.out.mono ?_
          rintro e w1 ⟨rfl, hb1⟩
          have HB1 := Lib.hid hb1
          clear hb1
          go_wp2_with fail
          refine (HFA.out w1 HB1.out).mono ?_
          rintro e _ ⟨rfl, rfl⟩
          go_wp2_with fail
          refine (HFB.out w1 HB1.out).mono ?_
          rintro e _ ⟨rfl, rfl⟩
          go_wp2_with fail
          refine (HRA.out w1 HB1.out).mono ?_
          rintro e w2 ⟨rfl, hb⟩
          have HBw2 := Lib.hid (below_trans HB1.out hb)
          clear hb
          go_wp2_with fail
          refine (HRB.out w2 HBw2.out).mono ?_
          rintro e w3 ⟨rfl, hb⟩
          have HBw3 := Lib.hid (below_trans HBw2.out hb)
          clear hb
          go_wp2_with fail
          refine (HGA.out w3 HBw3.out).mono ?_
          rintro e w4 ⟨rfl, hb⟩
          have HBw4 := Lib.hid (below_trans HBw3.out hb)
          clear hb
          go_wp2_with fail
          refine (HGB.out w4 HBw4.out).mono ?_
          rintro e w5 ⟨rfl, hb⟩
          have HBw5 := Lib.hid (below_trans HBw4.out hb)
          clear hb
          go_wp2_with fail
          refine (HSAME.out w5 HBw5.out).mono ?_
          rintro e w6 ⟨rfl, hb⟩
          have HBw6 := Lib.hid (below_trans HBw5.out hb)
          clear hb
          go_wp2
          go_ret
          exact ⟨rfl, HBw6.out⟩
        case pos =>
          subst hrr
          have t1 := beq_true ra
          go_enter Tryd.func5, Tryd.ntmps5
          go_wp2_with fail
          refine HH.out.mono ?_
          rintro e w1 ⟨rfl, hb1⟩
          have HB1 := Lib.hid hb1
          clear hb1
          go_wp2_with fail
          refine (HFA.out w1 HB1.out).mono ?_
          rintro e _ ⟨rfl, rfl⟩
          go_wp2_with fail
          refine (HFB.out w1 HB1.out).mono ?_
          rintro e _ ⟨rfl, rfl⟩
          go_wp2_with fail
          refine (HRA.out w1 HB1.out).mono ?_
          rintro e w2 ⟨rfl, hb⟩
          have HBw2 := Lib.hid (below_trans HB1.out hb)
          clear hb
          go_wp2_with fail
          refine (HRB.out w2 HBw2.out).mono ?_
          rintro e w3 ⟨rfl, hb⟩
          have HBw3 := Lib.hid (below_trans HBw2.out hb)
          clear hb
          go_wp2_with fail
          refine (HGA.out w3 HBw3.out).mono ?_
          rintro e w4 ⟨rfl, hb⟩
          have HBw4 := Lib.hid (below_trans HBw3.out hb)
          clear hb
          go_wp2_with fail
          refine (HGB.out w4 HBw4.out).mono ?_
          rintro e w5 ⟨rfl, hb⟩
          have HBw5 := Lib.hid (below_trans HBw4.out hb)
          clear hb
          go_wp2_with fail
          refine (HSAME.out w5 HBw5.out).mono ?_
          rintro e w6 ⟨rfl, hb⟩
          have HBw6 := Lib.hid (below_trans HBw5.out hb)
          clear hb
          go_wp2_with fail
          refine (HXA.out w6 HBw6.out).mono ?_
          rintro e w7 ⟨v1, rfl, ho, hb⟩
          have HBw7 := Lib.hid (below_trans HBw6.out hb)
          have HO7 := Lib.hid (own_base ho HBw6.out.size)
          clear hb ho
          go_wp2_with fail
          refine (HXB.out w7 HBw7.out).mono ?_
          rintro e w8 ⟨v2, rfl, ho, hb⟩
          have HBw8 := Lib.hid (below_trans HBw7.out hb)
          have HO8 := Lib.hid (row_below HO7.out hb)
          obtain ⟨A2, c2, rfl, -, -, hr2⟩ := Rd.of_own ho
          have HR2 := Lib.hid hr2
          clear hb ho hr2
          go_wp2_with (at_builtin; refine wpList_appG _ (by kernel_rfl) (.tmp 84) (.tmp 86) 22 22 rfl w.heap.size 9 9 ip _ 1 16 Tryd.underlying22 Tryd.underlying22 HI.out.1 HI.out.2.1 HI.out.2.2.1 HI.out.2.2.2 rfl (by omega) v1 TA.length _ rfl HO8.out A2 TB.length c2 (TB.map Value.string) rfl HR2.out (by intro u hu; obtain ⟨t, _, rfl⟩ := List.mem_map.1 hu; rfl) (by have := HT20.out; simp only [maxLen]; omega) (by have := HT20.out; omega) HBw8.out.size ?_)
          intro v3 w9 ho hg
          have HBw9 : Hid (Below w.heap.size w w9) := Lib.hid (HBw8.out.grown hg HBw8.out.size (fun j hj => (HO8.out.lt j hj).1))
          obtain ⟨A3, c3, rfl, -, -, hr3⟩ := Rd.of_own ho
          have HSH := Lib.hid (HSHOWN.out w9 A3 c3 (of_decide_eq_false HSV.out) (by first | trivial | rfl) (by unfold Strs; rw [List.map_append, List.length_append]; exact hr3))
          clear ho hg hr3
          go_wp2_with fail
          refine HSH.out.mono ?_
          rintro e w10 ⟨rfl, hb⟩
          have HBw10 := Lib.hid (below_trans HBw9.out hb)
          clear hb
          go_wp2
          go_ret
          exact ⟨rfl, HBw10.out⟩
end Go.Proofs.YtfmlhlliephlhaaDoor
