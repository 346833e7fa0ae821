/- The reference of layer 2: Texts. -/
import Derived.Test.YtjfondfjdhjooaaGreatDoorCbF
import Derived.Deep.RegionHeld3
namespace Go.Proofs.YtjfondfjdhjooaaGreatDoor
set_option linter.unusedVariables false
set_option linter.unusedSimpArgs false

section
open Go.RowKit
theorem step_appT {P : Program} (w : World) {ops : Array Oper} {o : Oper} {a : Act} {K : Act → World → Prop} {Q : Exit → Act → World → Prop} {E : Prop} (hw : Region.wanted o (yielded ops a.tmps) = true) (s x : Operand) (t t2 : TypeId)
    (ho : o.op = .call { callee := .builtin .append, args := #[s, x], argTypes := #[t, t2] })
    (base : Nat) (e e2 : TypeId) (i : TypeInfo) (z : Value) (size bytes : Nat) (ht : P.underlying t = some (.slice e)) (ht2 : P.underlying t2 = some (.slice e2)) (hi : P.info? e = some i) (hz : i.zero = some z)
    (hsize : i.size = size) (hby : i.bytes = bytes) (hzs : z.cells.size = size) (hsz : 0 < size)
    (v : Value) (n : Nat) (xs : List Value) (hs : a.eval s = v) (hown : w.ownsRow base e size v n xs)
    (A : Option Addr) (m c : Nat) (news : List Value) (hx : a.eval x = .slice A m c) (hr : Rd w size A m news) (h1 : ∀ u ∈ news, u.oneCell' = true)
    (h63 : n + m ≤ maxLen) (hbytes : (n + m) * bytes ≤ 140737488355328) (hbase : base ≤ w.heap.size)
    (h : ∀ v' w', w'.ownsRow base e size v' (n + m) (xs ++ news) → w.grownBy w' v.ownBlock → K (a.put o.dst v') w') :
    if Region.wanted o (yielded ops a.tmps) = true then Oper.wp P o a w K Q else E := by
  rw [if_pos hw]
  obtain ⟨v', w', hrun, h2, h3⟩ := run_app (P := P) w base t t2 o.type e e2 i z size bytes ht ht2 hi hz hsize hby hzs hsz v n xs hown A m c news hr h1 h63 hbytes hbase
  unfold Oper.wp execOp
  simp only [ho, resolve, invoke, builtin, Sem.run_bind, Sem.run_pure, Result.andThen_ok, List.map_toArray, List.map_cons, List.map_nil, hs, hx, hrun]
  exact h v' w' h2 h3

theorem txt_len (l : List ByteArray) : (txt l).length ≤ l.length + 1 ∧ (1 ≤ l.length → (txt l).length + 1 = l.length) := by
  obtain ⟨n, hn⟩ : ∃ n, l.length = n := ⟨_, rfl⟩
  induction n using Nat.strongRecOn generalizing l with
  | _ n ih =>
    by_cases h2 : 2 ≤ l.length
    · have k1 := hf_lt l.length h2
      have k2 := hf_pos l.length
      have e1 := (ih (hf l.length) (by omega) (l.take (hf l.length)) (by rw [List.length_take]; omega)).2 (by rw [List.length_take]; omega)
      have e2 := (ih (l.length - hf l.length) (by omega) (l.drop (hf l.length)) (by rw [List.length_drop])).2 (by rw [List.length_drop]; omega)
      rw [List.length_take] at e1
      rw [List.length_drop] at e2
      rw [txt_two l h2, List.length_append, List.length_append, List.length_singleton]
      omega
    · match l, h2 with
      | [], _ => rw [txt_nil]; simp
      | [x], _ => rw [txt_one]; simp
      | x :: y :: l, h2 => simp at h2

theorem own_new (w : World) (x : ByteArray) : (w.alloc (.cells #[.string x] 9)).ownsRow w.heap.size 9 1 (.slice (some ⟨w.heap.size, 0, none⟩) 1 1) 1 [.string x] :=
  ⟨rfl, .inr ⟨w.heap.size, 1, #[.string x], rfl, Nat.le_refl _, Blk.new w _ _ _ rfl, Nat.le_refl _, by decide, rfl, rfl⟩⟩

theorem rjoin1 (W : World) : Calls Tryz.prog 72 #[.slice (some ⟨W.heap.size, 0, none⟩) 1 1] (W.alloc (.cells #[.string ⟨#[101, 109, 112, 116, 121]⟩] 9)) fun e w' => e = .returned (.string (jb [bEmpty])) ∧ Below W.heap.size W w' := by
  have := rjoined (some ⟨W.heap.size, 0, none⟩) 1 [bEmpty] (W.alloc (.cells #[.string ⟨#[101, 109, 112, 116, 121]⟩] 9)) (Strs_new _ _ _ _ _ rfl rfl) (by simp) (by intro s hs; rw [List.mem_singleton.1 hs]; decide)
  exact this.mono fun _ _ ⟨he, hb⟩ => ⟨he, below_trans (below_alloc (Below.refl _ _) _) hb⟩

/-- A list at a block that an append does not touch. -/
theorem Rd_grown {w w' : World} {size m : Nat} {A : Option Addr} {xs : List Value} {row : Option Nat} (h : Rd w size A m xs) (hg : w.grownBy w' row) (hl : ∀ a, A = some a → a.block < w.heap.size ∧ row ≠ some a.block) : Rd w' size A m xs := by
  refine ⟨h.1, fun hn => ?_⟩
  obtain ⟨b, off, e, hv⟩ := h.2 hn
  obtain ⟨h1, h2⟩ := hl _ e
  refine ⟨b, off, e, fun j u hu => ?_⟩
  have h3 := hg.block b h1 (Ne.symm h2)
  have h4 := hv j u hu
  unfold World.cell? at h4 ⊢
  rw [h3]
  exact h4

set_option maxRecDepth 100000 in
set_option maxHeartbeats 32000000 in
theorem rtxt_any (q : Nat) : ∀ (A : Option Addr) (c : Nat) (l : List ByteArray) (w : World), l.length ≤ q → l.length ≤ 100000 → l.length ≤ c → Strs w A l → sm l →
    Calls Tryz.prog 73 #[.slice A l.length c] w fun e w' => ∃ v, e = .returned v ∧ w'.ownsRow w.heap.size 9 1 v (txt l).length ((txt l).map Value.string) ∧ Below w.heap.size w w' := by
  have base : ∀ (A : Option Addr) (c : Nat) (w : World), Calls Tryz.prog 73 #[.slice A 0 c] w fun e w' => ∃ v, e = .returned v ∧ w'.ownsRow w.heap.size 9 1 v (txt []).length ((txt []).map Value.string) ∧ Below w.heap.size w w' := by
    intro A c w
    have HJ := Lib.hid (rjoin1 w)
    rw [txt_nil]
    generalize jb [bEmpty] = y at *
    go_enter Tryz.func73, Tryz.ntmps73
    go_wp2_with fail
    refine HJ.out.mono ?_
    rintro e w1 ⟨rfl, hb1⟩
    have HB1 := Lib.hid hb1
    clear hb1
    go_wp2
    go_ret
    exact ⟨_, rfl, own_base (own_new w1 y) HB1.out.size, below_alloc HB1.out _⟩
  induction q with
  | zero =>
    intro A c l w h1 h2 h3 hS hsm
    obtain rfl : l = [] := List.eq_nil_of_length_eq_zero (by omega)
    exact base A c w
  | succ q ih =>
    intro A c l w hn hbig hcap hS hsm
    by_cases h2 : 2 ≤ l.length
    · obtain ⟨b, off, rfl, -⟩ := hS.2 (by omega)
      obtain ⟨k, hk⟩ : ∃ k, hf l.length = k := ⟨_, rfl⟩
      have HH := Lib.hid (rhalf_any l.length (by omega) w)
      rw [hk] at HH
      have k1 := hf_lt l.length h2
      have k2 := hf_pos l.length
      rw [hk] at k1 k2
      have htx := txt_two l h2
      rw [hk] at htx
      have hs1 := rt_size _ (hsm.take k)
      have hs2 := rt_size _ (hsm.drop k)
      have R1 : Hid (∀ W, Below w.heap.size w W → Calls Tryz.prog 93 #[.slice (some ⟨b, off, none⟩) k c] W fun e w' => e = .returned (.string (rt (l.take k))) ∧ Below W.heap.size W w') := Lib.hid (fun W hW => by
        have := rroot_any q (some ⟨b, off, none⟩) c (l.take k) W (by rw [List.length_take]; omega) (by rw [List.length_take]; omega) (by rw [List.length_take]; omega) ((hS.below hW).take k) (hsm.take k)
        rw [List.length_take, Nat.min_eq_left (by omega)] at this
        exact this)
      have R2 : Hid (∀ W, Below w.heap.size w W → Calls Tryz.prog 93 #[.slice (some ⟨b, off + k, none⟩) (l.length - k) (c - k)] W fun e w' => e = .returned (.string (rt (l.drop k))) ∧ Below W.heap.size W w') := Lib.hid (fun W hW => by
        have := rroot_any q (some ⟨b, off + k, none⟩) (c - k) (l.drop k) W (by rw [List.length_drop]; omega) (by rw [List.length_drop]; omega) (by rw [List.length_drop]; omega) ((hS.below hW).drop k) (hsm.drop k)
        rw [List.length_drop] at this
        exact this)
      have H1 : Hid (∀ W, Below w.heap.size w W → Calls Tryz.prog 73 #[.slice (some ⟨b, off, none⟩) k c] W fun e w' => ∃ v, e = .returned v ∧ w'.ownsRow W.heap.size 9 1 v (txt (l.take k)).length ((txt (l.take k)).map Value.string) ∧ Below W.heap.size W w') := Lib.hid (fun W hW => by
        have := ih (some ⟨b, off, none⟩) c (l.take k) W (by rw [List.length_take]; omega) (by rw [List.length_take]; omega) (by rw [List.length_take]; omega) ((hS.below hW).take k) (hsm.take k)
        rw [List.length_take, Nat.min_eq_left (by omega)] at this
        exact this)
      have H2 : Hid (∀ W, Below w.heap.size w W → Calls Tryz.prog 73 #[.slice (some ⟨b, off + k, none⟩) (l.length - k) (c - k)] W fun e w' => ∃ v, e = .returned v ∧ w'.ownsRow W.heap.size 9 1 v (txt (l.drop k)).length ((txt (l.drop k)).map Value.string) ∧ Below W.heap.size W w') := Lib.hid (fun W hW => by
        have := ih (some ⟨b, off + k, none⟩) (c - k) (l.drop k) W (by rw [List.length_drop]; omega) (by rw [List.length_drop]; omega) (by rw [List.length_drop]; omega) ((hS.below hW).drop k) (hsm.drop k)
        rw [List.length_drop] at this
        exact this)
      have HJ := Lib.hid (fun W => rjoin3 (rt (l.take k)) (rt (l.drop k)) hs1 hs2 W)
      have ht1 := (txt_len (l.take k)).1
      have ht2 := (txt_len (l.drop k)).1
      rw [List.length_take] at ht1
      rw [List.length_drop] at ht2
      have HT1 : Hid ((txt (l.take k)).length ≤ 200000 ∧ (txt (l.drop k)).length ≤ 200000) := Lib.hid ⟨by omega, by omega⟩
      obtain ⟨ip, hj1, hy0, hy1, hy2⟩ := info_parts info_strg
      have HI := Lib.hid (And.intro hj1 (And.intro hy0 (And.intro hy1 hy2)))
      rw [htx]
      clear hj1 hy0 hy1 hy2 htx hs1 hs2 hS hsm ih base hk h2 ht1 ht2
      generalize txt (l.take k) = T1 at *
      generalize txt (l.drop k) = T2 at *
      generalize rt (l.take k) = r1 at *
      generalize rt (l.drop k) = r2 at *
      generalize jb [bNode, r1, r2] = y at *
      generalize l.length = m at *
      have hne : ((m : Int) == 1) = false := by simp; omega
      have hne0 : ((m : Int) == 0) = false := by simp; omega
      have hkm : (k : Int) ≤ (m : Int) := by omega
      have hkc : (k : Int) ≤ (c : Int) := by omega
      have hck : (c = k) = False := by simp; omega
      go_enter Tryz.func73, Tryz.ntmps73
      go_wp2_with fail
      refine HH.out.mono ?_
      rintro e _ ⟨rfl, rfl⟩
      go_wp2_with fail
      refine wp_region_held_drew (S := fun _ => True) (by kernel_rfl) trivial (fun hS5 => ?_)
      refine wpAnyH_take (i := 0) (v := ?_) rfl (by kernel_rfl) (by kernel_rfl) (by kernel_rfl) (fun _ _ _ h => h) (Or.inl ⟨by kernel_rfl, ?hy⟩) hS5 ?rest
      case hy => (intro w hSw; clear hSw; go_simp; try with_reducible rfl)
      case rest =>
      refine wpAnyH_take (i := 1) (v := ?_) rfl (by kernel_rfl) (by kernel_rfl) (by kernel_rfl) (fun _ _ _ h => h) (Or.inl ⟨by kernel_rfl, ?hy⟩) hS5 ?rest
      case hy => (intro w hSw; clear hSw; go_simp; try with_reducible rfl)
      case rest =>
      refine wpAnyH_take (i := 2) (v := ?_) rfl (by kernel_rfl) (by kernel_rfl) (by kernel_rfl) (fun _ _ _ h => h) (Or.inl ⟨by kernel_rfl, ?hy⟩) hS5 ?rest
      case hy => (intro w hSw; clear hSw; go_simp; try with_reducible rfl)
      case rest =>
      refine wpAnyH_take (i := 4) (v := ?_) rfl (by kernel_rfl) (by kernel_rfl) (by kernel_rfl) (fun _ _ _ h => h) (Or.inl ⟨by kernel_rfl, ?hy⟩) hS5 ?rest
      case hy => (intro w hSw; clear hSw; go_simp; try with_reducible rfl)
      case rest =>
      refine wpAnyH_take (i := 5) (v := ?_) rfl (by kernel_rfl) (by kernel_rfl) (by kernel_rfl) (fun _ _ _ h => h) (Or.inl ⟨by kernel_rfl, ?hy⟩) hS5 ?rest
      case hy => (intro w hSw; clear hSw; go_simp; try with_reducible rfl)
      case rest =>
      refine wpAnyH_take (i := 6) (v := ?_) rfl (by kernel_rfl) (by kernel_rfl) (by kernel_rfl) (fun _ _ _ h => h) (Or.inl ⟨by kernel_rfl, ?hy⟩) hS5 ?rest
      case hy => (intro w hSw; clear hSw; go_simp; try with_reducible rfl)
      case rest =>
      refine wpAnyH_ready (rs := [3]) (by kernel_rfl) (by simp) ?_
      refine AllReadyH.cons rfl (fun K hK => ?_) AllReadyH.nil
      go_simp
      refine (R1.out _ (Below.refl _ _).drew).mono ?_
      rintro e W1 ⟨rfl, hb1⟩
      have HB1 : Hid (Below w.heap.size w W1) := Lib.hid (below_trans (Below.refl _ _).drew hb1)
      clear hb1
      go_simp
      refine hK.out _ _ trivial (fun _ => ?_)
      clear hK K
      refine wpAnyH_ready (rs := [7]) (by kernel_rfl) (by simp) ?_
      refine AllReadyH.cons rfl (fun K hK => ?_) AllReadyH.nil
      go_simp
      refine (R2.out W1 HB1.out).mono ?_
      rintro e W2 ⟨rfl, hb2⟩
      have HB2 : Hid (Below w.heap.size w W2) := Lib.hid (below_trans HB1.out hb2)
      clear hb2
      go_simp
      refine hK.out _ _ trivial (fun _ => ?_)
      clear hK K
      refine wpAnyH_ready (rs := [8]) (by kernel_rfl) (by simp) ?_
      refine AllReadyH.cons rfl (fun K hK => ?_) AllReadyH.nil
      go_simp
      refine hK.out _ _ trivial (fun _ => ?_)
      clear hK K
      refine wpAnyH_ready (rs := [9]) (by kernel_rfl) (by simp) ?_
      refine AllReadyH.cons rfl (fun K hK => ?_) AllReadyH.nil
      go_simp
      refine (HJ.out W2).mono ?_
      rintro e W3 ⟨rfl, hb3⟩
      have HB3 : Hid (Below w.heap.size w W3) := Lib.hid (below_trans HB2.out hb3)
      clear hb3
      go_simp
      refine hK.out _ _ trivial (fun _ => ?_)
      clear hK K
      refine wpAnyH_take (i := 10) (v := ?_) rfl (by kernel_rfl) (by kernel_rfl) (by kernel_rfl) (fun _ _ _ h => h) (Or.inl ⟨by kernel_rfl, ?hy⟩) hS5 ?rest
      case hy => (intro w hSw; clear hSw; go_simp; try with_reducible rfl)
      case rest =>
      refine wpAnyH_done (by kernel_rfl) ?_ _
      go_wp2_with fail
      refine wp_region_held_drew (S := fun _ => True) (by kernel_rfl) trivial (fun hS5 => ?_)
      refine wpAnyH_take (i := 0) (v := ?_) rfl (by kernel_rfl) (by kernel_rfl) (by kernel_rfl) (fun _ _ _ h => h) (Or.inl ⟨by kernel_rfl, ?hy⟩) hS5 ?rest
      case hy => (intro w hSw; clear hSw; go_simp; try with_reducible rfl)
      case rest =>
      refine wpAnyH_take (i := 1) (v := ?_) rfl (by kernel_rfl) (by kernel_rfl) (by kernel_rfl) (fun _ _ _ h => h) (Or.inl ⟨by kernel_rfl, ?hy⟩) hS5 ?rest
      case hy => (intro w hSw; clear hSw; go_simp; try with_reducible rfl)
      case rest =>
      refine wpAnyH_take (i := 2) (v := ?_) rfl (by kernel_rfl) (by kernel_rfl) (by kernel_rfl) (fun _ _ _ h => h) (Or.inl ⟨by kernel_rfl, ?hy⟩) hS5 ?rest
      case hy => (intro w hSw; clear hSw; go_simp; try with_reducible rfl)
      case rest =>
      refine wpAnyH_take (i := 4) (v := ?_) rfl (by kernel_rfl) (by kernel_rfl) (by kernel_rfl) (fun _ _ _ h => h) (Or.inl ⟨by kernel_rfl, ?hy⟩) hS5 ?rest
      case hy => (intro w hSw; clear hSw; go_simp; try with_reducible rfl)
      case rest =>
      refine wpAnyH_take (i := 5) (v := ?_) rfl (by kernel_rfl) (by kernel_rfl) (by kernel_rfl) (fun _ _ _ h => h) (Or.inl ⟨by kernel_rfl, ?hy⟩) hS5 ?rest
      case hy => (intro w hSw; clear hSw; go_simp; try with_reducible rfl)
      case rest =>
      refine wpAnyH_take (i := 6) (v := ?_) rfl (by kernel_rfl) (by kernel_rfl) (by kernel_rfl) (fun _ _ _ h => h) (Or.inl ⟨by kernel_rfl, ?hy⟩) hS5 ?rest
      case hy => (intro w hSw; clear hSw; go_simp; try with_reducible rfl)
      case rest =>
      refine wpAnyH_take (i := 9) (v := ?_) rfl (by kernel_rfl) (by kernel_rfl) (by kernel_rfl) (fun _ _ _ h => h) (Or.inl ⟨by kernel_rfl, ?hy⟩) hS5 ?rest
      case hy => (intro w hSw; clear hSw; go_simp; try with_reducible rfl)
      case rest =>
      have HBS : Hid (Below w.heap.size w W3.drew) := Lib.hid HB3.out.drew
      refine wpAnyH_ready (rs := [3, 10]) (by kernel_rfl) (by simp) ?_
      refine AllReadyH.cons rfl (fun K hK => ?_) (AllReadyH.cons rfl (fun K hK => ?_) (AllReadyH.nil))
      · skip
        go_simp
        refine (H1.out _ HBS.out).mono ?_
        rintro e X1 ⟨v1, rfl, ho, hb⟩
        have HB1 : Hid (Below w.heap.size w X1) := Lib.hid (below_trans HBS.out hb)
        have HOv1_1 : Hid (X1.ownsRow (W3.drew).heap.size 9 1 v1 T1.length (T1.map Value.string)) := Lib.hid ho
        clear ho hb
        go_simp
        refine hK.out _ _ trivial (fun _ => ?_)
        clear hK K
        refine wpAnyH_ready (rs := [7, 10]) (by kernel_rfl) (by simp) ?_
        refine AllReadyH.cons rfl (fun K hK => ?_) (AllReadyH.cons rfl (fun K hK => ?_) (AllReadyH.nil))
        · skip
          go_simp
          refine (H2.out _ HB1.out).mono ?_
          rintro e X2 ⟨v2, rfl, ho, hb⟩
          have HB2 : Hid (Below w.heap.size w X2) := Lib.hid (below_trans HB1.out hb)
          have HOv2_2 : Hid (X2.ownsRow (X1).heap.size 9 1 v2 T2.length (T2.map Value.string)) := Lib.hid ho
          have HOv1_2 : Hid (X2.ownsRow (W3.drew).heap.size 9 1 v1 T1.length (T1.map Value.string)) := Lib.hid (row_below HOv1_1.out hb)
          clear ho hb
          go_simp
          refine hK.out _ _ trivial (fun _ => ?_)
          clear hK K
          refine wpAnyH_ready (rs := [8, 10]) (by kernel_rfl) (by simp) ?_
          refine AllReadyH.cons rfl (fun K hK => ?_) (AllReadyH.cons rfl (fun K hK => ?_) (AllReadyH.nil))
          · skip
            obtain ⟨A2, c2, rfl, -, -, hr2⟩ := Rd.of_own HOv2_2.out
            have HR2 := Lib.hid hr2
            have HOB : Hid ((X2).ownsRow w.heap.size 9 1 v1 T1.length (T1.map Value.string)) := Lib.hid (own_base HOv1_2.out (by have := HBS.out.size; simpa using this))
            clear hr2
            refine step_appT X2 (by kernel_rfl) (.tmp 30) (.tmp 34) 30 30 rfl w.heap.size 9 9 ip _ 1 16 Tryz.underlying30 Tryz.underlying30 HI.out.1 HI.out.2.1 HI.out.2.2.1 HI.out.2.2.2 rfl (by omega) v1 T1.length _ (by kernel_rfl) HOB.out A2 T2.length c2 (T2.map Value.string) (by kernel_rfl) HR2.out (by intro u hu; obtain ⟨t, _, rfl⟩ := List.mem_map.1 hu; rfl) (by have := HT1.out; simp only [maxLen]; omega) (by have := HT1.out; omega) (by have := HB2.out.size; simpa using this) ?_
            intro v3 X3 ho hg
            have HB3 : Hid (Below w.heap.size w X3) := Lib.hid (HB2.out.grown hg (by have := HB2.out.size; simpa using this) (fun j hj => (HOB.out.lt j hj).1))
            have HO3_3 := Lib.hid ho
            clear ho hg
            refine hK.out _ _ trivial (fun _ => ?_)
            clear hK K
            refine wpAnyH_ready (rs := [10]) (by kernel_rfl) (by simp) ?_
            refine AllReadyH.cons rfl (fun K hK => ?_) (AllReadyH.nil)
            go_simp
            refine hK.out _ _ trivial (fun _ => ?_)
            clear hK K
            have HB4 : Hid (Below w.heap.size w ((X3).alloc (.cells #[.string y] 9))) := Lib.hid (below_alloc HB3.out _)
            have HR4 : Hid (Rd ((X3).alloc (.cells #[.string y] 9)) 1 (some ⟨(X3).heap.size, 0, none⟩) 1 [.string y]) := Lib.hid (Rd_new (X3) #[.string y] _ 1 1 _ rfl rfl)
            have HG4 : Hid ((X3).heap.size < ((X3).alloc (.cells #[.string y] 9)).heap.size) := Lib.hid (by simp)
            have HO3_4 := Lib.hid (row_below HO3_3.out (below_alloc (Below.refl _ _) (.cells #[.string y] 9)))
            refine wpAnyH_ready (rs := [11]) (by kernel_rfl) (by simp) ?_
            refine AllReadyH.cons rfl (fun K hK => ?_) (AllReadyH.nil)
            refine step_appT ((X3).alloc (.cells #[.string y] 9)) (by kernel_rfl) (.tmp 35) (.tmp 37) 30 30 rfl w.heap.size 9 9 ip _ 1 16 Tryz.underlying30 Tryz.underlying30 HI.out.1 HI.out.2.1 HI.out.2.2.1 HI.out.2.2.2 rfl (by omega) v3 (T1.length + T2.length) _ (by kernel_rfl) HO3_4.out (some ⟨(X3).heap.size, 0, none⟩) 1 1 [.string y] (by kernel_rfl) HR4.out (by simp [Value.oneCell']) (by have := HT1.out; simp only [maxLen]; omega) (by have := HT1.out; omega) (by have := HB4.out.size; simpa using this) ?_
            intro v5 X5 ho hg
            have HB5 : Hid (Below w.heap.size w X5) := Lib.hid (HB4.out.grown hg (by have := HB4.out.size; simpa using this) (fun j hj => (HO3_4.out.lt j hj).1))
            have HO5 := Lib.hid ho
            clear ho hg
            refine hK.out _ _ trivial (fun _ => ?_)
            clear hK K
            refine wpAnyH_take (i := 12) (v := ?_) rfl (by kernel_rfl) (by kernel_rfl) (by kernel_rfl) (fun _ _ _ h => h) (Or.inl ⟨by kernel_rfl, ?hy⟩) hS5 ?rest
            case hy => (intro w hSw; clear hSw; go_simp; try with_reducible rfl)
            case rest =>
            refine wpAnyH_done (by kernel_rfl) ?_ _
            go_wp2
            go_ret
            refine ⟨v5, rfl, ?_, HB5.out⟩
            have := HO5.out
            simpa [Nat.add_assoc] using this
          · skip
            go_simp
            refine hK.out _ _ trivial (fun _ => ?_)
            clear hK K
            have HB6 : Hid (Below w.heap.size w ((X2).alloc (.cells #[.string y] 9))) := Lib.hid (below_alloc HB2.out _)
            have HR6 : Hid (Rd ((X2).alloc (.cells #[.string y] 9)) 1 (some ⟨(X2).heap.size, 0, none⟩) 1 [.string y]) := Lib.hid (Rd_new (X2) #[.string y] _ 1 1 _ rfl rfl)
            have HG6 : Hid ((X2).heap.size < ((X2).alloc (.cells #[.string y] 9)).heap.size) := Lib.hid (by simp)
            have HO1_6 := Lib.hid (row_below HOv1_2.out (below_alloc (Below.refl _ _) (.cells #[.string y] 9)))
            have HNE6 : Hid (v1.ownBlock ≠ some (X2).heap.size) := Lib.hid (fun h => by have h1 := (HOv1_2.out.lt _ h).2; omega)
            have HO2_6 := Lib.hid (row_below HOv2_2.out (below_alloc (Below.refl _ _) (.cells #[.string y] 9)))
            refine wpAnyH_ready (rs := [8]) (by kernel_rfl) (by simp) ?_
            refine AllReadyH.cons rfl (fun K hK => ?_) (AllReadyH.nil)
            obtain ⟨A2, c2, rfl, -, -, hr2⟩ := Rd.of_own HO2_6.out
            have HR2 := Lib.hid hr2
            have HOB : Hid ((((X2).alloc (.cells #[.string y] 9))).ownsRow w.heap.size 9 1 v1 T1.length (T1.map Value.string)) := Lib.hid (own_base HO1_6.out (by have := HBS.out.size; simpa using this))
            clear hr2
            refine step_appT ((X2).alloc (.cells #[.string y] 9)) (by kernel_rfl) (.tmp 30) (.tmp 34) 30 30 rfl w.heap.size 9 9 ip _ 1 16 Tryz.underlying30 Tryz.underlying30 HI.out.1 HI.out.2.1 HI.out.2.2.1 HI.out.2.2.2 rfl (by omega) v1 T1.length _ (by kernel_rfl) HOB.out A2 T2.length c2 (T2.map Value.string) (by kernel_rfl) HR2.out (by intro u hu; obtain ⟨t, _, rfl⟩ := List.mem_map.1 hu; rfl) (by have := HT1.out; simp only [maxLen]; omega) (by have := HT1.out; omega) (by have := HB6.out.size; simpa using this) ?_
            intro v3 X7 ho hg
            have HB7 : Hid (Below w.heap.size w X7) := Lib.hid (HB6.out.grown hg (by have := HB6.out.size; simpa using this) (fun j hj => (HOB.out.lt j hj).1))
            have HO3_7 := Lib.hid ho
            have HR7 := Lib.hid (Rd_grown HR6.out hg (fun a ha => by cases ha; exact ⟨HG6.out, HNE6.out⟩))
            clear ho hg
            refine hK.out _ _ trivial (fun _ => ?_)
            clear hK K
            refine wpAnyH_ready (rs := [11]) (by kernel_rfl) (by simp) ?_
            refine AllReadyH.cons rfl (fun K hK => ?_) (AllReadyH.nil)
            refine step_appT X7 (by kernel_rfl) (.tmp 35) (.tmp 37) 30 30 rfl w.heap.size 9 9 ip _ 1 16 Tryz.underlying30 Tryz.underlying30 HI.out.1 HI.out.2.1 HI.out.2.2.1 HI.out.2.2.2 rfl (by omega) v3 (T1.length + T2.length) _ (by kernel_rfl) HO3_7.out (some ⟨(X2).heap.size, 0, none⟩) 1 1 [.string y] (by kernel_rfl) HR7.out (by simp [Value.oneCell']) (by have := HT1.out; simp only [maxLen]; omega) (by have := HT1.out; omega) (by have := HB7.out.size; simpa using this) ?_
            intro v5 X8 ho hg
            have HB8 : Hid (Below w.heap.size w X8) := Lib.hid (HB7.out.grown hg (by have := HB7.out.size; simpa using this) (fun j hj => (HO3_7.out.lt j hj).1))
            have HO5 := Lib.hid ho
            clear ho hg
            refine hK.out _ _ trivial (fun _ => ?_)
            clear hK K
            refine wpAnyH_take (i := 12) (v := ?_) rfl (by kernel_rfl) (by kernel_rfl) (by kernel_rfl) (fun _ _ _ h => h) (Or.inl ⟨by kernel_rfl, ?hy⟩) hS5 ?rest
            case hy => (intro w hSw; clear hSw; go_simp; try with_reducible rfl)
            case rest =>
            refine wpAnyH_done (by kernel_rfl) ?_ _
            go_wp2
            go_ret
            refine ⟨v5, rfl, ?_, HB8.out⟩
            have := HO5.out
            simpa [Nat.add_assoc] using this
        · skip
          go_simp
          refine hK.out _ _ trivial (fun _ => ?_)
          clear hK K
          have HB9 : Hid (Below w.heap.size w ((X1).alloc (.cells #[.string y] 9))) := Lib.hid (below_alloc HB1.out _)
          have HR9 : Hid (Rd ((X1).alloc (.cells #[.string y] 9)) 1 (some ⟨(X1).heap.size, 0, none⟩) 1 [.string y]) := Lib.hid (Rd_new (X1) #[.string y] _ 1 1 _ rfl rfl)
          have HG9 : Hid ((X1).heap.size < ((X1).alloc (.cells #[.string y] 9)).heap.size) := Lib.hid (by simp)
          have HO1_9 := Lib.hid (row_below HOv1_1.out (below_alloc (Below.refl _ _) (.cells #[.string y] 9)))
          have HNE9 : Hid (v1.ownBlock ≠ some (X1).heap.size) := Lib.hid (fun h => by have h1 := (HOv1_1.out.lt _ h).2; omega)
          refine wpAnyH_ready (rs := [7]) (by kernel_rfl) (by simp) ?_
          refine AllReadyH.cons rfl (fun K hK => ?_) (AllReadyH.nil)
          go_simp
          refine (H2.out _ HB9.out).mono ?_
          rintro e X10 ⟨v2, rfl, ho, hb⟩
          have HB10 : Hid (Below w.heap.size w X10) := Lib.hid (below_trans HB9.out hb)
          have HOv2_10 : Hid (X10.ownsRow (((X1).alloc (.cells #[.string y] 9))).heap.size 9 1 v2 T2.length (T2.map Value.string)) := Lib.hid ho
          have HOv1_10 : Hid (X10.ownsRow (W3.drew).heap.size 9 1 v1 T1.length (T1.map Value.string)) := Lib.hid (row_below HO1_9.out hb)
          have HR10 := Lib.hid (HR9.out.below hb)
          have HG10 : Hid ((X1).heap.size < X10.heap.size) := Lib.hid (Nat.lt_of_lt_of_le HG9.out hb.size)
          clear ho hb
          go_simp
          refine hK.out _ _ trivial (fun _ => ?_)
          clear hK K
          refine wpAnyH_ready (rs := [8]) (by kernel_rfl) (by simp) ?_
          refine AllReadyH.cons rfl (fun K hK => ?_) (AllReadyH.nil)
          obtain ⟨A2, c2, rfl, -, -, hr2⟩ := Rd.of_own HOv2_10.out
          have HR2 := Lib.hid hr2
          have HOB : Hid ((X10).ownsRow w.heap.size 9 1 v1 T1.length (T1.map Value.string)) := Lib.hid (own_base HOv1_10.out (by have := HBS.out.size; simpa using this))
          clear hr2
          refine step_appT X10 (by kernel_rfl) (.tmp 30) (.tmp 34) 30 30 rfl w.heap.size 9 9 ip _ 1 16 Tryz.underlying30 Tryz.underlying30 HI.out.1 HI.out.2.1 HI.out.2.2.1 HI.out.2.2.2 rfl (by omega) v1 T1.length _ (by kernel_rfl) HOB.out A2 T2.length c2 (T2.map Value.string) (by kernel_rfl) HR2.out (by intro u hu; obtain ⟨t, _, rfl⟩ := List.mem_map.1 hu; rfl) (by have := HT1.out; simp only [maxLen]; omega) (by have := HT1.out; omega) (by have := HB10.out.size; simpa using this) ?_
          intro v3 X11 ho hg
          have HB11 : Hid (Below w.heap.size w X11) := Lib.hid (HB10.out.grown hg (by have := HB10.out.size; simpa using this) (fun j hj => (HOB.out.lt j hj).1))
          have HO3_11 := Lib.hid ho
          have HR11 := Lib.hid (Rd_grown HR10.out hg (fun a ha => by cases ha; exact ⟨HG10.out, HNE9.out⟩))
          clear ho hg
          refine hK.out _ _ trivial (fun _ => ?_)
          clear hK K
          refine wpAnyH_ready (rs := [11]) (by kernel_rfl) (by simp) ?_
          refine AllReadyH.cons rfl (fun K hK => ?_) (AllReadyH.nil)
          refine step_appT X11 (by kernel_rfl) (.tmp 35) (.tmp 37) 30 30 rfl w.heap.size 9 9 ip _ 1 16 Tryz.underlying30 Tryz.underlying30 HI.out.1 HI.out.2.1 HI.out.2.2.1 HI.out.2.2.2 rfl (by omega) v3 (T1.length + T2.length) _ (by kernel_rfl) HO3_11.out (some ⟨(X1).heap.size, 0, none⟩) 1 1 [.string y] (by kernel_rfl) HR11.out (by simp [Value.oneCell']) (by have := HT1.out; simp only [maxLen]; omega) (by have := HT1.out; omega) (by have := HB11.out.size; simpa using this) ?_
          intro v5 X12 ho hg
          have HB12 : Hid (Below w.heap.size w X12) := Lib.hid (HB11.out.grown hg (by have := HB11.out.size; simpa using this) (fun j hj => (HO3_11.out.lt j hj).1))
          have HO5 := Lib.hid ho
          clear ho hg
          refine hK.out _ _ trivial (fun _ => ?_)
          clear hK K
          refine wpAnyH_take (i := 12) (v := ?_) rfl (by kernel_rfl) (by kernel_rfl) (by kernel_rfl) (fun _ _ _ h => h) (Or.inl ⟨by kernel_rfl, ?hy⟩) hS5 ?rest
          case hy => (intro w hSw; clear hSw; go_simp; try with_reducible rfl)
          case rest =>
          refine wpAnyH_done (by kernel_rfl) ?_ _
          go_wp2
          go_ret
          refine ⟨v5, rfl, ?_, HB12.out⟩
          have := HO5.out
          simpa [Nat.add_assoc] using this
      · skip
        go_simp
        refine hK.out _ _ trivial (fun _ => ?_)
        clear hK K
        have HB13 : Hid (Below w.heap.size w ((W3.drew).alloc (.cells #[.string y] 9))) := Lib.hid (below_alloc HBS.out _)
        have HR13 : Hid (Rd ((W3.drew).alloc (.cells #[.string y] 9)) 1 (some ⟨(W3.drew).heap.size, 0, none⟩) 1 [.string y]) := Lib.hid (Rd_new (W3.drew) #[.string y] _ 1 1 _ rfl rfl)
        have HG13 : Hid ((W3.drew).heap.size < ((W3.drew).alloc (.cells #[.string y] 9)).heap.size) := Lib.hid (by simp)
        refine wpAnyH_ready (rs := [3]) (by kernel_rfl) (by simp) ?_
        refine AllReadyH.cons rfl (fun K hK => ?_) (AllReadyH.nil)
        go_simp
        refine (H1.out _ HB13.out).mono ?_
        rintro e X14 ⟨v1, rfl, ho, hb⟩
        have HB14 : Hid (Below w.heap.size w X14) := Lib.hid (below_trans HB13.out hb)
        have HOv1_14 : Hid (X14.ownsRow (((W3.drew).alloc (.cells #[.string y] 9))).heap.size 9 1 v1 T1.length (T1.map Value.string)) := Lib.hid ho
        have HR14 := Lib.hid (HR13.out.below hb)
        have HG14 : Hid ((W3.drew).heap.size < X14.heap.size) := Lib.hid (Nat.lt_of_lt_of_le HG13.out hb.size)
        have HNE14 : Hid (v1.ownBlock ≠ some (W3.drew).heap.size) := Lib.hid (fun h => by have h1 := (ho.lt _ h).1; have h2 := HG13.out; omega)
        clear ho hb
        go_simp
        refine hK.out _ _ trivial (fun _ => ?_)
        clear hK K
        refine wpAnyH_ready (rs := [7]) (by kernel_rfl) (by simp) ?_
        refine AllReadyH.cons rfl (fun K hK => ?_) (AllReadyH.nil)
        go_simp
        refine (H2.out _ HB14.out).mono ?_
        rintro e X15 ⟨v2, rfl, ho, hb⟩
        have HB15 : Hid (Below w.heap.size w X15) := Lib.hid (below_trans HB14.out hb)
        have HOv2_15 : Hid (X15.ownsRow (X14).heap.size 9 1 v2 T2.length (T2.map Value.string)) := Lib.hid ho
        have HOv1_15 : Hid (X15.ownsRow (((W3.drew).alloc (.cells #[.string y] 9))).heap.size 9 1 v1 T1.length (T1.map Value.string)) := Lib.hid (row_below HOv1_14.out hb)
        have HR15 := Lib.hid (HR14.out.below hb)
        have HG15 : Hid ((W3.drew).heap.size < X15.heap.size) := Lib.hid (Nat.lt_of_lt_of_le HG14.out hb.size)
        clear ho hb
        go_simp
        refine hK.out _ _ trivial (fun _ => ?_)
        clear hK K
        refine wpAnyH_ready (rs := [8]) (by kernel_rfl) (by simp) ?_
        refine AllReadyH.cons rfl (fun K hK => ?_) (AllReadyH.nil)
        obtain ⟨A2, c2, rfl, -, -, hr2⟩ := Rd.of_own HOv2_15.out
        have HR2 := Lib.hid hr2
        have HOB : Hid ((X15).ownsRow w.heap.size 9 1 v1 T1.length (T1.map Value.string)) := Lib.hid (own_base HOv1_15.out (by have := HB13.out.size; simpa using this))
        clear hr2
        refine step_appT X15 (by kernel_rfl) (.tmp 30) (.tmp 34) 30 30 rfl w.heap.size 9 9 ip _ 1 16 Tryz.underlying30 Tryz.underlying30 HI.out.1 HI.out.2.1 HI.out.2.2.1 HI.out.2.2.2 rfl (by omega) v1 T1.length _ (by kernel_rfl) HOB.out A2 T2.length c2 (T2.map Value.string) (by kernel_rfl) HR2.out (by intro u hu; obtain ⟨t, _, rfl⟩ := List.mem_map.1 hu; rfl) (by have := HT1.out; simp only [maxLen]; omega) (by have := HT1.out; omega) (by have := HB15.out.size; simpa using this) ?_
        intro v3 X16 ho hg
        have HB16 : Hid (Below w.heap.size w X16) := Lib.hid (HB15.out.grown hg (by have := HB15.out.size; simpa using this) (fun j hj => (HOB.out.lt j hj).1))
        have HO3_16 := Lib.hid ho
        have HR16 := Lib.hid (Rd_grown HR15.out hg (fun a ha => by cases ha; exact ⟨HG15.out, HNE14.out⟩))
        clear ho hg
        refine hK.out _ _ trivial (fun _ => ?_)
        clear hK K
        refine wpAnyH_ready (rs := [11]) (by kernel_rfl) (by simp) ?_
        refine AllReadyH.cons rfl (fun K hK => ?_) (AllReadyH.nil)
        refine step_appT X16 (by kernel_rfl) (.tmp 35) (.tmp 37) 30 30 rfl w.heap.size 9 9 ip _ 1 16 Tryz.underlying30 Tryz.underlying30 HI.out.1 HI.out.2.1 HI.out.2.2.1 HI.out.2.2.2 rfl (by omega) v3 (T1.length + T2.length) _ (by kernel_rfl) HO3_16.out (some ⟨(W3.drew).heap.size, 0, none⟩) 1 1 [.string y] (by kernel_rfl) HR16.out (by simp [Value.oneCell']) (by have := HT1.out; simp only [maxLen]; omega) (by have := HT1.out; omega) (by have := HB16.out.size; simpa using this) ?_
        intro v5 X17 ho hg
        have HB17 : Hid (Below w.heap.size w X17) := Lib.hid (HB16.out.grown hg (by have := HB16.out.size; simpa using this) (fun j hj => (HO3_16.out.lt j hj).1))
        have HO5 := Lib.hid ho
        clear ho hg
        refine hK.out _ _ trivial (fun _ => ?_)
        clear hK K
        refine wpAnyH_take (i := 12) (v := ?_) rfl (by kernel_rfl) (by kernel_rfl) (by kernel_rfl) (fun _ _ _ h => h) (Or.inl ⟨by kernel_rfl, ?hy⟩) hS5 ?rest
        case hy => (intro w hSw; clear hSw; go_simp; try with_reducible rfl)
        case rest =>
        refine wpAnyH_done (by kernel_rfl) ?_ _
        go_wp2
        go_ret
        refine ⟨v5, rfl, ?_, HB17.out⟩
        have := HO5.out
        simpa [Nat.add_assoc] using this
    · match l, h2, hS with
      | [], _, _ => exact base A c w
      | [x], _, _ =>
        rw [txt_one]
        clear ih hS hsm base
        simp only [List.length_singleton]
        go_enter Tryz.func73, Tryz.ntmps73
        go_wp2
        go_ret
        exact ⟨_, rfl, ⟨rfl, .inl ⟨rfl, rfl⟩⟩, Below.refl _ _⟩
      | x :: y :: l, h2, _ => simp at h2

    
end

end Go.Proofs.YtjfondfjdhjooaaGreatDoor
