/- The reference of layer 2: digests, length, long, path, link, Leaf, Root. -/
import Derived.Test.YtfmlhlliephlhaaGreatDoorTreeB02
import Derived.Test.YtfmlhlliephlhaaGreatDoorRefIs01
import Derived.Deep.RegionHeld3
namespace Go.Proofs.YtfmlhlliephlhaaGreatDoor
open Go.RowKit
theorem step_appM {P : Program} (w : World) {ops : Array Oper} {o : Oper} {a : Act} {K : Act → World → Prop} {Q : Exit → Act → World → Prop} {E : Prop} (hw : Region.wanted o (yielded ops a.tmps) = true) (s x : Operand) (t t2 : TypeId)
    (ho : o.op = .call { callee := .builtin .append, args := #[s, x], argTypes := #[t, t2] })
    (base : Nat) (e e2 : TypeId) (i : TypeInfo) (z : Value) (size bytes : Nat) (ht : P.underlying t = some (.slice e)) (ht2 : P.underlying t2 = some (.slice e2)) (hi : P.info? e = some i) (hz : i.zero = some z)
    (hsize : i.size = size) (hby : i.bytes = bytes) (hzs : z.cells.size = size) (hsz : 0 < size)
    (v : Value) (n : Nat) (xs : List Value) (hs : a.eval s = v) (hown : w.ownsRow base e size v n xs)
    (A : Option Addr) (m c : Nat) (news : List Value) (hx : a.eval x = .slice A m c) (hr : Rd w size A m news) (h1 : ∀ u ∈ news, u.oneCell' = true)
    (h63 : n + m ≤ maxLen) (hbytes : (n + m) * bytes ≤ 140737488355328) (hbase : base ≤ w.heap.size)
    (h : ∀ v' w', w'.ownsRow base e size v' (n + m) (xs ++ news) → w.grownBy w' v.ownBlock → K (a.put o.dst v') w') :
    if Region.wanted o (yielded ops a.tmps) = true then Oper.wp P o a w K Q else E := by
  rw [if_pos hw]
  obtain ⟨v', w', hrun, h2, h3⟩ := run_app (P := P) w base t t2 o.type e e2 i z size bytes ht ht2 hi hz hsize hby hzs hsz v n xs hown A m c news hr h1 h63 hbytes hbase
  unfold Oper.wp execOp
  simp only [ho, resolve, invoke, builtin, Sem.run_bind, Sem.run_pure, Result.andThen_ok, List.map_toArray, List.map_cons, List.map_nil, hs, hx, hrun]
  exact h v' w' h2 h3

theorem own_newM (w : World) (x : ByteArray) : (w.alloc (.cells #[.string x] 9)).ownsRow w.heap.size 9 1 (.slice (some ⟨w.heap.size, 0, none⟩) 1 1) 1 [.string x] :=
  ⟨rfl, .inr ⟨w.heap.size, 1, #[.string x], rfl, Nat.le_refl _, Blk.new w _ _ _ rfl, Nat.le_refl _, by decide, rfl, rfl⟩⟩

set_option maxHeartbeats 4000000 in
theorem rdig_any (A : Option Addr) (c : Nat) (l : List ByteArray) (w : World) (h : Strs w A l) (hl : l.length ≤ 9223372036854775807) (hs : ∀ s ∈ l, s.size ≤ 1000000000) :
    Calls Tryz.prog 24 #[.slice A l.length c] w fun e w' => e = .returned (.bool (allD l)) ∧ w = w' := by
  have H := Lib.hid h
  have HSZ := Lib.hid hs
  have HIS := Lib.hid (fun (t : ByteArray) (ht : t.size ≤ 1000000000) => ris t ht w)
  clear h hs
  go_enter Tryz.func24, Tryz.ntmps24
  go_wp2_with fail
  go_loop [3] (fun u => ∃ k : Nat, k ≤ l.length ∧ u = .int .i64 k ∧ allD (l.take k) = true) (fun u => l.length - (intOf u).toNat)
  case atStart => exact ⟨0, Nat.zero_le _, rfl, rfl⟩
  case round =>
    obtain ⟨k, hk, rfl, hall⟩ := hrel
    have HALL := Lib.hid hall
    clear hall
    by_cases hlt : k < l.length
    · obtain ⟨s, hs⟩ := get_some l k hlt
      obtain ⟨b, off, rfl, c0⟩ := H.out.at_ hs
      have c0l := lt_of_cell c0
      have hmem : s ∈ l := List.mem_of_getElem? hs
      have HC := Lib.hid (HIS.out s (HSZ.out s hmem))
      have hall2 : allD (l.take (k + 1)) = isD s := by
        have := all_take_succ isD l k s hs
        have h2 := HALL.out
        unfold allD at h2 ⊢
        rw [this, h2, Bool.true_and]
      have HA2 := Lib.hid hall2
      have hbad : isD s = false → allD l = false := fun h => by
        unfold allD
        rw [List.all_eq_false]
        exact ⟨s, hmem, by simp [h]⟩
      have HBAD := Lib.hid hbad
      clear hs hall2 hbad hmem
      obtain ⟨v, hv⟩ : ∃ v, isD s = v := ⟨_, rfl⟩
      rw [hv] at HC HA2 HBAD
      clear hv
      cases v with
      | true =>
        go_wp2_with fail
        refine HC.out.mono ?_
        rintro e _ ⟨rfl, rfl⟩
        go_wp2
        go_round
        case rel => exact ⟨k + 1, by omega, by go_num, HA2.out⟩
        case measure => simp [intOf]; omega
      | false =>
        have HBD := Lib.hid (HBAD.out rfl)
        clear HBAD HA2
        go_wp2_with fail
        refine HC.out.mono ?_
        rintro e _ ⟨rfl, rfl⟩
        go_wp2
        go_ret
        exact ⟨ret_bool HBD.out.symm, rfl⟩
    · obtain rfl : k = l.length := by omega
      rw [List.take_length] at HALL
      go_wp2
      go_ret
      exact ⟨ret_bool HALL.out.symm, rfl⟩
set_option maxHeartbeats 4000000 in
theorem rlen_any (q : Nat) : ∀ (n i : Nat) (w : World), n ≤ q → 1 ≤ n → n ≤ 1000000 → i < n →
    Calls Tryz.prog 37 #[.int .i64 n, .int .i64 i] w fun e w' => e = .returned (.int .i64 (plen n i)) ∧ w = w' := by
  induction q with
  | zero => intro n i w h1 h2; omega
  | succ q ih =>
    intro n i w hn h1 hbig hi
    by_cases h2 : 2 ≤ n
    · have k1 := hf_lt n h2
      have k2 := hf_pos n
      have hpn := plen_lt_n n i h1
      obtain ⟨k, hk⟩ : ∃ k, hf n = k := ⟨_, rfl⟩
      have HH := Lib.hid (rhalf_any n hbig w)
      have h3 := plen_lt n i h2
      have h4 := plen_ge n i h2
      rw [hk] at HH k1 k2 h3 h4
      have hn1 : ((n : Int) == 1) = false := by simp; omega
      by_cases hik : i < k
      · have HI := Lib.hid (ih k i w (by omega) k2 (by omega) hik)
        rw [h3 hik] at hpn ⊢
        have hyi : (i : Int) < (k : Int) := by omega
        clear ih h3 h4 hk
        generalize plen k i = z at *
        go_enter Tryz.func37, Tryz.ntmps37
        go_wp2_with fail
        refine HH.out.mono ?_
        rintro e _ ⟨rfl, rfl⟩
        go_wp2_with fail
        refine HI.out.mono ?_
        rintro e _ ⟨rfl, rfl⟩
        go_wp2
        go_ret
        exact ⟨ret_int (by go_num), rfl⟩
      · have HI := Lib.hid (ih (n - k) (i - k) w (by omega) (by omega) (by omega) (by omega))
        rw [h4 hik] at hpn ⊢
        have hni : ¬ (i : Int) < (k : Int) := by omega
        have e1 : (n : Int) - (k : Int) = ((n - k : Nat) : Int) := by omega
        have e2 : (i : Int) - (k : Int) = ((i - k : Nat) : Int) := by omega
        have HE1 := Lib.hid e1
        have HE2 := Lib.hid e2
        clear ih h3 h4 hk e1 e2
        generalize plen (n - k) (i - k) = z at *
        go_enter Tryz.func37, Tryz.ntmps37
        go_wp2_with fail
        refine HH.out.mono ?_
        rintro e _ ⟨rfl, rfl⟩
        go_wp2_with fail
        rw [HE1.out, HE2.out]
        refine HI.out.mono ?_
        rintro e _ ⟨rfl, rfl⟩
        go_wp2
        go_ret
        exact ⟨ret_int (by go_num), rfl⟩
    · obtain rfl : n = 1 := by omega
      rw [plen_one 1 i (by omega)]
      clear ih
      go_enter Tryz.func37, Tryz.ntmps37
      go_wp2
      go_ret
      exact ⟨rfl, rfl⟩
set_option maxHeartbeats 4000000 in
theorem rlong_any (q : Nat) : ∀ (n m : Nat) (wh : Bool) (w : World), n ≤ q → 1 ≤ m → m ≤ n → n ≤ 1000000 →
    Calls Tryz.prog 42 #[.int .i64 n, .int .i64 m, .bool wh] w fun e w' => e = .returned (.int .i64 (llen n m wh)) ∧ w = w' := by
  induction q with
  | zero => intro n m wh w h1 h2 h3; omega
  | succ q ih =>
    intro n m wh w hn h1 hmn hbig
    by_cases hlt : m < n
    · have h2 : 2 ≤ n := by omega
      have k1 := hf_lt n h2
      have k2 := hf_pos n
      have hpn := llen_le_n n m wh (by omega)
      obtain ⟨k, hk⟩ : ∃ k, hf n = k := ⟨_, rfl⟩
      have HH := Lib.hid (rhalf_any n hbig w)
      have h3 := llen_le n m wh hlt h2
      have h4 := llen_gt n m wh hlt h2
      rw [hk] at HH k1 k2 h3 h4
      have hn1 : ((m : Int) == (n : Int)) = false := by simp; omega
      by_cases hik : m ≤ k
      · have HI := Lib.hid (ih k m wh w (by omega) h1 hik (by omega))
        rw [h3 hik] at hpn ⊢
        have hyi : (m : Int) ≤ (k : Int) := by omega
        clear ih h3 h4 hk
        generalize llen k m wh = z at *
        go_enter Tryz.func42, Tryz.ntmps42
        go_wp2_with fail
        refine HH.out.mono ?_
        rintro e _ ⟨rfl, rfl⟩
        go_wp2_with fail
        refine HI.out.mono ?_
        rintro e _ ⟨rfl, rfl⟩
        go_wp2
        go_ret
        exact ⟨ret_int (by go_num), rfl⟩
      · have HI := Lib.hid (ih (n - k) (m - k) false w (by omega) (by omega) (by omega) (by omega))
        rw [h4 hik] at hpn ⊢
        have hni : ¬ (m : Int) ≤ (k : Int) := by omega
        have e1 : (n : Int) - (k : Int) = ((n - k : Nat) : Int) := by omega
        have e2 : (m : Int) - (k : Int) = ((m - k : Nat) : Int) := by omega
        have HE1 := Lib.hid e1
        have HE2 := Lib.hid e2
        clear ih h3 h4 hk e1 e2
        generalize llen (n - k) (m - k) false = z at *
        go_enter Tryz.func42, Tryz.ntmps42
        go_wp2_with fail
        refine HH.out.mono ?_
        rintro e _ ⟨rfl, rfl⟩
        go_wp2_with fail
        rw [HE1.out, HE2.out]
        refine HI.out.mono ?_
        rintro e _ ⟨rfl, rfl⟩
        go_wp2
        go_ret
        exact ⟨ret_int (by go_num), rfl⟩
    · obtain rfl : m = n := by omega
      rw [llen_end m m wh hlt]
      clear ih
      cases wh
      case false =>
        go_enter Tryz.func42, Tryz.ntmps42
        go_wp2
        go_ret
        exact ⟨rfl, rfl⟩
      case true =>
        go_enter Tryz.func42, Tryz.ntmps42
        go_wp2
        go_ret
        exact ⟨rfl, rfl⟩
set_option maxRecDepth 100000 in
set_option maxHeartbeats 32000000 in
theorem rpath_any (q : Nat) : ∀ (A : Option Addr) (c : Nat) (l : List ByteArray) (i : Nat) (w : World), l.length ≤ q → i < l.length → l.length ≤ 100000 → l.length ≤ c → Strs w A l → sm l →
    Calls Tryz.prog 28 #[.slice A l.length c, .int .i64 i] w fun e w' => ∃ v, e = .returned v ∧ w'.ownsRow w.heap.size 9 1 v (pt l i).length ((pt l i).map Value.string) ∧ Below w.heap.size w w' := by
  induction q with
  | zero => intro A c l i w h1 h2; omega
  | succ q ih =>
    intro A c l i w hn hi hbig hcap hS hsm
    by_cases h2 : 2 ≤ l.length
    · obtain ⟨b, off, rfl, -⟩ := hS.2 (by omega)
      obtain ⟨k, hk⟩ : ∃ k, hf l.length = k := ⟨_, rfl⟩
      have HH := Lib.hid (rhalf_any l.length (by omega) w)
      have k1 := hf_lt l.length h2
      have k2 := hf_pos l.length
      have p1 := pt_lt l i h2
      have p2 := pt_ge l i h2
      rw [hk] at HH k1 k2 p1 p2
      obtain ⟨ip, hj1, hy0, hy1, hy2⟩ := info_parts info_strg
      have HI := Lib.hid (And.intro hj1 (And.intro hy0 (And.intro hy1 hy2)))
      clear hj1 hy0 hy1 hy2
      have hne : ((l.length : Int) == 1) = false := by simp; omega
      by_cases hik : i < k
      · skip
        have R2 : Hid (∀ W, Below w.heap.size w W → Calls Tryz.prog 25 #[.slice (some ⟨b, off + k, none⟩) (l.length - k) (c - k)] W fun e w' => e = .returned (.string (rt (l.drop k))) ∧ Below W.heap.size W w') := Lib.hid (fun W hW => by
          have := rroot_any l.length (some ⟨b, off + k, none⟩) (c - k) (l.drop k) W (by rw [List.length_drop]; omega) (by rw [List.length_drop]; omega) (by rw [List.length_drop]; omega) ((hS.below hW).drop k) (hsm.drop k)
          rw [List.length_drop] at this
          exact this)
        have H1 : Hid (∀ W, Below w.heap.size w W → Calls Tryz.prog 28 #[.slice (some ⟨b, off, none⟩) k c, .int .i64 i] W fun e w' => ∃ v, e = .returned v ∧ w'.ownsRow W.heap.size 9 1 v (pt (l.take k) i).length ((pt (l.take k) i).map Value.string) ∧ Below W.heap.size W w') := Lib.hid (fun W hW => by
          have := ih (some ⟨b, off, none⟩) c (l.take k) i W (by rw [List.length_take]; omega) (by rw [List.length_take]; omega) (by rw [List.length_take]; omega) (by rw [List.length_take]; omega) ((hS.below hW).take k) (hsm.take k)
          rw [List.length_take, Nat.min_eq_left (by omega)] at this
          exact this)
        have ht1 : (pt (l.take k) i).length ≤ 100000 := by rw [pt_len, List.length_take, Nat.min_eq_left (by omega)]; have := plen_lt_n k i k2; omega
        have HT1 := Lib.hid ht1
        rw [p1 hik]
        clear p1 p2 hS hsm ih hk h2 ht1
        generalize pt (l.take k) i = T at *
        generalize rt (l.drop k) = y at *
        generalize l.length = m at *
        have hyi : (i : Int) < (k : Int) := by omega
        have hkm : (k : Int) ≤ (m : Int) := by omega
        have hkc : (k : Int) ≤ (c : Int) := by omega
        have hck : (c = k) = False := by simp; omega
        go_enter Tryz.func28, Tryz.ntmps28
        go_wp2_with fail
        refine HH.out.mono ?_
        rintro e _ ⟨rfl, rfl⟩
        go_wp2_with fail
        refine wp_region_held_drew (S := fun _ => True) (by kernel_rfl) trivial (fun hS5 => ?_)
        refine wpAnyH_take (i := 0) (v := ?_) rfl (by kernel_rfl) (by kernel_rfl) (by kernel_rfl) (fun _ _ _ h => h) (Or.inl ⟨by kernel_rfl, ?hy⟩) hS5 ?rest
        case hy => (intro w hSw; clear hSw; go_simp; try with_reducible rfl)
        case rest =>
        refine wpAnyH_take (i := 1) (v := ?_) rfl (by kernel_rfl) (by kernel_rfl) (by kernel_rfl) (fun _ _ _ h => h) (Or.inl ⟨by kernel_rfl, ?hy⟩) hS5 ?rest
        case hy => (intro w hSw; clear hSw; go_simp; try with_reducible rfl)
        case rest =>
        refine wpAnyH_take (i := 2) (v := ?_) rfl (by kernel_rfl) (by kernel_rfl) (by kernel_rfl) (fun _ _ _ h => h) (Or.inl ⟨by kernel_rfl, ?hy⟩) hS5 ?rest
        case hy => (intro w hSw; clear hSw; go_simp; try with_reducible rfl)
        case rest =>
        refine wpAnyH_take (i := 3) (v := ?_) rfl (by kernel_rfl) (by kernel_rfl) (by kernel_rfl) (fun _ _ _ h => h) (Or.inl ⟨by kernel_rfl, ?hy⟩) hS5 ?rest
        case hy => (intro w hSw; clear hSw; go_simp; try with_reducible rfl)
        case rest =>
        refine wpAnyH_take (i := 5) (v := ?_) rfl (by kernel_rfl) (by kernel_rfl) (by kernel_rfl) (fun _ _ _ h => h) (Or.inl ⟨by kernel_rfl, ?hy⟩) hS5 ?rest
        case hy => (intro w hSw; clear hSw; go_simp; try with_reducible rfl)
        case rest =>
        refine wpAnyH_take (i := 6) (v := ?_) rfl (by kernel_rfl) (by kernel_rfl) (by kernel_rfl) (fun _ _ _ h => h) (Or.inl ⟨by kernel_rfl, ?hy⟩) hS5 ?rest
        case hy => (intro w hSw; clear hSw; go_simp; try with_reducible rfl)
        case rest =>
        refine wpAnyH_take (i := 7) (v := ?_) rfl (by kernel_rfl) (by kernel_rfl) (by kernel_rfl) (fun _ _ _ h => h) (Or.inl ⟨by kernel_rfl, ?hy⟩) hS5 ?rest
        case hy => (intro w hSw; clear hSw; go_simp; try with_reducible rfl)
        case rest =>
        refine wpAnyH_ready (rs := [4]) (by kernel_rfl) (by simp) ?_
        refine AllReadyH.cons rfl (fun K hK => ?_) AllReadyH.nil
        go_simp
        refine (H1.out _ (Below.refl _ _).drew).mono ?_
        rintro e W1 ⟨v1, rfl, ho, hb⟩
        have HB1 : Hid (Below w.heap.size w W1) := Lib.hid (below_trans (Below.refl _ _).drew hb)
        have HO1 : Hid (W1.ownsRow w.heap.size 9 1 v1 T.length (T.map Value.string)) := Lib.hid (own_base ho (Below.refl w.heap.size w).drew.size)
        clear ho hb
        go_simp
        refine hK.out _ _ trivial (fun _ => ?_)
        clear hK K
        refine wpAnyH_ready (rs := [8]) (by kernel_rfl) (by simp) ?_
        refine AllReadyH.cons rfl (fun K hK => ?_) AllReadyH.nil
        go_simp
        refine (R2.out W1 HB1.out).mono ?_
        rintro e W2 ⟨rfl, hb⟩
        have HB2 : Hid (Below w.heap.size w W2) := Lib.hid (below_trans HB1.out hb)
        have HO2 : Hid ((W2.alloc (.cells #[.string y] 9)).ownsRow w.heap.size 9 1 v1 T.length (T.map Value.string)) := Lib.hid (row_below (row_below HO1.out hb) (below_alloc (Below.refl _ _) _))
        clear hb
        go_simp
        refine hK.out _ _ trivial (fun _ => ?_)
        clear hK K
        refine wpAnyH_ready (rs := [9]) (by kernel_rfl) (by simp) ?_
        refine AllReadyH.cons rfl (fun K hK => ?_) AllReadyH.nil
        go_simp
        refine hK.out _ _ trivial (fun _ => ?_)
        clear hK K
        refine wpAnyH_ready (rs := [10]) (by kernel_rfl) (by simp) ?_
        refine AllReadyH.cons rfl (fun K hK => ?_) AllReadyH.nil
        refine step_appM (W2.alloc (.cells #[.string y] 9)) (by kernel_rfl) (.tmp 20) (.tmp 25) 22 22 rfl w.heap.size 9 9 ip _ 1 16 Tryz.underlying22 Tryz.underlying22 HI.out.1 HI.out.2.1 HI.out.2.2.1 HI.out.2.2.2 rfl (by omega) v1 T.length _ (by kernel_rfl) HO2.out (some ⟨W2.heap.size, 0, none⟩) 1 1 [.string y] (by kernel_rfl) (Rd_new W2 #[.string y] _ 1 1 _ rfl rfl) (by simp [Value.oneCell']) (by have := HT1.out; simp only [maxLen]; omega) (by have := HT1.out; omega) (by have := HB2.out.size; simp; omega) ?_
        intro v5 W5 ho hg
        have HB5 : Hid (Below w.heap.size w W5) := Lib.hid ((below_alloc HB2.out _).grown hg (by have := HB2.out.size; simp; omega) (fun j hj => (HO2.out.lt j hj).1))
        have HO5 := Lib.hid ho
        clear ho hg
        refine hK.out _ _ trivial (fun _ => ?_)
        clear hK K
        refine wpAnyH_take (i := 11) (v := ?_) rfl (by kernel_rfl) (by kernel_rfl) (by kernel_rfl) (fun _ _ _ h => h) (Or.inl ⟨by kernel_rfl, ?hy⟩) hS5 ?rest
        case hy => (intro w hSw; clear hSw; go_simp; try with_reducible rfl)
        case rest =>
        refine wpAnyH_done (by kernel_rfl) ?_ _
        go_wp2
        go_ret
        refine ⟨v5, rfl, ?_, HB5.out⟩
        have := HO5.out
        simpa using this
      · skip
        have R2 : Hid (∀ W, Below w.heap.size w W → Calls Tryz.prog 25 #[.slice (some ⟨b, off, none⟩) k c] W fun e w' => e = .returned (.string (rt (l.take k))) ∧ Below W.heap.size W w') := Lib.hid (fun W hW => by
          have := rroot_any l.length (some ⟨b, off, none⟩) c (l.take k) W (by rw [List.length_take]; omega) (by rw [List.length_take]; omega) (by rw [List.length_take]; omega) ((hS.below hW).take k) (hsm.take k)
          rw [List.length_take, Nat.min_eq_left (by omega)] at this
          exact this)
        have H1 : Hid (∀ W, Below w.heap.size w W → Calls Tryz.prog 28 #[.slice (some ⟨b, off + k, none⟩) (l.length - k) (c - k), .int .i64 ((i - k : Nat) : Int)] W fun e w' => ∃ v, e = .returned v ∧ w'.ownsRow W.heap.size 9 1 v (pt (l.drop k) (i - k)).length ((pt (l.drop k) (i - k)).map Value.string) ∧ Below W.heap.size W w') := Lib.hid (fun W hW => by
          have := ih (some ⟨b, off + k, none⟩) (c - k) (l.drop k) (i - k) W (by rw [List.length_drop]; omega) (by rw [List.length_drop]; omega) (by rw [List.length_drop]; omega) (by rw [List.length_drop]; omega) ((hS.below hW).drop k) (hsm.drop k)
          rw [List.length_drop] at this
          exact this)
        have ht1 : (pt (l.drop k) (i - k)).length ≤ 100000 := by rw [pt_len, List.length_drop]; have := plen_lt_n (l.length - k) (i - k) (by omega); omega
        have HT1 := Lib.hid ht1
        rw [p2 hik]
        clear p1 p2 hS hsm ih hk h2 ht1
        generalize pt (l.drop k) (i - k) = T at *
        generalize rt (l.take k) = y at *
        generalize l.length = m at *
        have hni : ¬ (i : Int) < (k : Int) := by omega
        have hwr : IntKind.i64.wrap ((i : Int) - (k : Int)) = ((i - k : Nat) : Int) := by rw [IntWalk.i64_in _ (by omega)]; omega
        have hkm : (k : Int) ≤ (m : Int) := by omega
        have hkc : (k : Int) ≤ (c : Int) := by omega
        have hck : (c = k) = False := by simp; omega
        go_enter Tryz.func28, Tryz.ntmps28
        go_wp2_with fail
        refine HH.out.mono ?_
        rintro e _ ⟨rfl, rfl⟩
        go_wp2_with fail
        refine wp_region_held_drew (S := fun _ => True) (by kernel_rfl) trivial (fun hS5 => ?_)
        refine wpAnyH_take (i := 0) (v := ?_) rfl (by kernel_rfl) (by kernel_rfl) (by kernel_rfl) (fun _ _ _ h => h) (Or.inl ⟨by kernel_rfl, ?hy⟩) hS5 ?rest
        case hy => (intro w hSw; clear hSw; go_simp; try with_reducible rfl)
        case rest =>
        refine wpAnyH_take (i := 1) (v := ?_) rfl (by kernel_rfl) (by kernel_rfl) (by kernel_rfl) (fun _ _ _ h => h) (Or.inl ⟨by kernel_rfl, ?hy⟩) hS5 ?rest
        case hy => (intro w hSw; clear hSw; go_simp; try with_reducible rfl)
        case rest =>
        refine wpAnyH_take (i := 2) (v := ?_) rfl (by kernel_rfl) (by kernel_rfl) (by kernel_rfl) (fun _ _ _ h => h) (Or.inl ⟨by kernel_rfl, ?hy⟩) hS5 ?rest
        case hy => (intro w hSw; clear hSw; go_simp; try with_reducible rfl)
        case rest =>
        refine wpAnyH_take (i := 3) (v := ?_) rfl (by kernel_rfl) (by kernel_rfl) (by kernel_rfl) (fun _ _ _ h => h) (Or.inl ⟨by kernel_rfl, ?hy⟩) hS5 ?rest
        case hy => (intro w hSw; clear hSw; go_simp; try with_reducible rfl)
        case rest =>
        refine wpAnyH_take (i := 4) (v := ?_) rfl (by kernel_rfl) (by kernel_rfl) (by kernel_rfl) (fun _ _ _ h => h) (Or.inl ⟨by kernel_rfl, ?hy⟩) hS5 ?rest
        case hy => (intro w hSw; clear hSw; go_simp; try with_reducible rfl)
        case rest =>
        refine wpAnyH_take (i := 5) (v := ?_) rfl (by kernel_rfl) (by kernel_rfl) (by kernel_rfl) (fun _ _ _ h => h) (Or.inl ⟨by kernel_rfl, ?hy⟩) hS5 ?rest
        case hy => (intro w hSw; clear hSw; go_simp; try with_reducible rfl)
        case rest =>
        refine wpAnyH_take (i := 7) (v := ?_) rfl (by kernel_rfl) (by kernel_rfl) (by kernel_rfl) (fun _ _ _ h => h) (Or.inl ⟨by kernel_rfl, ?hy⟩) hS5 ?rest
        case hy => (intro w hSw; clear hSw; go_simp; try with_reducible rfl)
        case rest =>
        refine wpAnyH_take (i := 8) (v := ?_) rfl (by kernel_rfl) (by kernel_rfl) (by kernel_rfl) (fun _ _ _ h => h) (Or.inl ⟨by kernel_rfl, ?hy⟩) hS5 ?rest
        case hy => (intro w hSw; clear hSw; go_simp; try with_reducible rfl)
        case rest =>
        refine wpAnyH_take (i := 9) (v := ?_) rfl (by kernel_rfl) (by kernel_rfl) (by kernel_rfl) (fun _ _ _ h => h) (Or.inl ⟨by kernel_rfl, ?hy⟩) hS5 ?rest
        case hy => (intro w hSw; clear hSw; go_simp; try with_reducible rfl)
        case rest =>
        refine wpAnyH_ready (rs := [6]) (by kernel_rfl) (by simp) ?_
        refine AllReadyH.cons rfl (fun K hK => ?_) AllReadyH.nil
        go_simp
        refine (H1.out _ (Below.refl _ _).drew).mono ?_
        rintro e W1 ⟨v1, rfl, ho, hb⟩
        have HB1 : Hid (Below w.heap.size w W1) := Lib.hid (below_trans (Below.refl _ _).drew hb)
        have HO1 : Hid (W1.ownsRow w.heap.size 9 1 v1 T.length (T.map Value.string)) := Lib.hid (own_base ho (Below.refl w.heap.size w).drew.size)
        clear ho hb
        go_simp
        refine hK.out _ _ trivial (fun _ => ?_)
        clear hK K
        refine wpAnyH_ready (rs := [10]) (by kernel_rfl) (by simp) ?_
        refine AllReadyH.cons rfl (fun K hK => ?_) AllReadyH.nil
        go_simp
        refine (R2.out W1 HB1.out).mono ?_
        rintro e W2 ⟨rfl, hb⟩
        have HB2 : Hid (Below w.heap.size w W2) := Lib.hid (below_trans HB1.out hb)
        have HO2 : Hid ((W2.alloc (.cells #[.string y] 9)).ownsRow w.heap.size 9 1 v1 T.length (T.map Value.string)) := Lib.hid (row_below (row_below HO1.out hb) (below_alloc (Below.refl _ _) _))
        clear hb
        go_simp
        refine hK.out _ _ trivial (fun _ => ?_)
        clear hK K
        refine wpAnyH_ready (rs := [11]) (by kernel_rfl) (by simp) ?_
        refine AllReadyH.cons rfl (fun K hK => ?_) AllReadyH.nil
        go_simp
        refine hK.out _ _ trivial (fun _ => ?_)
        clear hK K
        refine wpAnyH_ready (rs := [12]) (by kernel_rfl) (by simp) ?_
        refine AllReadyH.cons rfl (fun K hK => ?_) AllReadyH.nil
        refine step_appM (W2.alloc (.cells #[.string y] 9)) (by kernel_rfl) (.tmp 33) (.tmp 38) 22 22 rfl w.heap.size 9 9 ip _ 1 16 Tryz.underlying22 Tryz.underlying22 HI.out.1 HI.out.2.1 HI.out.2.2.1 HI.out.2.2.2 rfl (by omega) v1 T.length _ (by kernel_rfl) HO2.out (some ⟨W2.heap.size, 0, none⟩) 1 1 [.string y] (by kernel_rfl) (Rd_new W2 #[.string y] _ 1 1 _ rfl rfl) (by simp [Value.oneCell']) (by have := HT1.out; simp only [maxLen]; omega) (by have := HT1.out; omega) (by have := HB2.out.size; simp; omega) ?_
        intro v5 W5 ho hg
        have HB5 : Hid (Below w.heap.size w W5) := Lib.hid ((below_alloc HB2.out _).grown hg (by have := HB2.out.size; simp; omega) (fun j hj => (HO2.out.lt j hj).1))
        have HO5 := Lib.hid ho
        clear ho hg
        refine hK.out _ _ trivial (fun _ => ?_)
        clear hK K
        refine wpAnyH_take (i := 13) (v := ?_) rfl (by kernel_rfl) (by kernel_rfl) (by kernel_rfl) (fun _ _ _ h => h) (Or.inl ⟨by kernel_rfl, ?hy⟩) hS5 ?rest
        case hy => (intro w hSw; clear hSw; go_simp; try with_reducible rfl)
        case rest =>
        refine wpAnyH_done (by kernel_rfl) ?_ _
        go_wp2
        go_ret
        refine ⟨v5, rfl, ?_, HB5.out⟩
        have := HO5.out
        simpa using this
    · have h1 : l.length = 1 := by omega
      rw [pt_one l i h2]
      have hone : ((l.length : Int) == 1) = true := by simp; omega
      clear ih hS hsm
      go_enter Tryz.func28, Tryz.ntmps28
      go_wp2
      go_ret
      exact ⟨_, rfl, ⟨rfl, .inl ⟨rfl, rfl⟩⟩, Below.refl _ _⟩
set_option maxRecDepth 100000 in
set_option maxHeartbeats 32000000 in
theorem rlink_any (q : Nat) : ∀ (A : Option Addr) (c : Nat) (l : List ByteArray) (i : Nat) (wh : Bool) (w : World), l.length ≤ q → 1 ≤ i → i ≤ l.length → l.length ≤ 100000 → l.length ≤ c → Strs w A l → sm l →
    Calls Tryz.prog 29 #[.slice A l.length c, .int .i64 i, .bool wh] w fun e w' => ∃ v, e = .returned v ∧ w'.ownsRow w.heap.size 9 1 v (lk l i wh).length ((lk l i wh).map Value.string) ∧ Below w.heap.size w w' := by
  induction q with
  | zero => intro A c l i wh w h1 h2 h3; omega
  | succ q ih =>
    intro A c l i wh w hn hi hil hbig hcap hS hsm
    by_cases hlt : i < l.length
    · have h2 : 2 ≤ l.length := by omega
      obtain ⟨b, off, rfl, -⟩ := hS.2 (by omega)
      obtain ⟨k, hk⟩ : ∃ k, hf l.length = k := ⟨_, rfl⟩
      have HH := Lib.hid (rhalf_any l.length (by omega) w)
      have k1 := hf_lt l.length h2
      have k2 := hf_pos l.length
      have p1 := lk_le l i wh hlt h2
      have p2 := lk_gt l i wh hlt h2
      rw [hk] at HH k1 k2 p1 p2
      obtain ⟨ip, hj1, hy0, hy1, hy2⟩ := info_parts info_strg
      have HI := Lib.hid (And.intro hj1 (And.intro hy0 (And.intro hy1 hy2)))
      clear hj1 hy0 hy1 hy2
      have hne : ((i : Int) == (l.length : Int)) = false := by simp; omega
      by_cases hik : i ≤ k
      · skip
        have R2 : Hid (∀ W, Below w.heap.size w W → Calls Tryz.prog 25 #[.slice (some ⟨b, off + k, none⟩) (l.length - k) (c - k)] W fun e w' => e = .returned (.string (rt (l.drop k))) ∧ Below W.heap.size W w') := Lib.hid (fun W hW => by
          have := rroot_any l.length (some ⟨b, off + k, none⟩) (c - k) (l.drop k) W (by rw [List.length_drop]; omega) (by rw [List.length_drop]; omega) (by rw [List.length_drop]; omega) ((hS.below hW).drop k) (hsm.drop k)
          rw [List.length_drop] at this
          exact this)
        have H1 : Hid (∀ W, Below w.heap.size w W → Calls Tryz.prog 29 #[.slice (some ⟨b, off, none⟩) k c, .int .i64 i, .bool wh] W fun e w' => ∃ v, e = .returned v ∧ w'.ownsRow W.heap.size 9 1 v (lk (l.take k) i wh).length ((lk (l.take k) i wh).map Value.string) ∧ Below W.heap.size W w') := Lib.hid (fun W hW => by
          have := ih (some ⟨b, off, none⟩) c (l.take k) i wh W (by rw [List.length_take]; omega) hi (by rw [List.length_take]; omega) (by rw [List.length_take]; omega) (by rw [List.length_take]; omega) ((hS.below hW).take k) (hsm.take k)
          rw [List.length_take, Nat.min_eq_left (by omega)] at this
          exact this)
        have ht1 : (lk (l.take k) i wh).length ≤ 100000 := by rw [lk_len _ _ _ hi, List.length_take, Nat.min_eq_left (by omega)]; have := llen_le_n k i wh k2; omega
        have HT1 := Lib.hid ht1
        rw [p1 hik]
        clear p1 p2 hS hsm ih hk h2 ht1
        generalize lk (l.take k) i wh = T at *
        generalize rt (l.drop k) = y at *
        generalize l.length = m at *
        have hyi : (i : Int) ≤ (k : Int) := by omega
        have hkm : (k : Int) ≤ (m : Int) := by omega
        have hkc : (k : Int) ≤ (c : Int) := by omega
        have hck : (c = k) = False := by simp; omega
        go_enter Tryz.func29, Tryz.ntmps29
        go_wp2_with fail
        refine HH.out.mono ?_
        rintro e _ ⟨rfl, rfl⟩
        go_wp2_with fail
        refine wp_region_held_drew (S := fun _ => True) (by kernel_rfl) trivial (fun hS5 => ?_)
        refine wpAnyH_take (i := 0) (v := ?_) rfl (by kernel_rfl) (by kernel_rfl) (by kernel_rfl) (fun _ _ _ h => h) (Or.inl ⟨by kernel_rfl, ?hy⟩) hS5 ?rest
        case hy => (intro w hSw; clear hSw; go_simp; try with_reducible rfl)
        case rest =>
        refine wpAnyH_take (i := 1) (v := ?_) rfl (by kernel_rfl) (by kernel_rfl) (by kernel_rfl) (fun _ _ _ h => h) (Or.inl ⟨by kernel_rfl, ?hy⟩) hS5 ?rest
        case hy => (intro w hSw; clear hSw; go_simp; try with_reducible rfl)
        case rest =>
        refine wpAnyH_take (i := 2) (v := ?_) rfl (by kernel_rfl) (by kernel_rfl) (by kernel_rfl) (fun _ _ _ h => h) (Or.inl ⟨by kernel_rfl, ?hy⟩) hS5 ?rest
        case hy => (intro w hSw; clear hSw; go_simp; try with_reducible rfl)
        case rest =>
        refine wpAnyH_take (i := 3) (v := ?_) rfl (by kernel_rfl) (by kernel_rfl) (by kernel_rfl) (fun _ _ _ h => h) (Or.inl ⟨by kernel_rfl, ?hy⟩) hS5 ?rest
        case hy => (intro w hSw; clear hSw; go_simp; try with_reducible rfl)
        case rest =>
        refine wpAnyH_take (i := 4) (v := ?_) rfl (by kernel_rfl) (by kernel_rfl) (by kernel_rfl) (fun _ _ _ h => h) (Or.inl ⟨by kernel_rfl, ?hy⟩) hS5 ?rest
        case hy => (intro w hSw; clear hSw; go_simp; try with_reducible rfl)
        case rest =>
        refine wpAnyH_take (i := 6) (v := ?_) rfl (by kernel_rfl) (by kernel_rfl) (by kernel_rfl) (fun _ _ _ h => h) (Or.inl ⟨by kernel_rfl, ?hy⟩) hS5 ?rest
        case hy => (intro w hSw; clear hSw; go_simp; try with_reducible rfl)
        case rest =>
        refine wpAnyH_take (i := 7) (v := ?_) rfl (by kernel_rfl) (by kernel_rfl) (by kernel_rfl) (fun _ _ _ h => h) (Or.inl ⟨by kernel_rfl, ?hy⟩) hS5 ?rest
        case hy => (intro w hSw; clear hSw; go_simp; try with_reducible rfl)
        case rest =>
        refine wpAnyH_take (i := 8) (v := ?_) rfl (by kernel_rfl) (by kernel_rfl) (by kernel_rfl) (fun _ _ _ h => h) (Or.inl ⟨by kernel_rfl, ?hy⟩) hS5 ?rest
        case hy => (intro w hSw; clear hSw; go_simp; try with_reducible rfl)
        case rest =>
        refine wpAnyH_ready (rs := [5]) (by kernel_rfl) (by simp) ?_
        refine AllReadyH.cons rfl (fun K hK => ?_) AllReadyH.nil
        go_simp
        refine (H1.out _ (Below.refl _ _).drew).mono ?_
        rintro e W1 ⟨v1, rfl, ho, hb⟩
        have HB1 : Hid (Below w.heap.size w W1) := Lib.hid (below_trans (Below.refl _ _).drew hb)
        have HO1 : Hid (W1.ownsRow w.heap.size 9 1 v1 T.length (T.map Value.string)) := Lib.hid (own_base ho (Below.refl w.heap.size w).drew.size)
        clear ho hb
        go_simp
        refine hK.out _ _ trivial (fun _ => ?_)
        clear hK K
        refine wpAnyH_ready (rs := [9]) (by kernel_rfl) (by simp) ?_
        refine AllReadyH.cons rfl (fun K hK => ?_) AllReadyH.nil
        go_simp
        refine (R2.out W1 HB1.out).mono ?_
        rintro e W2 ⟨rfl, hb⟩
        have HB2 : Hid (Below w.heap.size w W2) := Lib.hid (below_trans HB1.out hb)
        have HO2 : Hid ((W2.alloc (.cells #[.string y] 9)).ownsRow w.heap.size 9 1 v1 T.length (T.map Value.string)) := Lib.hid (row_below (row_below HO1.out hb) (below_alloc (Below.refl _ _) _))
        clear hb
        go_simp
        refine hK.out _ _ trivial (fun _ => ?_)
        clear hK K
        refine wpAnyH_ready (rs := [10]) (by kernel_rfl) (by simp) ?_
        refine AllReadyH.cons rfl (fun K hK => ?_) AllReadyH.nil
        go_simp
        refine hK.out _ _ trivial (fun _ => ?_)
        clear hK K
        refine wpAnyH_ready (rs := [11]) (by kernel_rfl) (by simp) ?_
        refine AllReadyH.cons rfl (fun K hK => ?_) AllReadyH.nil
        refine step_appM (W2.alloc (.cells #[.string y] 9)) (by kernel_rfl) (.tmp 28) (.tmp 33) 22 22 rfl w.heap.size 9 9 ip _ 1 16 Tryz.underlying22 Tryz.underlying22 HI.out.1 HI.out.2.1 HI.out.2.2.1 HI.out.2.2.2 rfl (by omega) v1 T.length _ (by kernel_rfl) HO2.out (some ⟨W2.heap.size, 0, none⟩) 1 1 [.string y] (by kernel_rfl) (Rd_new W2 #[.string y] _ 1 1 _ rfl rfl) (by simp [Value.oneCell']) (by have := HT1.out; simp only [maxLen]; omega) (by have := HT1.out; omega) (by have := HB2.out.size; simp; omega) ?_
        intro v5 W5 ho hg
        have HB5 : Hid (Below w.heap.size w W5) := Lib.hid ((below_alloc HB2.out _).grown hg (by have := HB2.out.size; simp; omega) (fun j hj => (HO2.out.lt j hj).1))
        have HO5 := Lib.hid ho
        clear ho hg
        refine hK.out _ _ trivial (fun _ => ?_)
        clear hK K
        refine wpAnyH_take (i := 12) (v := ?_) rfl (by kernel_rfl) (by kernel_rfl) (by kernel_rfl) (fun _ _ _ h => h) (Or.inl ⟨by kernel_rfl, ?hy⟩) hS5 ?rest
        case hy => (intro w hSw; clear hSw; go_simp; try with_reducible rfl)
        case rest =>
        refine wpAnyH_done (by kernel_rfl) ?_ _
        go_wp2
        go_ret
        refine ⟨v5, rfl, ?_, HB5.out⟩
        have := HO5.out
        simpa using this
      · skip
        have R2 : Hid (∀ W, Below w.heap.size w W → Calls Tryz.prog 25 #[.slice (some ⟨b, off, none⟩) k c] W fun e w' => e = .returned (.string (rt (l.take k))) ∧ Below W.heap.size W w') := Lib.hid (fun W hW => by
          have := rroot_any l.length (some ⟨b, off, none⟩) c (l.take k) W (by rw [List.length_take]; omega) (by rw [List.length_take]; omega) (by rw [List.length_take]; omega) ((hS.below hW).take k) (hsm.take k)
          rw [List.length_take, Nat.min_eq_left (by omega)] at this
          exact this)
        have H1 : Hid (∀ W, Below w.heap.size w W → Calls Tryz.prog 29 #[.slice (some ⟨b, off + k, none⟩) (l.length - k) (c - k), .int .i64 ((i - k : Nat) : Int), .bool false] W fun e w' => ∃ v, e = .returned v ∧ w'.ownsRow W.heap.size 9 1 v (lk (l.drop k) (i - k) false).length ((lk (l.drop k) (i - k) false).map Value.string) ∧ Below W.heap.size W w') := Lib.hid (fun W hW => by
          have := ih (some ⟨b, off + k, none⟩) (c - k) (l.drop k) (i - k) false W (by rw [List.length_drop]; omega) (by omega) (by rw [List.length_drop]; omega) (by rw [List.length_drop]; omega) (by rw [List.length_drop]; omega) ((hS.below hW).drop k) (hsm.drop k)
          rw [List.length_drop] at this
          exact this)
        have ht1 : (lk (l.drop k) (i - k) false).length ≤ 100000 := by rw [lk_len _ _ _ (by omega), List.length_drop]; have := llen_le_n (l.length - k) (i - k) false (by omega); omega
        have HT1 := Lib.hid ht1
        rw [p2 hik]
        clear p1 p2 hS hsm ih hk h2 ht1
        generalize lk (l.drop k) (i - k) false = T at *
        generalize rt (l.take k) = y at *
        generalize l.length = m at *
        have hni : ¬ (i : Int) ≤ (k : Int) := by omega
        have hwr : IntKind.i64.wrap ((i : Int) - (k : Int)) = ((i - k : Nat) : Int) := by rw [IntWalk.i64_in _ (by omega)]; omega
        have hkm : (k : Int) ≤ (m : Int) := by omega
        have hkc : (k : Int) ≤ (c : Int) := by omega
        have hck : (c = k) = False := by simp; omega
        go_enter Tryz.func29, Tryz.ntmps29
        go_wp2_with fail
        refine HH.out.mono ?_
        rintro e _ ⟨rfl, rfl⟩
        go_wp2_with fail
        refine wp_region_held_drew (S := fun _ => True) (by kernel_rfl) trivial (fun hS5 => ?_)
        refine wpAnyH_take (i := 0) (v := ?_) rfl (by kernel_rfl) (by kernel_rfl) (by kernel_rfl) (fun _ _ _ h => h) (Or.inl ⟨by kernel_rfl, ?hy⟩) hS5 ?rest
        case hy => (intro w hSw; clear hSw; go_simp; try with_reducible rfl)
        case rest =>
        refine wpAnyH_take (i := 1) (v := ?_) rfl (by kernel_rfl) (by kernel_rfl) (by kernel_rfl) (fun _ _ _ h => h) (Or.inl ⟨by kernel_rfl, ?hy⟩) hS5 ?rest
        case hy => (intro w hSw; clear hSw; go_simp; try with_reducible rfl)
        case rest =>
        refine wpAnyH_take (i := 2) (v := ?_) rfl (by kernel_rfl) (by kernel_rfl) (by kernel_rfl) (fun _ _ _ h => h) (Or.inl ⟨by kernel_rfl, ?hy⟩) hS5 ?rest
        case hy => (intro w hSw; clear hSw; go_simp; try with_reducible rfl)
        case rest =>
        refine wpAnyH_take (i := 3) (v := ?_) rfl (by kernel_rfl) (by kernel_rfl) (by kernel_rfl) (fun _ _ _ h => h) (Or.inl ⟨by kernel_rfl, ?hy⟩) hS5 ?rest
        case hy => (intro w hSw; clear hSw; go_simp; try with_reducible rfl)
        case rest =>
        refine wpAnyH_take (i := 4) (v := ?_) rfl (by kernel_rfl) (by kernel_rfl) (by kernel_rfl) (fun _ _ _ h => h) (Or.inl ⟨by kernel_rfl, ?hy⟩) hS5 ?rest
        case hy => (intro w hSw; clear hSw; go_simp; try with_reducible rfl)
        case rest =>
        refine wpAnyH_take (i := 5) (v := ?_) rfl (by kernel_rfl) (by kernel_rfl) (by kernel_rfl) (fun _ _ _ h => h) (Or.inl ⟨by kernel_rfl, ?hy⟩) hS5 ?rest
        case hy => (intro w hSw; clear hSw; go_simp; try with_reducible rfl)
        case rest =>
        refine wpAnyH_take (i := 7) (v := ?_) rfl (by kernel_rfl) (by kernel_rfl) (by kernel_rfl) (fun _ _ _ h => h) (Or.inl ⟨by kernel_rfl, ?hy⟩) hS5 ?rest
        case hy => (intro w hSw; clear hSw; go_simp; try with_reducible rfl)
        case rest =>
        refine wpAnyH_take (i := 8) (v := ?_) rfl (by kernel_rfl) (by kernel_rfl) (by kernel_rfl) (fun _ _ _ h => h) (Or.inl ⟨by kernel_rfl, ?hy⟩) hS5 ?rest
        case hy => (intro w hSw; clear hSw; go_simp; try with_reducible rfl)
        case rest =>
        refine wpAnyH_take (i := 9) (v := ?_) rfl (by kernel_rfl) (by kernel_rfl) (by kernel_rfl) (fun _ _ _ h => h) (Or.inl ⟨by kernel_rfl, ?hy⟩) hS5 ?rest
        case hy => (intro w hSw; clear hSw; go_simp; try with_reducible rfl)
        case rest =>
        refine wpAnyH_ready (rs := [6]) (by kernel_rfl) (by simp) ?_
        refine AllReadyH.cons rfl (fun K hK => ?_) AllReadyH.nil
        go_simp
        refine (H1.out _ (Below.refl _ _).drew).mono ?_
        rintro e W1 ⟨v1, rfl, ho, hb⟩
        have HB1 : Hid (Below w.heap.size w W1) := Lib.hid (below_trans (Below.refl _ _).drew hb)
        have HO1 : Hid (W1.ownsRow w.heap.size 9 1 v1 T.length (T.map Value.string)) := Lib.hid (own_base ho (Below.refl w.heap.size w).drew.size)
        clear ho hb
        go_simp
        refine hK.out _ _ trivial (fun _ => ?_)
        clear hK K
        refine wpAnyH_ready (rs := [10]) (by kernel_rfl) (by simp) ?_
        refine AllReadyH.cons rfl (fun K hK => ?_) AllReadyH.nil
        go_simp
        refine (R2.out W1 HB1.out).mono ?_
        rintro e W2 ⟨rfl, hb⟩
        have HB2 : Hid (Below w.heap.size w W2) := Lib.hid (below_trans HB1.out hb)
        have HO2 : Hid ((W2.alloc (.cells #[.string y] 9)).ownsRow w.heap.size 9 1 v1 T.length (T.map Value.string)) := Lib.hid (row_below (row_below HO1.out hb) (below_alloc (Below.refl _ _) _))
        clear hb
        go_simp
        refine hK.out _ _ trivial (fun _ => ?_)
        clear hK K
        refine wpAnyH_ready (rs := [11]) (by kernel_rfl) (by simp) ?_
        refine AllReadyH.cons rfl (fun K hK => ?_) AllReadyH.nil
        go_simp
        refine hK.out _ _ trivial (fun _ => ?_)
        clear hK K
        refine wpAnyH_ready (rs := [12]) (by kernel_rfl) (by simp) ?_
        refine AllReadyH.cons rfl (fun K hK => ?_) AllReadyH.nil
        refine step_appM (W2.alloc (.cells #[.string y] 9)) (by kernel_rfl) (.tmp 41) (.tmp 46) 22 22 rfl w.heap.size 9 9 ip _ 1 16 Tryz.underlying22 Tryz.underlying22 HI.out.1 HI.out.2.1 HI.out.2.2.1 HI.out.2.2.2 rfl (by omega) v1 T.length _ (by kernel_rfl) HO2.out (some ⟨W2.heap.size, 0, none⟩) 1 1 [.string y] (by kernel_rfl) (Rd_new W2 #[.string y] _ 1 1 _ rfl rfl) (by simp [Value.oneCell']) (by have := HT1.out; simp only [maxLen]; omega) (by have := HT1.out; omega) (by have := HB2.out.size; simp; omega) ?_
        intro v5 W5 ho hg
        have HB5 : Hid (Below w.heap.size w W5) := Lib.hid ((below_alloc HB2.out _).grown hg (by have := HB2.out.size; simp; omega) (fun j hj => (HO2.out.lt j hj).1))
        have HO5 := Lib.hid ho
        clear ho hg
        refine hK.out _ _ trivial (fun _ => ?_)
        clear hK K
        refine wpAnyH_take (i := 13) (v := ?_) rfl (by kernel_rfl) (by kernel_rfl) (by kernel_rfl) (fun _ _ _ h => h) (Or.inl ⟨by kernel_rfl, ?hy⟩) hS5 ?rest
        case hy => (intro w hSw; clear hSw; go_simp; try with_reducible rfl)
        case rest =>
        refine wpAnyH_done (by kernel_rfl) ?_ _
        go_wp2
        go_ret
        refine ⟨v5, rfl, ?_, HB5.out⟩
        have := HO5.out
        simpa using this
    · have hone : ((i : Int) == (l.length : Int)) = true := by simp; omega
      rw [lk_end l i wh hlt]
      have HR := Lib.hid (rroot_any l.length A c l w (Nat.le_refl _) hbig hcap hS hsm)
      clear ih hS hsm
      generalize rt l = y at *
      generalize l.length = m at *
      cases wh
      case true =>
        go_enter Tryz.func29, Tryz.ntmps29
        go_wp2
        go_ret
        exact ⟨_, rfl, ⟨rfl, .inl ⟨rfl, rfl⟩⟩, Below.refl _ _⟩
      case false =>
        go_enter Tryz.func29, Tryz.ntmps29
        go_wp2_with fail
        refine HR.out.mono ?_
        rintro e w1 ⟨rfl, hb1⟩
        have HB1 := Lib.hid hb1
        clear hb1
        go_wp2
        go_ret
        exact ⟨_, rfl, own_base (own_newM w1 y) HB1.out.size, below_alloc HB1.out _⟩
end Go.Proofs.YtfmlhlliephlhaaGreatDoor
