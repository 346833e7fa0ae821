/- The contract of field.Interpolate: Neville's scheme. -/
import Derived.Test.YthkagcelpdcfkaaArr
namespace Go.Proofs.Ythkagcelpdcfkaa
open Go.RowKit Go.Maps

set_option maxHeartbeats 4000000 in
theorem interp_any (b off cap : Nat) (ps : List (Int × Int)) (x : Int) (w : World) (hb : b < w.heap.size) (hc : Pts w b off ps) (h1 : 1 ≤ ps.length) (h16 : ps.length ≤ 16)
    (hcap : ps.length ≤ cap) (hx : elemB x = true) (hall : ∀ p, p ∈ ps → elemB p.1 = true ∧ elemB p.2 = true) (hnd : (ps.map (·.1)).Nodup) :
    Calls Try.prog 24 #[.slice (some ⟨b, off, none⟩) ps.length cap, .int .i64 x] w fun e w' =>
      e = .returned (.tuple #[.int .i64 (nv x ps (ps.length - 1) 0), .int .i64 0]) ∧ Below w.heap.size w w' := by
  have HX := Lib.hid hx; clear hx
  have HALL := Lib.hid hall; clear hall
  have HND := Lib.hid hnd; clear hnd
  have HC := Lib.hid hc; clear hc
  have hmm := @run_makeMap Try.prog
  have hmf : ∀ (fn : Fn) (first cap : Array Value) (w : World), (Instr.makeFunc fn first cap).run Try.prog w = .ok (.func fn first cap) w := fun _ _ _ _ => rfl
  go_enter Try.func24, Try.ntmps24
  go_wp2_with fail
  refine (element_any _ _).mono ?_
  rintro e w' ⟨rfl, rfl⟩
  rw [HX.out]
  go_wp2_with fail
  obtain ⟨w0, hw0⟩ : ∃ w0, w0 = (w.alloc (Obj.cells #[Value.slice (some { block := b, off := off }) ps.length cap] 41)).alloc (Obj.cells #[Value.int IntKind.i64 x] 3) := ⟨_, rfl⟩
  have hs0 : w0.heap.size = w.heap.size + 2 := by rw [hw0]; simp
  have HBW : Hid (Below w.heap.size w w0) := Lib.hid (by rw [hw0]; exact ((Below.refl _ _).alloc (Nat.le_refl _) _).alloc (by simp) _)
  have HQ1 : Hid (w0.cell? ⟨w.heap.size, 0, none⟩ = some (.slice (some ⟨b, off, none⟩) ps.length cap)) := Lib.hid (by rw [hw0]; simp [World.cell?_alloc_past, World.cell?_alloc_at])
  have HQ2 : Hid (w0.cell? ⟨w.heap.size + 1, 0, none⟩ = some (.int .i64 x)) := Lib.hid (by rw [hw0]; simp [World.cell?_alloc_at])
  have HW0 := Lib.hid hw0; clear hw0
  have HS0 := Lib.hid hs0; clear hs0
  go_loopw [7, 32] (fun u7 u32 wr => ∃ k : Nat, k ≤ ps.length ∧ u32 = .int .i64 k ∧ u7 = .bool false ∧ Below (w.heap.size + 2) w0 wr ∧ Seen wr (w.heap.size + 2) k ((ps.map (·.1)).take k)) (fun _ u32 _ => ps.length - (intOf u32).toNat)
  case atStart => exact ⟨0, Nat.zero_le _, rfl, rfl, by rw [HW0.out]; exact (Below.refl _ _).alloc (by simp) _, by have h := Seen.made w0; rw [HS0.out] at h; rw [← HW0.out]; simpa using h⟩
  case round =>
    obtain ⟨k, hk, rfl, rfl, hB, hS⟩ := hrel
    have HB := Lib.hid hB; clear hB
    have HS := Lib.hid hS; clear hS
    have hsz : w.heap.size + 2 < wr.heap.size := by obtain ⟨D, hD, _⟩ := HS.out; exact hD.lt
    by_cases hlt : k < ps.length
    · obtain ⟨p, hp⟩ : ∃ p, ps[k]? = some p := ⟨_, List.getElem?_eq_getElem hlt⟩
      obtain ⟨hc1, hc2⟩ := HC.out k p hp
      have hc1' := below_cell HB.out (by omega) (below_cell HBW.out hb hc1)
      have hc2' := below_cell HB.out (by omega) (below_cell HBW.out hb hc2)
      clear hc1 hc2
      obtain ⟨he1, he2⟩ := HALL.out p (List.mem_of_getElem? hp)
      have hall : [p.1, p.2].all elemB = true := by simp [he1, he2]
      have hpx : (ps.map (·.1))[k]? = some p.1 := by simp [hp]
      have hnm := nodup_not_mem HND.out k _ hpx
      have hS1 := HS.out.grown (World.grownBy_alloc wr (.cells #[.int .i64 p.1, .int .i64 p.2] 40) none) (by simp)
      have hlook := hS1.look p.1 he1 hnm
      obtain ⟨w2, hput, hS2, hg2⟩ := hS1.put p.1 he1 (by omega)
      have hB2 : Below (w.heap.size + 2) w0 w2 := ((HB.out).alloc (by omega) _).grown hg2 (by simp; omega) (by simp)
      rw [← take_snoc _ k _ hpx] at hS2
      have HS2 := Lib.hid hS2; clear hS2
      have HB2 := Lib.hid hB2; clear hB2
      have HG2 := Lib.hid hg2; clear hg2
      have HAL := Lib.hid hall; clear hall
      clear hS1 hnm he1 he2 hpx
      have HP := Lib.hid hp; clear hp
      go_wp2_with fail
      refine (elements_any _ _ [p.1, p.2] _ (Ints_two wr _ p.1 p.2) (by simp)).mono ?_
      rintro e w' ⟨rfl, rfl⟩
      rw [HAL.out]
      go_wp2
      go_roundw
      case rel => exact ⟨k + 1, by omega, by go_num, rfl, HB2.out, HS2.out⟩
      case measure => simp [intOf]; omega
    · have hbox := below_cell HB.out (by omega) HQ1.out
      have hsz0 : w.heap.size < wr.heap.size := by omega
      have hsz1 : w.heap.size + 1 < wr.heap.size := by omega
      go_wp2_with fail
      obtain ⟨w1, rfl⟩ : ∃ w1 : World, w1 = wr := ⟨_, rfl⟩
      go_loopw [11, 53] (fun u11 u53 wr => ∃ (i : Nat) (f : Nat → Int), i ≤ ps.length ∧ u53 = .int .i64 i ∧ Below (w.heap.size + 2) w0 wr ∧ Arr wr w1.heap.size 56 16 f ∧ (∀ j, j < i → f j = nv x ps 0 j) ∧ (∀ j, 0 ≤ f j ∧ f j < 2147483647)) (fun _ u53 _ => ps.length - (intOf u53).toNat)
      case atStart => exact ⟨0, fun _ => 0, Nat.zero_le _, rfl, (HB.out).alloc (by omega) _, Arr.zeros16 _ _, by simp, by simp⟩
      case round =>
        obtain ⟨i, f, hi, rfl, hB1, hA, hf, hr⟩ := hrel
        have HB1 := Lib.hid hB1; clear hB1
        have HA := Lib.hid hA; clear hA
        have HF := Lib.hid hf; clear hf
        have HR := Lib.hid hr; clear hr
        have hA1 := HA.out.lt
        by_cases hli : i < ps.length
        · obtain ⟨p, hp⟩ : ∃ p, ps[i]? = some p := ⟨_, List.getElem?_eq_getElem hli⟩
          obtain ⟨hc1, hc2⟩ := HC.out i p hp
          have hc1' := below_cell HB1.out (by omega) (below_cell HBW.out hb hc1)
          have hc2' := below_cell HB1.out (by omega) (below_cell HBW.out hb hc2)
          clear hc1 hc2
          have hac := HA.out.cell i (by omega)
          have haf := HA.out.frozen i
          have hi16 : (i : Int) < 16 := by omega
          have HP := Lib.hid hp; clear hp
          go_wp2
          go_roundw
          case rel =>
            refine ⟨i + 1, _, by omega, by go_num, ((HB1.out).setCell (p := ⟨w1.heap.size, i, none⟩) (by simp; omega) _).alloc (by simp; omega) _, (HA.out.set i p.2).alloc _, fun j hj => ?_, fun j => ?_⟩
            · by_cases hji : j = i
              · subst hji; simp [nv, HP.out]
              · simp only [hji, if_false]; exact HF.out j (by omega)
            · have ⟨he1, he2⟩ := HALL.out p (List.mem_of_getElem? HP.out)
              have := (elemB_iff p.2).1 he2
              by_cases hji : j = i
              · simp only [hji, if_true]; exact this
              · simp only [hji, if_false]; exact HR.out j
          case measure => simp [intOf]; omega
        · have hbox := below_cell HB1.out (by omega) HQ1.out
          have hboxx := below_cell HB1.out (by omega) HQ2.out
          have hnv := fun k j => nv_range x ps HALL.out k j
          have HNV := Lib.hid hnv; clear hnv
          have hfi : ∀ j, j < ps.length → f j = nv x ps 0 j := fun j hj => HF.out j (by omega)
          have HFI := Lib.hid hfi; clear hfi
          go_wp2_with fail
          obtain ⟨w2, rfl⟩ : ∃ w2 : World, w2 = wr := ⟨_, rfl⟩
          go_loopw [14] (fun u14 wr => ∃ (d : Nat) (f : Nat → Int), 1 ≤ d ∧ d ≤ ps.length ∧ u14 = .int .i64 d ∧ Below (w.heap.size + 2) w0 wr ∧ Arr wr w1.heap.size 56 16 f ∧ (∀ j, j + d ≤ ps.length → f j = nv x ps (d - 1) j) ∧ (∀ j, 0 ≤ f j ∧ f j < 2147483647)) (fun u14 _ => ps.length - (intOf u14).toNat)
          case atStart => exact ⟨1, f, Nat.le_refl _, h1, rfl, HB1.out, HA.out, fun j hj => HFI.out j (by omega), HR.out⟩
          case round =>
            obtain ⟨d, g, hd1, hd2, rfl, hB2, hA2, hg, hr2⟩ := hrel
            have HB2 := Lib.hid hB2; clear hB2
            have HA2 := Lib.hid hA2; clear hA2
            have HG := Lib.hid hg; clear hg
            have HR2 := Lib.hid hr2; clear hr2
            clear hbox hboxx
            have hbox := below_cell HB2.out (by omega) HQ1.out
            have hboxx := below_cell HB2.out (by omega) HQ2.out
            have hA3 := HA2.out.lt
            by_cases hld : d < ps.length
            · go_wp2_with fail
              obtain ⟨w3, rfl⟩ : ∃ w3 : World, w3 = wr := ⟨_, rfl⟩
              go_loopw [15, 74] (fun u15 u74 wr => ∃ (i : Nat) (f : Nat → Int), i + d ≤ ps.length ∧ u74 = .int .i64 i ∧ Below (w.heap.size + 2) w0 wr ∧ Arr wr w1.heap.size 56 16 f ∧ (∀ j, j < i → f j = nv x ps d j) ∧ (∀ j, i ≤ j → j + d ≤ ps.length → f j = nv x ps (d - 1) j) ∧ (∀ j, 0 ≤ f j ∧ f j < 2147483647)) (fun _ u74 _ => ps.length - (intOf u74).toNat)
              case atStart => exact ⟨0, g, by omega, rfl, HB2.out, HA2.out, by simp, fun j _ hj => HG.out j hj, HR2.out⟩
              case round =>
                obtain ⟨i, f, hi, rfl, hB3, hA4, hf1, hf2, hr3⟩ := hrel
                have HB3 := Lib.hid hB3; clear hB3
                have HA4 := Lib.hid hA4; clear hA4
                have HF1 := Lib.hid hf1; clear hf1
                have HF2 := Lib.hid hf2; clear hf2
                have HR3 := Lib.hid hr3; clear hr3
                by_cases hle : i + d < ps.length
                · obtain ⟨p, hp⟩ : ∃ p, ps[i]? = some p := ⟨_, List.getElem?_eq_getElem (by omega)⟩
                  obtain ⟨q, hq⟩ : ∃ q, ps[i + d]? = some q := ⟨_, List.getElem?_eq_getElem (by omega)⟩
                  have ⟨hc1, _⟩ := HC.out i p hp
                  have ⟨hc2, _⟩ := HC.out (i + d) q hq
                  have hc1' := below_cell HB3.out (by omega) (below_cell HBW.out hb hc1)
                  have hc2' := below_cell HB3.out (by omega) (below_cell HBW.out hb hc2)
                  have hb1 := below_cell HB3.out (by omega) HQ1.out
                  have hb2 := below_cell HB3.out (by omega) HQ2.out
                  have ⟨p0, p1⟩ := (elemB_iff p.1).1 (HALL.out p (List.mem_of_getElem? hp)).1
                  have ⟨q0, q1⟩ := (elemB_iff q.1).1 (HALL.out q (List.mem_of_getElem? hq)).1
                  have ⟨x0, x1⟩ := (elemB_iff x).1 HX.out
                  have hne : p.1 ≠ q.1 := nodup_ne HND.out i (i + d) p.1 q.1 (by simp [hp]) (by simp [hq]) (by omega)
                  have hj := join_any i (i + d) ps.length b off cap w.heap.size (w.heap.size + 1) w1.heap.size x p.1 q.1 (f i) (f (i + 1)) wr (by omega) (by omega) hle h16 hcap hb1 hb2 hc1' hc2'
                    (HA4.out.cell i (by omega)) (HA4.out.cell (i + 1) (by omega)) (HA4.out.frozen i) x0 x1 p0 p1 q0 q1 (HR3.out i).1 (HR3.out i).2 (HR3.out (i + 1)).1 (HR3.out (i + 1)).2 hne
                  have HJ := Lib.hid hj; clear hj
                  have he : nst x p.1 q.1 (f i) (f (i + 1)) = nv x ps d i := by
                    obtain ⟨d', rfl⟩ : ∃ d', d = d' + 1 := ⟨d - 1, by omega⟩
                    rw [nv, HF2.out i (Nat.le_refl _) (by omega), HF2.out (i + 1) (by omega) (by omega), hp, hq]
                    rfl
                  have HE := Lib.hid he
                  have HP := Lib.hid hp
                  have HQ := Lib.hid hq
                  clear hp hq hc1 hc2 hc1' hc2' hb1 hb2 hne he
                  go_wp2_with fail
                  refine HJ.out.mono ?_
                  rintro e w' ⟨rfl, m, rfl⟩
                  go_wp2
                  go_roundw
                  case rel =>
                    refine ⟨i + 1, _, by omega, by go_num, (below_drewN HB3.out m).setCell (p := ⟨w1.heap.size, i, none⟩) (by simp; omega) _, (HA4.out.drewN m).set i _, fun j hj => ?_, fun j hj hjd => ?_, fun j => ?_⟩
                    · by_cases hji : j = i
                      · subst hji; simp [HE.out]
                      · simp only [hji, if_false]; exact HF1.out j (by omega)
                    · have hji : j ≠ i := by omega
                      simp only [hji, if_false]; exact HF2.out j (by omega) hjd
                    · by_cases hji : j = i
                      · simp only [hji, if_true]; exact nst_range _ _ _ _ _
                      · simp only [hji, if_false]; exact HR3.out j
                  case measure => simp [intOf]; omega
                · have hei : i + d = ps.length := by omega
                  have HEI := Lib.hid hei; clear hei
                  go_wp2
                  go_roundw
                  case rel => exact ⟨d + 1, f, by omega, by omega, by go_num, HB3.out, HA4.out, fun j hj => HF1.out j (by have := HEI.out; omega), HR3.out⟩
                  case measure => simp [intOf]; omega
            · have hac := HA2.out.cell 0 (by omega)
              have he : g 0 = nv x ps (ps.length - 1) 0 := by
                have e : d = ps.length := by omega
                have := HG.out 0 (by omega)
                rw [e] at this; exact this
              have HE := Lib.hid he; clear he
              go_wp2
              go_ret2
              rw [← HE.out]
              exact ⟨rfl, HBW.out.trans (HB2.out.mono (by omega))⟩

theorem interp_prs (A : Option Addr) (cap : Nat) (ps : List (Int × Int)) (x : Int) (w : World) (hc : Prs w A ps) (h1 : 1 ≤ ps.length) (h16 : ps.length ≤ 16)
    (hcap : ps.length ≤ cap) (hx : elemB x = true) (hall : ∀ p, p ∈ ps → elemB p.1 = true ∧ elemB p.2 = true) (hnd : (ps.map (·.1)).Nodup) :
    Calls Try.prog 24 #[.slice A ps.length cap, .int .i64 x] w fun e w' =>
      e = .returned (.tuple #[.int .i64 (nv x ps (ps.length - 1) 0), .int .i64 0]) ∧ Below w.heap.size w w' := by
  obtain ⟨b, off, rfl, hcc⟩ := hc.2 (by omega)
  have hP : Pts w b off ps := fun j p hp => by
    obtain ⟨h1, h2⟩ := flat2_at ps j p hp
    exact ⟨hcc _ _ h1, by rw [Nat.add_assoc]; exact hcc _ _ h2⟩
  obtain ⟨p, hp⟩ := get_some ps 0 (by omega)
  exact interp_any b off cap ps x w (lt_of_cell (hP 0 p hp).1) hP h1 h16 hcap hx hall hnd

end Go.Proofs.Ythkagcelpdcfkaa
