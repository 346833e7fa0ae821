/- Neville's scheme through points of a polynomial; uniqueness; interpolation exists. No program in sight. -/
import Derived.Test.YthkagcelpdcfkaaPoly
namespace Go.Proofs.Ythkagcelpdcfkaa

def nodes (ps : List (Int × Int)) (j k : Nat) : List F := ((ps.drop j).take k).map fun p => phi p.1

theorem nodes_cons (ps : List (Int × Int)) (j k : Nat) (p : Int × Int) (h : ps[j]? = some p) : nodes ps j (k + 1) = phi p.1 :: nodes ps (j + 1) k := by
  obtain ⟨hj, rfl⟩ := List.getElem?_eq_some_iff.1 h
  unfold nodes
  rw [List.drop_eq_getElem_cons hj]; rfl

theorem nodes_snoc (ps : List (Int × Int)) (j k : Nat) (p : Int × Int) (h : ps[j + k]? = some p) : nodes ps j (k + 1) = nodes ps j k ++ [phi p.1] := by
  unfold nodes
  rw [take_snoc (ps.drop j) k p (by rw [List.getElem?_drop]; exact h)]; simp

/-- The list of a slice of points: elements of the field, different places. -/
structure Good (ps : List (Int × Int)) : Prop where
  elems : ∀ p, p ∈ ps → elemB p.1 = true ∧ elemB p.2 = true
  nodup : (ps.map (·.1)).Nodup

theorem nev_alg (f x a b u vi vj m d1 d2 d3 : F) (hu : u * (a - b) = 1) (i1 : f - vi = (x - a) * m * d1) (i2 : f - vj = m * ((x - b) * 1) * d2) (h4 : (a - b) * d3 = d1 - d2) :
    f - ((x - b) * vi - (x - a) * vj) * u = (x - a) * (m * ((x - b) * 1)) * d3 := by
  have e1 : f - ((x - b) * vi - (x - a) * vj) * u = ((x - b) * (f - vi) - (x - a) * (f - vj)) * u + f * (1 - u * (a - b)) := by grind
  rw [e1, i1, i2, hu]
  have e2 : ((x - b) * ((x - a) * m * d1) - (x - a) * (m * ((x - b) * 1) * d2)) * u + f * (1 - 1) = (x - a) * m * (x - b) * u * (d1 - d2) := by grind
  rw [e2, ← h4]
  have e3 : (x - a) * m * (x - b) * u * ((a - b) * d3) = (x - a) * m * (x - b) * (u * (a - b)) * d3 := by grind
  rw [e3, hu]; grind

theorem neville (ps : List (Int × Int)) (hg : Good ps) (C : List F) (hC : ∀ p, p ∈ ps → phi p.2 = ev C (phi p.1)) (x : Int) :
    ∀ k j, j + k < ps.length → ev C (phi x) - phi (nv x ps k j) = prd (phi x) (nodes ps j (k + 1)) * dd C (nodes ps j (k + 1) ++ [phi x]) := by
  intro k
  induction k with
  | zero =>
    intro j hj
    obtain ⟨p, hp⟩ := get_some ps j (by omega)
    have h1 := hC p (List.mem_of_getElem? hp)
    have h2 := dd_step C (phi x) (phi p.1) []
    rw [nodes_cons ps j 0 p hp]
    simp only [nv, hp, Option.getD_some, nodes, List.take_zero, List.map_nil, List.cons_append, List.nil_append, prd]
    rw [dd_one, dd_one] at h2
    rw [h1, dd_swap]
    grind
  | succ k ih =>
    intro j hj
    obtain ⟨p, hp⟩ := get_some ps j (by omega)
    obtain ⟨q, hq⟩ := get_some ps (j + (k + 1)) (by omega)
    have i1 := ih j (by omega)
    have i2 := ih (j + 1) (by omega)
    have hne : p.1 ≠ q.1 := nodup_ne hg.nodup j (j + (k + 1)) _ _ (by simp [hp]) (by simp [hq]) (by omega)
    have hpe := (elemB_iff _).1 (hg.elems p (List.mem_of_getElem? hp)).1
    have hqe := (elemB_iff _).1 (hg.elems q (List.mem_of_getElem? hq)).1
    have hm := mns_range p.1 q.1
    have hmp := mns_pos p.1 q.1 hpe.1 hpe.2 hqe.1 hqe.2 hne
    have hu := phi_inv (mns p.1 q.1) hmp hm.2
    rw [phi_mns] at hu
    have hn : phi (nv x ps (k + 1) j) = ((phi x - phi q.1) * phi (nv x ps k j) - (phi x - phi p.1) * phi (nv x ps k (j + 1))) * phi (invp (mns p.1 q.1)) := by
      simp only [nv, hp, hq, Option.getD_some, nst]
      rw [phi_emod, phi_mul, phi_mns, phi_emod, phi_emod, phi_mul, phi_mul, phi_mns, phi_mns]
    rw [nodes_cons ps j k p hp] at i1
    rw [nodes_snoc ps (j + 1) k q (by rw [show j + 1 + k = j + (k + 1) by omega]; exact hq)] at i2
    have e3 : nodes ps j (k + 1 + 1) = phi p.1 :: (nodes ps (j + 1) k ++ [phi q.1]) := by
      rw [nodes_cons ps j (k + 1) p hp, nodes_snoc ps (j + 1) k q (by rw [show j + 1 + k = j + (k + 1) by omega]; exact hq)]
    rw [e3, hn]
    generalize nodes ps (j + 1) k = M at *
    have p1 : dd C (phi p.1 :: (M ++ [phi q.1]) ++ [phi x]) = dd C (phi p.1 :: phi q.1 :: (M ++ [phi x])) := by
      apply dd_perm
      rw [List.cons_append, List.append_assoc]
      exact List.Perm.cons _ (by simp)
    have p2 : dd C (M ++ [phi q.1] ++ [phi x]) = dd C (phi q.1 :: (M ++ [phi x])) := by
      apply dd_perm
      rw [List.append_assoc]
      simp
    have h4 := dd_step C (phi p.1) (phi q.1) (M ++ [phi x])
    rw [p1]
    rw [p2, prd_append] at i2
    simp only [prd, List.cons_append] at i1 i2 ⊢
    rw [prd_append]
    simp only [prd]
    exact nev_alg _ _ _ _ _ _ _ _ _ _ _ hu i1 i2 h4

/-- Interpolation through at least as many points of a polynomial as it has coefficients gives its values. -/
theorem nv_ev (ps : List (Int × Int)) (hg : Good ps) (C : List F) (hC : ∀ p, p ∈ ps → phi p.2 = ev C (phi p.1)) (x : Int) (hl : C.length ≤ ps.length) (h0 : 0 < ps.length) :
    phi (nv x ps (ps.length - 1) 0) = ev C (phi x) := by
  have h := neville ps hg C hC x (ps.length - 1) 0 (by omega)
  have hn : (nodes ps 0 (ps.length - 1 + 1)).length = ps.length := by
    unfold nodes
    rw [List.drop_zero, List.length_map, List.length_take]; omega
  rw [dd_long C _ (by rw [List.length_append, hn]; simp; omega)] at h
  grind

theorem nv_evp (ps : List (Int × Int)) (hg : Good ps) (c : List Int) (hC : ∀ p, p ∈ ps → p.2 = evp c p.1) (x : Int) (hl : c.length ≤ ps.length) (h0 : 0 < ps.length) :
    nv x ps (ps.length - 1) 0 = evp c x := by
  have h := nv_ev ps hg (c.map phi) (fun p hp => by rw [← phi_evp, ← hC p hp]) x (by simpa using hl) h0
  rw [← phi_evp] at h
  have r1 := nv_range x ps hg.elems (ps.length - 1) 0
  have r2 := evp_range c x
  exact phi_inj r1.1 r1.2 r2.1 r2.2 h

/-! ### interpolation exists -/
def addP : List F → List F → List F
  | [], m => m
  | a :: l, [] => a :: l
  | a :: l, b :: m => (a + b) :: addP l m
theorem ev_addP (l m : List F) (x : F) : ev (addP l m) x = ev l x + ev m x := by
  induction l generalizing m with
  | nil => simp only [addP, ev]; grind
  | cons a l ih =>
    cases m with
    | nil => simp only [addP, ev]; grind
    | cons b m => simp only [addP, ev, ih]; grind
theorem length_addP (l m : List F) (n : Nat) (h1 : l.length ≤ n) (h2 : m.length ≤ n) : (addP l m).length ≤ n := by
  induction l generalizing m n with
  | nil => exact h2
  | cons a l ih =>
    cases m with
    | nil => exact h1
    | cons b m =>
      cases n with
      | zero => simp at h1
      | succ n => simp only [addP, List.length_cons] at *; have := ih m n (by omega) (by omega); omega
theorem ev_smul (c : F) (l : List F) (x : F) : ev (l.map (c * ·)) x = c * ev l x := by
  induction l with
  | nil => simp only [List.map_nil, ev]; grind
  | cons a l ih => simp only [List.map_cons, ev, ih]; grind

/-- The polynomial that is zero at the nodes. -/
def zeroP : List F → List F
  | [] => [1]
  | a :: S => addP (0 :: zeroP S) ((zeroP S).map ((-a) * ·))
theorem ev_zeroP (S : List F) (x : F) : ev (zeroP S) x = prd x S := by
  induction S with
  | nil => simp only [zeroP, ev, prd]; grind
  | cons a S ih => simp only [zeroP, ev_addP, ev_smul, ev, ih, prd]; grind
theorem length_zeroP (S : List F) : (zeroP S).length ≤ S.length + 1 := by
  induction S with
  | nil => simp [zeroP]
  | cons a S ih =>
    simp only [zeroP, List.length_cons]
    exact length_addP _ _ _ (by simp; omega) (by simp; omega)
theorem prd_ne (x : F) (S : List F) (h : ∀ a, a ∈ S → x ≠ a) : prd x S ≠ 0 := by
  induction S with
  | nil => simp only [prd]; decide
  | cons a S ih =>
    intro e
    simp only [prd] at e
    have h1 : x - a ≠ 0 := fun h0 => h a (by simp) (by grind)
    exact ih (fun b hb => h b (by simp [hb])) (f_cancel _ _ h1 e)
theorem prd_zero (x : F) (S : List F) (h : x ∈ S) : prd x S = 0 := by
  induction S with
  | nil => cases h
  | cons a S ih =>
    simp only [prd]
    rcases List.mem_cons.1 h with rfl | h
    · grind
    · rw [ih h]; grind

theorem interp_exists (ps : List (F × F)) (hnd : (ps.map (·.1)).Nodup) : ∃ C : List F, C.length ≤ ps.length ∧ ∀ p, p ∈ ps → ev C p.1 = p.2 := by
  induction ps with
  | nil => exact ⟨[], by simp, by simp⟩
  | cons p ps ih =>
    rw [List.map_cons, List.nodup_cons] at hnd
    obtain ⟨C, hl, hC⟩ := ih hnd.2
    have hne : prd p.1 (ps.map (·.1)) ≠ 0 := prd_ne _ _ fun a ha e => hnd.1 (e ▸ ha)
    obtain ⟨u, hu⟩ := f_inv _ hne
    refine ⟨addP C ((zeroP (ps.map (·.1))).map (((p.2 - ev C p.1) * u) * ·)), length_addP _ _ _ (by simp; omega) (by have := length_zeroP (ps.map (·.1)); simp at this ⊢; omega), ?_⟩
    intro q hq
    rw [ev_addP, ev_smul, ev_zeroP]
    rcases List.mem_cons.1 hq with rfl | hq
    · grind
    · rw [hC q hq, prd_zero _ _ (List.mem_map_of_mem hq)]; grind

end Go.Proofs.Ythkagcelpdcfkaa
