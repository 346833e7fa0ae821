/- Several texts in one: Poly, Poly2, JoinL. -/
-- merged
import Derived.Test.YtbefcipeojahfaaGreatDoorJoin
namespace Go.Proofs.YtbefcipeojahfaaGreatDoor

section
abbrev F := Fin 2147483647

def phi (a : Int) : F := ⟨(a % 2147483647).toNat, by omega⟩

theorem phi_add (a b : Int) : phi (a + b) = phi a + phi b := by
  apply Fin.ext
  rw [Fin.val_add]
  simp only [phi]; omega
theorem phi_sub (a b : Int) : phi (a - b) = phi a - phi b := by
  have h : phi (a - b) + phi b = phi a := by rw [← phi_add]; congr 1; omega
  rw [← h]; grind
theorem phi_mul (a b : Int) : phi (a * b) = phi a * phi b := by
  apply Fin.ext
  rw [Fin.val_mul]
  simp only [phi]
  have h0 : 0 ≤ a % 2147483647 := by omega
  have h1 : 0 ≤ b % 2147483647 := by omega
  obtain ⟨m, hm⟩ := Int.eq_ofNat_of_zero_le h0
  obtain ⟨n, hn⟩ := Int.eq_ofNat_of_zero_le h1
  rw [Int.mul_emod, hm, hn]
  simp only [Int.toNat_natCast]
  omega
theorem phi_emod (a : Int) : phi (a % 2147483647) = phi a := by
  apply Fin.ext
  simp only [phi]; omega
theorem phi_p : phi 2147483647 = 0 := rfl
theorem phi_zero : phi 0 = 0 := rfl
theorem phi_one : phi 1 = 1 := rfl
theorem phi_inj {a b : Int} (ha : 0 ≤ a) (ha' : a < 2147483647) (hb : 0 ≤ b) (hb' : b < 2147483647) (h : phi a = phi b) : a = b := by
  have := congrArg Fin.val h
  simp only [phi] at this; omega
theorem phi_mns (a b : Int) : phi (mns a b) = phi a - phi b := by
  unfold mns
  rw [phi_emod, phi_add, phi_sub, phi_p]; grind

theorem phi_inv (a : Int) (h0 : 0 < a) (h1 : a < 2147483647) : phi (invp a) * phi a = 1 := by
  rw [← phi_mul, ← phi_emod, (invp_spec a h0 h1).2.2]; rfl

theorem phi_ne {a b : Int} (ha : 0 ≤ a) (ha' : a < 2147483647) (hb : 0 ≤ b) (hb' : b < 2147483647) (h : a ≠ b) : phi a ≠ phi b := fun e => h (phi_inj ha ha' hb hb' e)

theorem phi_surj (x : F) : ∃ a : Int, 0 ≤ a ∧ a < 2147483647 ∧ phi a = x :=
  ⟨(x.val : Int), by omega, by omega, by apply Fin.ext; simp only [phi]; omega⟩

/-- In the field: an element that isn't 0 has an inverse. -/
theorem f_inv (x : F) (h : x ≠ 0) : ∃ y : F, y * x = 1 := by
  obtain ⟨a, a0, a1, rfl⟩ := phi_surj x
  have : a ≠ 0 := fun e => h (by rw [e]; rfl)
  exact ⟨_, phi_inv a (by omega) a1⟩

theorem f_cancel (x y : F) (h : x ≠ 0) (e : x * y = 0) : y = 0 := by
  obtain ⟨z, hz⟩ := f_inv x h
  have : z * (x * y) = 0 := by rw [e]; grind
  have e2 : z * (x * y) = (z * x) * y := by grind
  rw [e2, hz] at this; grind

/-- The value of a polynomial, the constant first. -/
def ev : List F → F → F
  | [], _ => 0
  | c :: l, x => ev l x * x + c

theorem phi_evp (l : List Int) (x : Int) : phi (evp l x) = ev (l.map phi) (phi x) := by
  induction l with
  | nil => rfl
  | cons c l ih => rw [evp, phi_emod, phi_add, phi_mul, ih]; rfl

/-- Divided differences. -/
def dd : List F → List F → F
  | [], _ => 0
  | _ :: _, [] => 0
  | c :: l, [a] => c + a * dd l [a]
  | _ :: l, a :: b :: T => a * dd l (a :: b :: T) + dd l (b :: T)

theorem dd_nil (S : List F) : dd [] S = 0 := by cases S <;> rfl
theorem dd_none (cs : List F) : dd cs [] = 0 := by cases cs <;> rfl
theorem dd_one (cs : List F) (x : F) : dd cs [x] = ev cs x := by
  induction cs with
  | nil => rfl
  | cons c l ih => rw [dd, ih, ev]; grind

theorem dd_step (cs : List F) (a b : F) (T : List F) : (a - b) * dd cs (a :: b :: T) = dd cs (a :: T) - dd cs (b :: T) := by
  induction cs generalizing T with
  | nil => simp only [dd_nil]; grind
  | cons c l ih =>
    cases T with
    | nil => have := ih []; simp only [dd] at *; grind
    | cons t T => have := ih (t :: T); simp only [dd] at *; grind

theorem dd_swap (cs : List F) (a b : F) (T : List F) : dd cs (a :: b :: T) = dd cs (b :: a :: T) := by
  induction cs generalizing T with
  | nil => rfl
  | cons c l ih => have h1 := ih T; have h2 := dd_step l a b T; simp only [dd]; grind

theorem dd_perm {S S' : List F} (h : S.Perm S') : ∀ cs, dd cs S = dd cs S' := by
  induction h with
  | nil => intro cs; rfl
  | swap a b l => intro cs; exact dd_swap cs b a l
  | trans _ _ h1 h2 => intro cs; exact (h1 cs).trans (h2 cs)
  | @cons a S S' hp ih =>
    intro cs
    induction cs with
    | nil => simp only [dd_nil]
    | cons c l ihl =>
      cases S with
      | nil => rw [List.nil_perm.1 hp]
      | cons s S =>
        cases S' with
        | nil => exact absurd hp (by simp)
        | cons s' S' => simp only [dd]; rw [ihl, ih l]

theorem dd_long (cs S : List F) (h : cs.length < S.length) : dd cs S = 0 := by
  induction cs generalizing S with
  | nil => exact dd_nil S
  | cons c l ih =>
    match S, h with
    | [a], h => simp at h
    | a :: b :: T, h => simp only [dd]; rw [ih (a :: b :: T) (by simp at h ⊢; omega), ih (b :: T) (by simp at h ⊢; omega)]; grind

def prd (x : F) : List F → F
  | [] => 1
  | a :: l => (x - a) * prd x l

theorem prd_append (x : F) (l m : List F) : prd x (l ++ m) = prd x l * prd x m := by
  induction l with
  | nil => simp only [List.nil_append, prd]; grind
  | cons a l ih => simp only [List.cons_append, prd, ih]; grind
end

section
def nodes (ps : List (Int × Int)) (j k : Nat) : List F := ((ps.drop j).take k).map fun p => phi p.1

theorem nodes_cons (ps : List (Int × Int)) (j k : Nat) (p : Int × Int) (h : ps[j]? = some p) : nodes ps j (k + 1) = phi p.1 :: nodes ps (j + 1) k := by
  obtain ⟨hj, rfl⟩ := List.getElem?_eq_some_iff.1 h
  unfold nodes
  rw [List.drop_eq_getElem_cons hj]; rfl

theorem nodes_snoc (ps : List (Int × Int)) (j k : Nat) (p : Int × Int) (h : ps[j + k]? = some p) : nodes ps j (k + 1) = nodes ps j k ++ [phi p.1] := by
  unfold nodes
  rw [take_snoc (ps.drop j) k p (by rw [List.getElem?_drop]; exact h)]; simp

/-- The list of a slice of points: elements of the field, different places. -/
structure Good (ps : List (Int × Int)) : Prop where
  elems : ∀ p, p ∈ ps → elemB p.1 = true ∧ elemB p.2 = true
  nodup : (ps.map (·.1)).Nodup

theorem nev_alg (f x a b u vi vj m d1 d2 d3 : F) (hu : u * (a - b) = 1) (i1 : f - vi = (x - a) * m * d1) (i2 : f - vj = m * ((x - b) * 1) * d2) (h4 : (a - b) * d3 = d1 - d2) :
    f - ((x - b) * vi - (x - a) * vj) * u = (x - a) * (m * ((x - b) * 1)) * d3 := by
  have e1 : f - ((x - b) * vi - (x - a) * vj) * u = ((x - b) * (f - vi) - (x - a) * (f - vj)) * u + f * (1 - u * (a - b)) := by grind
  rw [e1, i1, i2, hu]
  have e2 : ((x - b) * ((x - a) * m * d1) - (x - a) * (m * ((x - b) * 1) * d2)) * u + f * (1 - 1) = (x - a) * m * (x - b) * u * (d1 - d2) := by grind
  rw [e2, ← h4]
  have e3 : (x - a) * m * (x - b) * u * ((a - b) * d3) = (x - a) * m * (x - b) * (u * (a - b)) * d3 := by grind
  rw [e3, hu]; grind

theorem neville (ps : List (Int × Int)) (hg : Good ps) (C : List F) (hC : ∀ p, p ∈ ps → phi p.2 = ev C (phi p.1)) (x : Int) :
    ∀ k j, j + k < ps.length → ev C (phi x) - phi (nv x ps k j) = prd (phi x) (nodes ps j (k + 1)) * dd C (nodes ps j (k + 1) ++ [phi x]) := by
  intro k
  induction k with
  | zero =>
    intro j hj
    obtain ⟨p, hp⟩ := get_some ps j (by omega)
    have h1 := hC p (List.mem_of_getElem? hp)
    have h2 := dd_step C (phi x) (phi p.1) []
    rw [nodes_cons ps j 0 p hp]
    simp only [nv, hp, Option.getD_some, nodes, List.take_zero, List.map_nil, List.cons_append, List.nil_append, prd]
    rw [dd_one, dd_one] at h2
    rw [h1, dd_swap]
    grind
  | succ k ih =>
    intro j hj
    obtain ⟨p, hp⟩ := get_some ps j (by omega)
    obtain ⟨q, hq⟩ := get_some ps (j + (k + 1)) (by omega)
    have i1 := ih j (by omega)
    have i2 := ih (j + 1) (by omega)
    have hne : p.1 ≠ q.1 := nodup_ne hg.nodup j (j + (k + 1)) _ _ (by simp [hp]) (by simp [hq]) (by omega)
    have hpe := (elemB_iff _).1 (hg.elems p (List.mem_of_getElem? hp)).1
    have hqe := (elemB_iff _).1 (hg.elems q (List.mem_of_getElem? hq)).1
    have hm := mns_range p.1 q.1
    have hmp := mns_pos p.1 q.1 hpe.1 hpe.2 hqe.1 hqe.2 hne
    have hu := phi_inv (mns p.1 q.1) hmp hm.2
    rw [phi_mns] at hu
    have hn : phi (nv x ps (k + 1) j) = ((phi x - phi q.1) * phi (nv x ps k j) - (phi x - phi p.1) * phi (nv x ps k (j + 1))) * phi (invp (mns p.1 q.1)) := by
      simp only [nv, hp, hq, Option.getD_some, nst]
      rw [phi_emod, phi_mul, phi_mns, phi_emod, phi_emod, phi_mul, phi_mul, phi_mns, phi_mns]
    rw [nodes_cons ps j k p hp] at i1
    rw [nodes_snoc ps (j + 1) k q (by rw [show j + 1 + k = j + (k + 1) by omega]; exact hq)] at i2
    have e3 : nodes ps j (k + 1 + 1) = phi p.1 :: (nodes ps (j + 1) k ++ [phi q.1]) := by
      rw [nodes_cons ps j (k + 1) p hp, nodes_snoc ps (j + 1) k q (by rw [show j + 1 + k = j + (k + 1) by omega]; exact hq)]
    rw [e3, hn]
    generalize nodes ps (j + 1) k = M at *
    have p1 : dd C (phi p.1 :: (M ++ [phi q.1]) ++ [phi x]) = dd C (phi p.1 :: phi q.1 :: (M ++ [phi x])) := by
      apply dd_perm
      rw [List.cons_append, List.append_assoc]
      exact List.Perm.cons _ (by simp)
    have p2 : dd C (M ++ [phi q.1] ++ [phi x]) = dd C (phi q.1 :: (M ++ [phi x])) := by
      apply dd_perm
      rw [List.append_assoc]
      simp
    have h4 := dd_step C (phi p.1) (phi q.1) (M ++ [phi x])
    rw [p1]
    rw [p2, prd_append] at i2
    simp only [prd, List.cons_append] at i1 i2 ⊢
    rw [prd_append]
    simp only [prd]
    exact nev_alg _ _ _ _ _ _ _ _ _ _ _ hu i1 i2 h4

/-- Interpolation through at least as many points of a polynomial as it has coefficients gives its values. -/
theorem nv_ev (ps : List (Int × Int)) (hg : Good ps) (C : List F) (hC : ∀ p, p ∈ ps → phi p.2 = ev C (phi p.1)) (x : Int) (hl : C.length ≤ ps.length) (h0 : 0 < ps.length) :
    phi (nv x ps (ps.length - 1) 0) = ev C (phi x) := by
  have h := neville ps hg C hC x (ps.length - 1) 0 (by omega)
  have hn : (nodes ps 0 (ps.length - 1 + 1)).length = ps.length := by
    unfold nodes
    rw [List.drop_zero, List.length_map, List.length_take]; omega
  rw [dd_long C _ (by rw [List.length_append, hn]; simp; omega)] at h
  grind

theorem nv_evp (ps : List (Int × Int)) (hg : Good ps) (c : List Int) (hC : ∀ p, p ∈ ps → p.2 = evp c p.1) (x : Int) (hl : c.length ≤ ps.length) (h0 : 0 < ps.length) :
    nv x ps (ps.length - 1) 0 = evp c x := by
  have h := nv_ev ps hg (c.map phi) (fun p hp => by rw [← phi_evp, ← hC p hp]) x (by simpa using hl) h0
  rw [← phi_evp] at h
  have r1 := nv_range x ps hg.elems (ps.length - 1) 0
  have r2 := evp_range c x
  exact phi_inj r1.1 r1.2 r2.1 r2.2 h

/-! ### interpolation exists -/
def addP : List F → List F → List F
  | [], m => m
  | a :: l, [] => a :: l
  | a :: l, b :: m => (a + b) :: addP l m
theorem ev_addP (l m : List F) (x : F) : ev (addP l m) x = ev l x + ev m x := by
  induction l generalizing m with
  | nil => simp only [addP, ev]; grind
  | cons a l ih =>
    cases m with
    | nil => simp only [addP, ev]; grind
    | cons b m => simp only [addP, ev, ih]; grind
theorem length_addP (l m : List F) (n : Nat) (h1 : l.length ≤ n) (h2 : m.length ≤ n) : (addP l m).length ≤ n := by
  induction l generalizing m n with
  | nil => exact h2
  | cons a l ih =>
    cases m with
    | nil => exact h1
    | cons b m =>
      cases n with
      | zero => simp at h1
      | succ n => simp only [addP, List.length_cons] at *; have := ih m n (by omega) (by omega); omega
theorem ev_smul (c : F) (l : List F) (x : F) : ev (l.map (c * ·)) x = c * ev l x := by
  induction l with
  | nil => simp only [List.map_nil, ev]; grind
  | cons a l ih => simp only [List.map_cons, ev, ih]; grind

/-- The polynomial that is zero at the nodes. -/
def zeroP : List F → List F
  | [] => [1]
  | a :: S => addP (0 :: zeroP S) ((zeroP S).map ((-a) * ·))
theorem ev_zeroP (S : List F) (x : F) : ev (zeroP S) x = prd x S := by
  induction S with
  | nil => simp only [zeroP, ev, prd]; grind
  | cons a S ih => simp only [zeroP, ev_addP, ev_smul, ev, ih, prd]; grind
theorem length_zeroP (S : List F) : (zeroP S).length ≤ S.length + 1 := by
  induction S with
  | nil => simp [zeroP]
  | cons a S ih =>
    simp only [zeroP, List.length_cons]
    exact length_addP _ _ _ (by simp; omega) (by simp; omega)
theorem prd_ne (x : F) (S : List F) (h : ∀ a, a ∈ S → x ≠ a) : prd x S ≠ 0 := by
  induction S with
  | nil => simp only [prd]; decide
  | cons a S ih =>
    intro e
    simp only [prd] at e
    have h1 : x - a ≠ 0 := fun h0 => h a (by simp) (by grind)
    exact ih (fun b hb => h b (by simp [hb])) (f_cancel _ _ h1 e)
theorem prd_zero (x : F) (S : List F) (h : x ∈ S) : prd x S = 0 := by
  induction S with
  | nil => cases h
  | cons a S ih =>
    simp only [prd]
    rcases List.mem_cons.1 h with rfl | h
    · grind
    · rw [ih h]; grind

theorem interp_exists (ps : List (F × F)) (hnd : (ps.map (·.1)).Nodup) : ∃ C : List F, C.length ≤ ps.length ∧ ∀ p, p ∈ ps → ev C p.1 = p.2 := by
  induction ps with
  | nil => exact ⟨[], by simp, by simp⟩
  | cons p ps ih =>
    rw [List.map_cons, List.nodup_cons] at hnd
    obtain ⟨C, hl, hC⟩ := ih hnd.2
    have hne : prd p.1 (ps.map (·.1)) ≠ 0 := prd_ne _ _ fun a ha e => hnd.1 (e ▸ ha)
    obtain ⟨u, hu⟩ := f_inv _ hne
    refine ⟨addP C ((zeroP (ps.map (·.1))).map (((p.2 - ev C p.1) * u) * ·)), length_addP _ _ _ (by simp; omega) (by have := length_zeroP (ps.map (·.1)); simp at this ⊢; omega), ?_⟩
    intro q hq
    rw [ev_addP, ev_smul, ev_zeroP]
    rcases List.mem_cons.1 hq with rfl | hq
    · grind
    · rw [hC q hq, prd_zero _ _ (List.mem_map_of_mem hq)]; grind
end

section
/-- A list of shares of the polynomial p at different places. -/
structure On (p : List Int) (l : List (Int × Int)) : Prop where
  place : ∀ s, s ∈ l → 1 ≤ s.1 ∧ s.1 ≤ 16
  value : ∀ s, s ∈ l → s.2 = evp p s.1
  nodup : (l.map (·.1)).Nodup

theorem On.valid {p : List Int} {l : List (Int × Int)} (h : On p l) : l.all validB = true := by
  rw [List.all_eq_true]
  intro s hs
  rw [validB_iff, elemB_iff, h.value s hs]
  have := h.place s hs
  have := evp_range p s.1
  omega

theorem good_of (l : List (Int × Int)) (hv : l.all validB = true) (hn : (l.map (·.1)).Nodup) : Good l :=
  ⟨fun s hs => by
    have := (validB_iff s).1 (List.all_eq_true.1 hv s hs)
    exact ⟨by rw [elemB_iff]; omega, this.2.2⟩, hn⟩

theorem Good.take {l : List (Int × Int)} (h : Good l) (n : Nat) : Good (l.take n) :=
  ⟨fun s hs => h.elems s (List.mem_of_mem_take hs), h.nodup.sublist ((List.take_sublist n l).map _)⟩

theorem On.good {p : List Int} {l : List (Int × Int)} (h : On p l) : Good l := good_of l h.valid h.nodup

theorem On.sublist {p : List Int} {l m : List (Int × Int)} (h : On p l) (hs : m.Sublist l) : On p m :=
  ⟨fun s hm => h.place s (hs.mem hm), fun s hm => h.value s (hs.mem hm), h.nodup.sublist (hs.map _)⟩

theorem On.nv_take {p : List Int} {l : List (Int × Int)} (h : On p l) (hp : p.length ≤ l.length) (h0 : 0 < l.length) (x : Int) : nv x l (l.length - 1) 0 = evp p x :=
  nv_evp l h.good p h.value x hp h0

/-- Enough shares are joined to the constant. -/
theorem joinF_on (p : List Int) (n : Nat) (l : List (Int × Int)) (h : On p l) (hn : 1 ≤ n) (hn' : n ≤ 16) (hp : p.length ≤ n) (hl : n ≤ l.length) : joinF l n = (evp p 0, 0) := by
  have ht : (l.take n).length = n := List.length_take_of_le hl
  have hv : ∀ x, nv x (l.take n) (n - 1) 0 = evp p x := by
    intro x
    have := (h.sublist (List.take_sublist n l)).nv_take (by omega) (by omega) x
    rwa [ht] at this
  rw [joinF_ok l n hn hn' h.valid h.nodup hl (fun s hs => by rw [hv, h.value s (List.mem_of_mem_drop hs)]), hv]

theorem joinF_on_few (p : List Int) (n : Nat) (l : List (Int × Int)) (h : On p l) (hn : 1 ≤ n) (hn' : n ≤ 16) (hl : l.length < n) : joinF l n = (0, 25) :=
  joinF_few l n (by omega) (by omega) h.valid h.nodup (by omega)

/-- More than enough shares, one of them with another value: ErrProof. -/
theorem joinF_on_wrong (p : List Int) (n : Nat) (l : List (Int × Int)) (h : On p l) (hn : 1 ≤ n) (hn' : n ≤ 16) (hp : p.length ≤ n) (hl : n < l.length)
    (k : Nat) (s : Int × Int) (hs : l[k]? = some s) (y : Int) (y0 : 0 ≤ y) (y1 : y < 2147483647) (hy : y ≠ s.2) : joinF (l.set k (s.1, y)) n = (0, 24) := by
  have hk : k < l.length := (List.getElem?_eq_some_iff.1 hs).1
  have hsm := List.mem_of_getElem? hs
  have hmap : (l.set k (s.1, y)).map (·.1) = l.map (·.1) := by
    apply List.ext_getElem?
    intro i
    by_cases hi : i = k
    · subst hi
      rw [List.getElem?_map, List.getElem?_map, hs, List.getElem?_set_self hk]; rfl
    · rw [List.getElem?_map, List.getElem?_map, List.getElem?_set_ne (fun e => hi e.symm)]
  have hv : (l.set k (s.1, y)).all validB = true := by
    rw [List.all_eq_true]
    intro t ht
    rcases List.mem_or_eq_of_mem_set ht with ht | rfl
    · exact List.all_eq_true.1 h.valid t ht
    · have hp := h.place s hsm
      rw [validB_iff, elemB_iff]; simp only; omega
  have hnd : ((l.set k (s.1, y)).map (·.1)).Nodup := by rw [hmap]; exact h.nodup
  have hg := good_of _ hv hnd
  have hlen : (l.set k (s.1, y)).length = l.length := by simp
  have hgk : (l.set k (s.1, y))[k]? = some (s.1, y) := by simp [hk]
  by_cases hall : ∀ t, t ∈ (l.set k (s.1, y)).drop n → nv t.1 ((l.set k (s.1, y)).take n) (n - 1) 0 = t.2
  · exfalso
    generalize hl' : l.set k (s.1, y) = l' at *
    have ht : (l'.take n).length = n := List.length_take_of_le (by omega)
    have hphi : (((l'.take n).map fun p => (phi p.1, phi p.2)).map (·.1)).Nodup := by
      have e : ((l'.take n).map fun p => (phi p.1, phi p.2)).map (·.1) = ((l'.take n).map (·.1)).map phi := by rw [List.map_map, List.map_map]; rfl
      rw [e]
      refine List.pairwise_map.2 (List.Pairwise.imp_of_mem ?_ (hg.take n).nodup)
      intro a b ha hb hab
      obtain ⟨pa, hpa, rfl⟩ := List.mem_map.1 ha
      obtain ⟨pb, hpb, rfl⟩ := List.mem_map.1 hb
      have r1 := (elemB_iff _).1 ((hg.take n).elems pa hpa).1
      have r2 := (elemB_iff _).1 ((hg.take n).elems pb hpb).1
      exact phi_ne r1.1 r1.2 r2.1 r2.2 hab
    obtain ⟨C, hCl, hC⟩ := interp_exists _ hphi
    have hCt : ∀ t, t ∈ l'.take n → phi t.2 = ev C (phi t.1) := fun t ht => (hC _ (List.mem_map_of_mem (f := fun p : Int × Int => (phi p.1, phi p.2)) ht)).symm
    have hnv : ∀ x, phi (nv x (l'.take n) (n - 1) 0) = ev C (phi x) := by
      intro x
      have := nv_ev (l'.take n) (hg.take n) C hCt x (by simpa using hCl) (by omega)
      rwa [ht] at this
    have hCall : ∀ t, t ∈ l' → phi t.2 = ev C (phi t.1) := by
      intro t ht'
      rw [← List.take_append_drop n l'] at ht'
      rcases List.mem_append.1 ht' with h1 | h1
      · exact hCt t h1
      · rw [← hnv, hall t h1]
    -- the others, which lie on p too
    have hsub : ((l'.eraseIdx k).take n).Sublist l' := (List.take_sublist _ _).trans (List.eraseIdx_sublist _ _)
    have hql : ((l'.eraseIdx k).take n).length = n := by
      rw [List.length_take_of_le]; rw [List.length_eraseIdx_of_lt (by omega)]; omega
    have hqon : ∀ t, t ∈ (l'.eraseIdx k).take n → t.2 = evp p t.1 := by
      intro t ht'
      have hm := List.mem_of_mem_take ht'
      obtain ⟨i, hi⟩ := List.getElem?_of_mem hm
      rw [List.getElem?_eraseIdx] at hi
      rw [← hl'] at hi
      split at hi
      · rw [List.getElem?_set_ne (by omega)] at hi
        exact h.value t (List.mem_of_getElem? hi)
      · rw [List.getElem?_set_ne (by omega)] at hi
        exact h.value t (List.mem_of_getElem? hi)
    have hqg : Good ((l'.eraseIdx k).take n) := ⟨fun t ht => hg.elems t (hsub.mem ht), hg.nodup.sublist (hsub.map _)⟩
    have h1 := nv_evp _ hqg p hqon s.1 (by omega) (by omega)
    have h2 := nv_ev _ hqg C (fun t ht => hCall t (hsub.mem ht)) s.1 (by rw [hql]; rw [List.length_map, ht] at hCl; exact hCl) (by omega)
    rw [h1] at h2
    have h3 := hCall (s.1, y) (List.mem_of_getElem? hgk)
    simp only at h3
    rw [← h2, ← h.value s hsm] at h3
    have hr := evp_range p s.1
    rw [← h.value s hsm] at hr
    exact hy (phi_inj y0 y1 hr.1 hr.2 h3)
  · obtain ⟨t, ht⟩ := Classical.not_forall.1 hall
    have ht1 : t ∈ (l.set k (s.1, y)).drop n := Classical.byContradiction fun e => ht fun h' => absurd h' e
    have ht2 : ¬ nv t.1 ((l.set k (s.1, y)).take n) (n - 1) 0 = t.2 := fun e => ht fun _ => e
    obtain ⟨i, hi⟩ := List.getElem?_of_mem ht1
    exact joinF_wrong _ n hn hn' hv hnd (by omega) i t hi ht2
end

end Go.Proofs.YtbefcipeojahfaaGreatDoor
