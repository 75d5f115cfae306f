/-
  Roster: what may be; Join of what may be; what Join never does.
-/
import Derived.Test.YthlfgjlnjmjppaaRosS
namespace Go.Proofs.Ythlfgjlnjmjppaa

/-- members and floors that may be -/
structure MayS (m : List Mem) (f : List ID) : Prop where
  ok : ∀ x ∈ m, okE x = true ∧ x.st ≤ 6 ∧ numT x = true ∧ floorT f x.addr < x.inc
  sorted : m.Pairwise (fun x y => x.addr < y.addr)
  fok : ∀ p ∈ f, mayID p = true
  rising : f.Pairwise (fun p q => p.1 < q.1)
theorem pw_of_next {α : Type} (key : α → Int) (d : α) : ∀ (l : List α), (∀ i, 0 < i → i < l.length → key (l.getD (i - 1) d) < key (l.getD i d)) → l.Pairwise (fun x y => key x < key y)
  | [], _ => List.Pairwise.nil
  | [x], _ => by simp
  | x :: y :: l, h => by
    have ih := pw_of_next key d (y :: l) (fun i h0 hi => by
      have := h (i + 1) (by omega) (by simpa using hi)
      rw [show i + 1 - 1 = (i - 1) + 1 by omega, List.getD_cons_succ, List.getD_cons_succ] at this
      exact this)
    have h1 := h 1 (by omega) (by simp)
    simp only [Nat.sub_self, List.getD_cons_zero, List.getD_cons_succ] at h1
    refine List.pairwise_cons.2 ⟨fun z hz => ?_, ih⟩
    rcases List.mem_cons.1 hz with rfl | hz
    · exact h1
    · have := (List.pairwise_cons.1 ih).1 z hz; omega
theorem next_of_pw {α : Type} {key : α → Int} {d : α} {l : List α} (h : l.Pairwise (fun x y => key x < key y)) {i : Nat} (h0 : 0 < i) (hi : i < l.length) : key (l.getD (i - 1) d) < key (l.getD i d) := by
  have := List.pairwise_iff_getElem.1 h (i - 1) i (by omega) hi (by omega)
  simpa [List.getD, hi, show i - 1 < l.length by omega] using this
theorem mem_getD {α : Type} {l : List α} {d : α} {i : Nat} (h : i < l.length) : l.getD i d ∈ l := by
  simp [List.getD, h]
theorem getD_of_mem {α : Type} {l : List α} {d x : α} (h : x ∈ l) : ∃ i, i < l.length ∧ l.getD i d = x := by
  obtain ⟨i, hi, rfl⟩ := List.mem_iff_getElem.1 h
  exact ⟨i, hi, by simp [List.getD, hi]⟩
theorem mayT_iff {m : List Mem} {f : List ID} : mayT m f = true ↔ MayS m f := by
  simp only [mayT, Bool.and_eq_true, List.all_eq_true, List.mem_range]
  constructor
  · rintro ⟨h1, h2⟩
    refine ⟨fun x hx => ?_, ?_, fun p hp => ?_, ?_⟩
    · obtain ⟨i, hi, rfl⟩ := getD_of_mem (d := zeroMem) hx
      have := h1 i hi
      simp only [okMem, Bool.and_eq_true, decide_eq_true_eq, Bool.not_eq_true', goneT, decide_eq_false_iff_not] at this
      obtain ⟨⟨⟨⟨q1, q2⟩, q3⟩, q4⟩, _⟩ := this
      refine ⟨?_, q2.2, q3, Int.not_le.1 q4⟩
      simp only [okE, Bool.and_eq_true, decide_eq_true_eq]
      exact ⟨q1, by omega⟩
    · refine pw_of_next (fun x : Mem => x.addr) zeroMem m fun i h0 hi => ?_
      have := h1 i hi
      simp only [okMem, Bool.and_eq_true, Bool.or_eq_true, decide_eq_true_eq] at this
      rcases this.2 with q | q
      · omega
      · exact q
    · obtain ⟨i, hi, rfl⟩ := getD_of_mem (d := ((0, 0) : ID)) hp
      have := h2 i hi
      simp only [okFl, Bool.and_eq_true] at this
      exact this.1
    · refine pw_of_next (fun p : ID => p.1) (0, 0) f fun i h0 hi => ?_
      have := h2 i hi
      simp only [okFl, Bool.and_eq_true, Bool.or_eq_true, decide_eq_true_eq] at this
      rcases this.2 with q | q
      · omega
      · exact q
  · intro h
    refine ⟨fun i hi => ?_, fun i hi => ?_⟩
    · obtain ⟨q1, q2, q3, q4⟩ := h.ok _ (mem_getD (d := zeroMem) hi)
      simp only [okE, Bool.and_eq_true, decide_eq_true_eq] at q1
      simp only [okMem, Bool.and_eq_true, Bool.or_eq_true, decide_eq_true_eq, Bool.not_eq_true', goneT, decide_eq_false_iff_not]
      refine ⟨⟨⟨⟨q1.1, by omega⟩, q3⟩, Int.not_le.2 q4⟩, ?_⟩
      by_cases h0 : i = 0
      · exact .inl h0
      · exact .inr (next_of_pw (d := zeroMem) h.sorted (by omega) hi)
    · have q1 := h.fok _ (mem_getD (d := ((0, 0) : ID)) hi)
      simp only [okFl, Bool.and_eq_true, Bool.or_eq_true, decide_eq_true_eq]
      refine ⟨q1, ?_⟩
      by_cases h0 : i = 0
      · exact .inl h0
      · exact .inr (next_of_pw (key := fun p : ID => p.1) (d := ((0, 0) : ID)) h.rising (by omega) hi)
theorem floorT_spec (f : List ID) (a : Int) : 0 ≤ floorT f a ∧ (floorT f a = 0 ∨ (a, floorT f a) ∈ f) ∧ ∀ u, (a, u) ∈ f → u ≤ floorT f a := by
  have h := foldmax (fun p : ID => p.1 = a) (·.2) f 0
  have e : floorT f a = f.foldl (fun n p => if p.1 = a then max n p.2 else n) 0 := rfl
  rw [← e] at h
  refine ⟨h.1, ?_, fun u hu => h.2.2 _ hu rfl⟩
  rcases h.2.1 with q | ⟨⟨b, u⟩, hp, q1, q2⟩
  · exact .inl q
  · simp only at q1 q2
    subst q1
    rw [← q2]
    exact .inr hp
/-- the floor of an address in a Join -/
theorem floor_J (M : List Mem) (F : List ID) (a : Nat) (h1 : 1 ≤ a) (h2 : a ≤ 12) : floorT (J M F).2 (a : Int) = (V M F a).2.1 := by
  obtain ⟨f0, f1, f2⟩ := floorT_spec (J M F).2 (a : Int)
  have hv := (spV M F a).f0
  by_cases hp : 0 < (V M F a).2.1
  · have g := f2 _ (J_fl.2 ⟨a, h1, h2, hp, rfl⟩)
    rcases f1 with q | q
    · omega
    · obtain ⟨b, _, _, _, he⟩ := J_fl.1 q
      injection he with e1 e2
      obtain rfl : a = b := by omega
      exact e2
  · rcases f1 with q | q
    · omega
    · obtain ⟨b, _, _, h3, he⟩ := J_fl.1 q
      injection he with e1 e2
      obtain rfl : a = b := by omega
      exact e2
theorem floor_out (M : List Mem) (F : List ID) (a : Int) (h : a < 1 ∨ 12 < a) : floorT (J M F).2 a = 0 := by
  rcases (floorT_spec (J M F).2 a).2.1 with q | q
  · exact q
  · obtain ⟨b, _, _, _, he⟩ := J_fl.1 q
    injection he with e1 _
    omega
/-- Join of what may be is what it was -/
theorem J_self {m : List Mem} {f : List ID} (h : MayS m f) : J m f = (m, f) := by
  have hok : ∀ x ∈ m, x ∈ m.filter okE := fun x hx => List.mem_filter.2 ⟨hx, (h.ok x hx).1⟩
  have one : ∀ (a : Nat) i st no i' st' no', (⟨(a : Int), i, st, no⟩ : Mem) ∈ m.filter okE → (⟨(a : Int), i', st', no'⟩ : Mem) ∈ m.filter okE → i = i' ∧ st = st' ∧ no = no' := by
    intro a i st no i' st' no' q q'
    have := pw_uniq h.sorted _ (List.mem_filter.1 q).1 _ (List.mem_filter.1 q').1 rfl
    injection this with _ e1 e2 e3
    exact ⟨e1, e2, e3⟩
  -- what is said of an address of a member
  have hx : ∀ (a : Nat) i st no, (⟨(a : Int), i, st, no⟩ : Mem) ∈ m → (V m f a).2.1 < (V m f a).1 ∧ (V m f a).1 = i ∧ (V m f a).2.2.1 = st ∧ (V m f a).2.2.2 = no := by
    intro a i st no hm
    have sp := spV m f a
    obtain ⟨q1, q2, q3, q4⟩ := h.ok _ hm
    have hin := hok _ hm
    generalize V m f a = v at *
    have hb := okE_bd q1
    simp only at hb q2 q4
    have eN : v.1 = i := by
      rcases sp.n1 with q | ⟨st', no', q⟩
      · have := sp.n2 _ _ _ hin; omega
      · exact (one _ _ _ _ _ _ _ q hin).1
    have hF : v.2.1 < v.1 := by
      rcases sp.f1 with q | ⟨st', no', q, r⟩ | q
      · omega
      · obtain ⟨e1, e2, _⟩ := one _ _ _ _ _ _ _ q hin
        rcases r with r | r <;> omega
      · have := (floorT_spec f (a : Int)).2.2 _ q.1; omega
    have eS : v.2.2.1 = st := by
      rcases sp.s1 with q | ⟨no', q⟩
      · have := sp.s2 st no (by rw [eN]; exact hin); omega
      · exact (one _ _ _ _ _ _ _ q hin).2.1
    refine ⟨hF, eN, eS, ?_⟩
    rcases sp.m1 with q | ⟨st', q⟩
    · have h2 := sp.m2 q st no (by rw [eN]; exact hin)
      have h3 : 0 ≤ no := by
        simp only [numT] at q3
        split at q3
        · have := of_decide_eq_true q3; omega
        · split at q3 <;> (have := of_decide_eq_true q3; omega)
      omega
    · exact (one _ _ _ _ _ _ _ q hin).2.2
  apply Prod.ext
  · refine pw_ext (key := fun x : Mem => x.addr) (J_sorted m f) h.sorted fun x => ⟨fun q => ?_, fun q => ?_⟩
    · obtain ⟨a, _, _, h3, rfl⟩ := J_mem.1 q
      rcases (spV m f a).n1 with z | ⟨st, no, z⟩
      · have := (spV m f a).f0; omega
      · have hm := (List.mem_filter.1 z).1
        obtain ⟨_, e1, e2, e3⟩ := hx _ _ _ _ hm
        rw [e2, e3]; exact hm
    · have hb := okE_bd (h.ok x q).1
      obtain ⟨b, i, st, no⟩ := x
      simp only at hb
      obtain ⟨a, rfl⟩ := Int.eq_ofNat_of_zero_le (show 0 ≤ b by omega)
      obtain ⟨h3, e1, e2, e3⟩ := hx _ _ _ _ q
      exact J_mem.2 ⟨a, by omega, by omega, h3, by rw [e1, e2, e3]⟩
  · refine pw_ext (key := fun p : ID => p.1) (J_rising m f) h.rising fun p => ⟨fun q => ?_, fun q => ?_⟩
    · obtain ⟨a, _, _, h3, rfl⟩ := J_fl.1 q
      rcases (spV m f a).f1 with z | ⟨st, no, z, r⟩ | z
      · omega
      · have hm := (List.mem_filter.1 z).1
        obtain ⟨q1, e1, e2, _⟩ := hx _ _ _ _ hm
        omega
      · exact z.1
    · have hm := h.fok p q
      obtain ⟨b, u⟩ := p
      have hb : 1 ≤ b ∧ b ≤ 12 ∧ 1 ≤ u ∧ u ≤ 1048576 := by simpa [mayID] using hm
      obtain ⟨a, rfl⟩ := Int.eq_ofNat_of_zero_le (show 0 ≤ b by omega)
      have h3 := (spV m f a).f3 u ⟨q, hm⟩
      have e : (V m f a).2.1 = u := by
        rcases (spV m f a).f1 with z | ⟨st, no, z, r⟩ | z
        · omega
        · have hm := (List.mem_filter.1 z).1
          obtain ⟨q1, e1, e2, _⟩ := hx _ _ _ _ hm
          omega
        · have := pw_uniq h.rising _ z.1 _ q rfl
          injection this
      exact J_fl.2 ⟨a, by omega, by omega, by omega, by rw [e]⟩
theorem join_own (a : LI) (h : MayS a.1 a.2) : joinL a a = a := by
  rw [joinL_eq, J_congr (M' := a.1) (F' := a.2) (fun x => by rw [List.mem_append, or_self]) (fun x => by rw [List.mem_append, or_self]), J_self h]
theorem join_empty (a : LI) (h : MayS a.1 a.2) : joinL a ([], []) = a := by
  rw [joinL_eq, List.append_nil, List.append_nil, J_self h]

/-- Join of what may be may be -/
theorem J_mayS {M : List Mem} {F : List ID} (h : ∀ x ∈ M, numT x = true) : MayS (J M F).1 (J M F).2 := by
  refine ⟨fun x hx => ?_, J_sorted M F, fun p hp => J_may hp, J_rising M F⟩
  obtain ⟨q1, q2⟩ := J_ok hx
  obtain ⟨a, h1, h2, h3, rfl⟩ := J_mem.1 hx
  refine ⟨q1, q2, ?_, by rw [floor_J M F a h1 h2]; exact h3⟩
  have sp := spV M F a
  generalize V M F a = v at *
  have num : ∀ st no, (⟨(a : Int), v.1, st, no⟩ : Mem) ∈ M.filter okE → (0 ≤ no ∧ no ≤ 1099511627776) ∧ (st ≤ 2 → no = 0) ∧ (st = 3 ∨ st = 4 → 1 ≤ no) := by
    intro st no q
    have hb := okE_bd (List.mem_filter.1 q).2
    have := h _ (List.mem_filter.1 q).1
    simp only at hb
    simp only [numT] at this
    split at this
    · have := of_decide_eq_true this; omega
    · split at this <;> (have := of_decide_eq_true this; omega)
  have hb := okE_bd q1
  simp only at hb q2
  have n0 : 0 ≤ v.2.2.2 ∧ v.2.2.2 ≤ 1099511627776 := by
    refine ⟨sp.m0, ?_⟩
    rcases sp.m1 with q | ⟨st, q⟩
    · omega
    · exact (num _ _ q).1.2
  obtain ⟨no, hs⟩ : ∃ no, (⟨(a : Int), v.1, v.2.2.1, no⟩ : Mem) ∈ M.filter okE := by
    rcases sp.s1 with q | q
    · omega
    · exact q
  simp only [numT]
  split
  · rename_i hc
    refine decide_eq_true ?_
    rcases sp.m1 with q | ⟨st, q⟩
    · exact q
    · have := sp.s2 _ _ q
      exact (num _ _ q).2.1 (by omega)
  · split
    · rename_i hc
      refine decide_eq_true ⟨?_, n0.2⟩
      have h1 := (num _ _ hs).2.2 hc
      by_cases hz : v.2.2.2 = 0
      · have := sp.m2 hz _ _ hs; omega
      · have := n0.1; omega
    · exact decide_eq_true n0
theorem join_mayS (a b : LI) (ha : MayS a.1 a.2) (hb : MayS b.1 b.2) : MayS (joinL a b).1 (joinL a b).2 := by
  rw [joinL_eq]
  refine J_mayS fun x hx => ?_
  rcases List.mem_append.1 hx with h | h
  · exact (ha.ok x h).2.2.1
  · exact (hb.ok x h).2.2.1
/-- a member with a number that it may have -/
def fixNo (x : Mem) : Mem := { x with no := if x.st = 3 ∨ x.st = 4 then 1 else 0 }
theorem fix_num (x : Mem) : numT (fixNo x) = true := by
  obtain ⟨a, i, s, n⟩ := x
  by_cases c2 : s = 3 ∨ s = 4
  · have c1 : ¬ (s = 1 ∨ s = 2) := by omega
    simp [numT, fixNo, c1, c2]
  · by_cases c1 : s = 1 ∨ s = 2 <;> simp [numT, fixNo, c1, c2]
theorem fix_may (M : List Mem) (F : List ID) : MayS ((J M F).1.map fixNo) (J M F).2 := by
  refine ⟨fun x hx => ?_, ?_, fun p hp => J_may hp, J_rising M F⟩
  · obtain ⟨y, hy, rfl⟩ := List.mem_map.1 hx
    obtain ⟨q1, q2⟩ := J_ok hy
    obtain ⟨a, h1, h2, h3, rfl⟩ := J_mem.1 hy
    refine ⟨q1, q2, ?_, by simp only [fixNo]; rw [floor_J M F a h1 h2]; exact h3⟩
    exact fix_num _
  · rw [List.pairwise_map]
    exact J_sorted M F
end Go.Proofs.Ythlfgjlnjmjppaa
