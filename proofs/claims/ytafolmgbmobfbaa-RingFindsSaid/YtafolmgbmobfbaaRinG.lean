/-
  RingFinds: plain laws, and how the slice of slices lies.
-/
import Derived.Test.YtafolmgbmobfbaaRinBehind
namespace Go.Proofs.Ytafolmgbmobfbaa
open Go.RowKit

def selP (nodes : List Int) (k : Nat) : Prop := k < nodes.length ∧ (nodes.getD k 0).tmod 2 = 1
instance (nodes : List Int) (k : Nat) : Decidable (selP nodes k) := by unfold selP; exact inferInstance
/-- the nodes among the first k IDs -/
def hereK (ids : List ID) (nodes : List Int) : Nat → List ID
  | 0 => []
  | k + 1 => if selP nodes k then hereK ids nodes k ++ [ids.getD k (0, 0)] else hereK ids nodes k
theorem hereK_sub (ids : List ID) (nodes : List Int) : ∀ k, k ≤ ids.length → ∀ x ∈ hereK ids nodes k, x ∈ ids
  | 0, _, x, h => by cases h
  | k + 1, hk, x, h => by
    unfold hereK at h
    split at h
    · rcases List.mem_append.1 h with h | h
      · exact hereK_sub ids nodes k (by omega) x h
      · rw [List.mem_singleton] at h
        rw [h]
        simp [List.getD, (by omega : k < ids.length)]
    · exact hereK_sub ids nodes k (by omega) x h
theorem hereK_len (ids : List ID) (nodes : List Int) : ∀ k, (hereK ids nodes k).length ≤ k
  | 0 => Nat.le_refl _
  | k + 1 => by
    have := hereK_len ids nodes k
    unfold hereK
    split
    · simp; omega
    · omega
theorem finK_len (here : List ID) : ∀ (w not : List ID), (finK here not w).length ≤ not.length + w.length
  | [], not => by simp [finK]
  | y :: w, not => by
    have ih := finK_len here w (if y ∈ here then not else setM (not ++ [y]))
    unfold finK at ih ⊢
    rw [List.foldl_cons]
    refine Nat.le_trans ih ?_
    have := setM_len (not ++ [y])
    rw [List.length_append] at this
    split <;> simp at * <;> omega
theorem nkM_len (ids here : List ID) (n : Int) (me : ID) : ∀ r, (nkM ids here n me r).length ≤ r * ids.length
  | 0 => by simp [nkM]
  | r + 1 => by
    rw [nkM]
    refine Nat.le_trans (finK_len _ _ _) ?_
    have h1 := nkM_len ids here n me r
    have h2 := watM_bound (nkM ids here n me r) ids me n
    rw [Nat.add_mul]
    omega
theorem finK_next {here not w : List ID} {i : Nat} (hi : i < w.length) : finK here not (w.take (i + 1)) = if w.getD i (0, 0) ∈ here then finK here not (w.take i) else setM (finK here not (w.take i) ++ [w.getD i (0, 0)]) := by
  unfold finK
  rw [List.take_succ_eq_append_getElem hi, List.foldl_append]
  simp [List.getD, hi]
/-- what was found -/
def foundK (F : Nat → List ID) : Nat → List ID
  | 0 => []
  | k + 1 => setM (foundK F k ++ F k)
theorem foundK_mem (F : Nat → List ID) (x : ID) : ∀ k, x ∈ foundK F k ↔ ∃ j, j < k ∧ x ∈ F j
  | 0 => by simp [foundK]
  | k + 1 => by
    unfold foundK
    rw [setM_mem, List.mem_append, foundK_mem F x k]
    constructor
    · rintro (⟨j, h1, h2⟩ | h)
      · exact ⟨j, by omega, h2⟩
      · exact ⟨k, by omega, h⟩
    · rintro ⟨j, h1, h2⟩
      by_cases e : j = k
      · subst e; exact .inr h2
      · exact .inl ⟨j, by omega, h2⟩
theorem foundK_len (F : Nat → List ID) (m : Nat) (hF : ∀ j, (F j).length ≤ m) : ∀ k, (foundK F k).length ≤ k * m
  | 0 => by simp [foundK]
  | k + 1 => by
    unfold foundK
    refine Nat.le_trans (setM_len _) ?_
    rw [List.length_append, Nat.add_mul]
    have := foundK_len F m hF k
    have := hF k
    omega
/-- the IDs without the first k nodes -/
def wantK (ids here : List ID) : Nat → List ID
  | 0 => ids
  | k + 1 => delM (wantK ids here k) (here.getD k (0, 0))
theorem delM_mem (l : List ID) (x y : ID) : y ∈ delM l x ↔ y ∈ l ∧ y ≠ x := by
  unfold delM; rw [setM_mem, List.mem_filter]; simp
theorem wantK_mem (ids here : List ID) (x : ID) : ∀ k, k ≤ here.length → (x ∈ wantK ids here k ↔ x ∈ ids ∧ x ∉ here.take k)
  | 0, _ => by simp [wantK]
  | k + 1, hk => by
    have hl : k < here.length := by omega
    unfold wantK
    rw [delM_mem, wantK_mem ids here x k (by omega), List.take_succ_eq_append_getElem hl, List.mem_append, List.mem_singleton]
    have e : here.getD k (0, 0) = here[k] := by simp [List.getD, hl]
    rw [e]
    constructor
    · rintro ⟨⟨h1, h2⟩, h3⟩; exact ⟨h1, fun h => h.elim h2 h3⟩
    · rintro ⟨h1, h2⟩; exact ⟨⟨h1, fun h => h2 (.inl h)⟩, fun h => h2 (.inr h)⟩
theorem delM_len2 (l : List ID) (x : ID) : (delM l x).length ≤ l.length := Nat.le_trans (setM_len _) (List.length_filter_le _ _)
theorem wantK_len (ids here : List ID) : ∀ k, (wantK ids here k).length ≤ ids.length
  | 0 => Nat.le_refl _
  | k + 1 => Nat.le_trans (delM_len2 _ _) (wantK_len ids here k)
theorem finds_set {ids here : List ID} (h : Ris ids) (hs : ∀ x ∈ here, x ∈ ids) (hne : 0 < here.length) (n : Int) (hn : 1 ≤ n) :
    setM (foundK (fun j => nkM ids here n (here.getD j (0, 0)) ids.length) here.length) = setM (wantK ids here here.length) := setM_ext (fun x => by
  rw [foundK_mem, wantK_mem _ _ _ _ (Nat.le_refl _), List.take_length, ← finds h hs (fun e => by rw [e] at hne; simp at hne) n hn]
  constructor
  · rintro ⟨j, h1, h2⟩
    exact ⟨here.getD j (0, 0), by simp [List.getD, h1], h2⟩
  · rintro ⟨me, h1, h2⟩
    obtain ⟨j, hj, e⟩ := List.mem_iff_getElem.1 h1
    exact ⟨j, hj, by rw [← e] at h2; simpa [List.getD, hj] using h2⟩)

/-- a block of h slices of IDs: the j-th one reads as F j -/
def NotAt (W : World) (g h : Nat) (F : Nat → List ID) : Prop := ∃ cur, Blk W g 25 cur ∧ cur.size = h ∧ ∀ j, j < h → ∃ A n c, cur[j]? = some (.slice A n c) ∧ ISl W A n c (F j)
theorem ISl.far {W : World} {g : Nat} {t : TypeId} {cur : Array Value} {A : Option Addr} {n c : Nat} {l : List ID} (h : ISl W A n c l) (hb : Blk W g t cur) (hc : ∀ (j : Nat) (v : Value), cur[j]? = some v → ∃ A n c, v = Value.slice A n c) (p : Addr) (hp : p.block = g) (v : Value) : ISl (W.setCell p v) A n c l := by
  refine ⟨⟨h.1.1, h.1.2.1, fun j hj => ?_⟩, h.2⟩
  obtain ⟨g', off', u, e1, e2, e3⟩ := h.1.2.2 j hj
  refine ⟨g', off', u, e1, e2, ?_⟩
  have hne : g' ≠ g := by
    rintro rfl
    rw [hb.cell] at e3
    obtain ⟨A', n', c', e4⟩ := hc _ _ e3
    have hm : u ∈ l.flatMap cID := List.mem_of_getElem? e2
    rw [List.mem_flatMap] at hm
    obtain ⟨x, _, hx⟩ := hm
    rw [e4] at hx
    simp at hx
  rw [World.cell?_of_block (Below.heap_setCell W p v g' (by rw [hp]; exact hne))]
  exact e3
theorem NotAt.keep0 {W W' : World} {g h : Nat} {F : Nat → List ID} (hn : NotAt W g h F) (hk : Keep (fun _ => False) W W') : NotAt W' g h F := by
  obtain ⟨cur, h1, h2, h3⟩ := hn
  exact ⟨cur, h1.keep hk (fun h => h), h2, fun j hj => by obtain ⟨A, n, c, e, hi⟩ := h3 j hj; exact ⟨A, n, c, e, hi.keep0 hk⟩⟩
theorem NotAt.slices {cur : Array Value} {W : World} {h : Nat} {F : Nat → List ID} (hs : cur.size = h) (h3 : ∀ j, j < h → ∃ A n c, cur[j]? = some (.slice A n c) ∧ ISl W A n c (F j)) : ∀ (j : Nat) (v : Value), cur[j]? = some v → ∃ A n c, v = Value.slice A n c := fun j v hv => by
  have hlt : j < h := by rw [← hs]; exact (Array.getElem?_eq_some_iff.1 hv).1
  obtain ⟨A, n, c, e, _⟩ := h3 j hlt
  rw [e] at hv; injection hv with hv
  exact ⟨A, n, c, hv.symm⟩
theorem ISl.keepG {W W' : World} {G h : Nat} {F : Nat → List ID} {A : Option Addr} {n c : Nat} {l : List ID} (hi : ISl W A n c l) (hN : NotAt W G h F) (hk : Keep (fun g => g = G) W W') : ISl W' A n c l := by
  obtain ⟨cur, hb, h2, h3⟩ := hN
  have hc := NotAt.slices h2 h3
  refine ⟨⟨hi.1.1, hi.1.2.1, fun j hj => ?_⟩, hi.2⟩
  obtain ⟨g', off', u, e1, e2, e3⟩ := hi.1.2.2 j hj
  refine ⟨g', off', u, e1, e2, ?_⟩
  have hne : g' ≠ G := by
    rintro rfl
    rw [hb.cell] at e3
    obtain ⟨A', n', c', e4⟩ := hc _ _ e3
    have hm : u ∈ l.flatMap cID := List.mem_of_getElem? e2
    rw [List.mem_flatMap] at hm
    obtain ⟨x, _, hx⟩ := hm
    rw [e4] at hx
    simp at hx
  exact hk.cell e3 hne
theorem NotAt.put {W : World} {g h : Nat} {F F' : Nat → List ID} (hn : NotAt W g h F) {k : Nat} (hk : k < h) {A : Option Addr} {n c : Nat} (hi : ISl W A n c (F' k)) (hF : ∀ j, j ≠ k → F' j = F j) : NotAt (W.setCell ⟨g, k, none⟩ (.slice A n c)) g h F' := by
  obtain ⟨cur, h1, h2, h3⟩ := hn
  have hsl := NotAt.slices h2 h3
  refine ⟨_, h1.set_ k _, by simpa using h2, fun j hj => ?_⟩
  by_cases e : j = k
  · subst e
    exact ⟨A, n, c, by rw [Array.getElem?_setIfInBounds_self_of_lt (by omega)], hi.far h1 hsl _ rfl _⟩
  · obtain ⟨A', n', c', e1, e2⟩ := h3 j hj
    exact ⟨A', n', c', by rw [Array.getElem?_setIfInBounds_ne (by omega)]; exact e1, by rw [hF j e]; exact e2.far h1 hsl _ rfl _⟩
theorem NotAt.at_ {W : World} {g h : Nat} {F : Nat → List ID} (hn : NotAt W g h F) {k : Nat} (hk : k < h) : ∃ A n c, W.cell? ⟨g, k, none⟩ = some (.slice A n c) ∧ ISl W A n c (F k) ∧ W.frozen? ⟨g, k, none⟩ = false := by
  obtain ⟨cur, h1, h2, h3⟩ := hn
  obtain ⟨A, n, c, e, hi⟩ := h3 k hk
  exact ⟨A, n, c, (h1.cell k).trans e, hi, h1.frozen k⟩
theorem NotAt.congr {W : World} {g h : Nat} {F F' : Nat → List ID} (hn : NotAt W g h F) (hF : ∀ j, j < h → F' j = F j) : NotAt W g h F' := by
  obtain ⟨cur, h1, h2, h3⟩ := hn
  exact ⟨cur, h1, h2, fun j hj => by rw [hF j hj]; exact h3 j hj⟩
end Go.Proofs.Ytafolmgbmobfbaa
