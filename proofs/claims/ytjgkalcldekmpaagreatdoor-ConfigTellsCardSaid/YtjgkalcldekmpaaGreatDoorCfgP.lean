/-
  Configurations, plain: bytes, lines, cuts, trims, numbers.
-/
import Derived.Lib.AtoiAll
import Derived.Lib.SlTrimSet
import Derived.Lib.IndexMore
import Derived.Lib.CountLaws
import Derived.Lib.SplitLaws
import Derived.Lib.Split
import Derived.Lib.ItoaNum
namespace Go.Proofs.YtjgkalcldekmpaaGreatDoor

abbrev Bs := List UInt8
def bs (l : Bs) : ByteArray := ⟨l.toArray⟩
theorem bs_data (l : Bs) : (bs l).data.toList = l := by simp [bs]
theorem bs_of (s : ByteArray) : bs s.data.toList = s := by cases s; simp [bs]
theorem bs_inj {l m : Bs} : bs l = bs m ↔ l = m := ⟨fun h => by rw [← bs_data l, h, bs_data], fun h => by rw [h]⟩
theorem bs_size (l : Bs) : (bs l).size = l.length := by simp [bs, ByteArray.size]

/-- a text's lines -/
def spl (d : UInt8) : Bs → List Bs
  | [] => [[]]
  | c :: l => if c = d then [] :: spl d l else (c :: (spl d l).headD []) :: (spl d l).tail
theorem spl_ne (d : UInt8) (l : Bs) : spl d l ≠ [] := by
  cases l with
  | nil => simp [spl]
  | cons c l => unfold spl; split <;> simp
/-- what stands ahead of the first c, what behind it, whether there is one -/
def cutM (c : UInt8) (l : Bs) : Bs × Bs × Bool := (l.takeWhile (· != c), (l.dropWhile (· != c)).tail, l.contains c)
theorem indexByte_eq (l : Bs) (c : UInt8) : (Lib.indexByte l c = -1 ∧ l.contains c = false ∧ l.takeWhile (· != c) = l ∧ l.dropWhile (· != c) = []) ∨
    ∃ i : Nat, Lib.indexByte l c = i ∧ l.contains c = true ∧ l.takeWhile (· != c) = l.take i ∧ l.dropWhile (· != c) = l.drop i ∧ i < l.length ∧ (l.drop i).tail = l.drop (i + 1) := by
  induction l with
  | nil => exact .inl ⟨rfl, rfl, rfl, rfl⟩
  | cons b l ih =>
    by_cases hb : b = c
    · subst hb
      refine .inr ⟨0, by simp [Lib.indexByte], by simp, by simp, by simp, by simp, by simp⟩
    · have hb' : (b == c) = false := by simpa using hb
      have hb2 : (c == b) = false := by simpa using fun h : c = b => hb h.symm
      rcases ih with ⟨h1, h2, h3, h4⟩ | ⟨i, h1, h2, h3, h4, h5, h6⟩
      · refine .inl ⟨by simp [Lib.indexByte, hb', h1], by simpa [hb2] using ⟨fun h => hb h.symm, by simpa using h2⟩, ?_, ?_⟩
        · rw [List.takeWhile_cons_of_pos (by simpa using hb), h3]
        · rw [List.dropWhile_cons_of_pos (by simpa using hb), h4]
      · have hn : ((i : Int) == -1) = false := by rw [beq_eq_false_iff_ne]; omega
        refine .inr ⟨i + 1, by simp [Lib.indexByte, hb', h1, hn], by simp; right; simpa using h2, ?_, ?_, by simpa using h5, by simp⟩
        · rw [List.takeWhile_cons_of_pos (by simpa using hb), h3, List.take_succ_cons]
        · rw [List.dropWhile_cons_of_pos (by simpa using hb), h4, List.drop_succ_cons]
theorem cut_eq (c : UInt8) (l : Bs) : Lib.cut l [c] = cutM c l := by
  unfold Lib.cut cutM
  rw [Lib.index_one]
  rcases indexByte_eq l c with ⟨h1, h2, h3, h4⟩ | ⟨i, h1, h2, h3, h4, h5, h6⟩
  · rw [h1, if_neg (by omega), h2, h3, h4]; rfl
  · rw [h1, if_pos (by omega), h2, h3, h4, h6]; rfl
theorem spl_none {d : UInt8} {l : Bs} (h : l.contains d = false) : spl d l = [l] := by
  induction l with
  | nil => rfl
  | cons c l ih =>
    have h1 : ¬ c = d ∧ l.contains d = false := by
      simp only [List.contains_cons, Bool.or_eq_false_iff, beq_eq_false_iff_ne, ne_eq] at h
      exact ⟨fun e => h.1 e.symm, h.2⟩
    unfold spl
    rw [if_neg h1.1, ih h1.2]; rfl
theorem spl_hit {d : UInt8} (l m : Bs) (h : l.contains d = false) : spl d (l ++ d :: m) = l :: spl d m := by
  induction l with
  | nil => simp [spl]
  | cons c l ih =>
    have h1 : ¬ c = d ∧ l.contains d = false := by
      simp only [List.contains_cons, Bool.or_eq_false_iff, beq_eq_false_iff_ne, ne_eq] at h
      exact ⟨fun e => h.1 e.symm, h.2⟩
    rw [List.cons_append]
    have e : spl d (c :: (l ++ d :: m)) = (c :: (spl d (l ++ d :: m)).headD []) :: (spl d (l ++ d :: m)).tail := by rw [spl, if_neg h1.1]
    rw [e, ih h1.2]; rfl
theorem split_take (l : Bs) (c : UInt8) (i : Nat) (h : Lib.indexByte l c = i) : l = l.take i ++ c :: l.drop (i + 1) ∧ (l.take i).contains c = false := by
  obtain ⟨h1, h2⟩ := Lib.indexByte_some h
  have hi : i < l.length := by
    rcases Nat.lt_or_ge i l.length with h | h
    · exact h
    · rw [List.getElem?_eq_none h] at h1; cases h1
  have e : l[i] = c := by rw [List.getElem?_eq_getElem hi] at h1; injection h1
  refine ⟨?_, ?_⟩
  · rw [← e, List.getElem_cons_drop]; exact (List.take_append_drop _ _).symm
  · rw [Bool.eq_false_iff]
    intro hc
    obtain ⟨k, hk, he⟩ := List.getElem_of_mem (List.contains_iff_mem.1 hc)
    rw [List.length_take] at hk
    rw [List.getElem_take] at he
    exact h2 k (by omega) (by rw [List.getElem?_eq_getElem (by omega), he])
theorem splitK_eq (d : UInt8) : ∀ (n : Nat) (l : Bs), l.length ≤ n → Lib.splitK [d] 0 (Lib.count l [d]) l = spl d l := by
  intro n
  induction n with
  | zero =>
    intro l hl
    obtain rfl : l = [] := List.length_eq_zero_iff.1 (by omega)
    rfl
  | succ n ih =>
    intro l hl
    rcases indexByte_eq l d with ⟨h1, h2, _⟩ | ⟨i, h1, _, _, _, h5, _⟩
    · have hc : Lib.count l [d] = 0 := Lib.count_miss (by rw [Lib.index_one]; exact h1)
      rw [hc, spl_none h2]; rfl
    · have hi : Lib.index l [d] = i := by rw [Lib.index_one]; exact h1
      have hc : Lib.count l [d] = 1 + Lib.count (l.drop (i + 1)) [d] := Lib.count_hit (sub := [d]) (by simp) hi
      obtain ⟨e1, e2⟩ := split_take l d i h1
      rw [hc, Nat.add_comm 1]
      unfold Lib.splitK
      rw [hi, if_neg (by rw [beq_iff_eq]; omega)]
      have : ((i : Int).toNat + ([d] : Bs).length) = i + 1 := by simp
      rw [this, ih (l.drop (i + 1)) (by rw [List.length_drop]; omega)]
      conv => rhs; rw [e1]
      rw [spl_hit _ _ e2]
      simp
theorem split_eq (d : UInt8) (s sep : ByteArray) (hsep : sep.data.toList = [d]) : Lib.splitB sep 0 (Lib.countB s sep) s = (spl d s.data.toList).map bs := by
  have h := Lib.splitB_data sep 0 (Lib.countB s sep) s
  have hc : Lib.countB s sep = Lib.count s.data.toList [d] := by rw [← hsep]
  rw [hsep, hc, splitK_eq _ _ _ (Nat.le_refl _)] at h
  rw [← h, hc, List.map_map]
  have : (bs ∘ fun x : ByteArray => x.data.toList) = id := by funext x; exact bs_of x
  rw [this, List.map_id]
def trimM (l : Bs) : Bs := Lib.trimS l [32, 9]
def digB (c : UInt8) : Bool := decide (48 ≤ c.toNat ∧ c.toNat ≤ 57)
def decV (a : Nat) (l : Bs) : Nat := l.foldl (fun a c => a * 10 + (c.toNat - 48)) a
/-- the number of a text -/
def numM (l : Bs) : Option Int := if l = [] ∨ (l.head? = some 48 ∧ 1 < l.length) ∨ l.all digB = false then none else if decV 0 l ≤ 1099511627776 then some (decV 0 l) else none
theorem dropWhile_nil {p : UInt8 → Bool} {l : Bs} : l.dropWhile p = [] ↔ l.all p = true := by
  induction l with
  | nil => simp
  | cons c l ih =>
    by_cases h : p c = true
    · rw [List.dropWhile_cons_of_pos h, ih]; simp [h]
    · rw [List.dropWhile_cons_of_neg h]; simp [h]
theorem trim_nil {l cs : Bs} : Lib.trimS l cs = [] ↔ l.all (cs.contains ·) = true := by
  unfold Lib.trimS Lib.trimLeftS Lib.trimRightS
  rw [dropWhile_nil]
  constructor
  · intro h
    have h1 : (l.reverse.dropWhile (cs.contains ·)).all (cs.contains ·) = true := by rw [← List.all_reverse]; exact h
    have h2 : l.reverse.dropWhile (cs.contains ·) = [] := by
      cases e : l.reverse.dropWhile (cs.contains ·) with
      | nil => rfl
      | cons b t =>
        have h3 := List.head?_dropWhile_not (cs.contains ·) l.reverse
        rw [e] at h3 h1
        simp only [List.head?_cons] at h3
        simp only [List.all_cons, Bool.and_eq_true] at h1
        rw [h1.1] at h3; simp at h3
    rw [dropWhile_nil, List.all_reverse] at h2
    exact h2
  · intro h
    have h2 : l.reverse.dropWhile (cs.contains ·) = [] := by rw [dropWhile_nil, List.all_reverse]; exact h
    rw [h2]; rfl
theorem digs_eq (c : UInt8) : ([48, 49, 50, 51, 52, 53, 54, 55, 56, 57] : Bs).contains c = digB c := by
  revert c
  have : ∀ n : Fin 256, ([48, 49, 50, 51, 52, 53, 54, 55, 56, 57] : Bs).contains (UInt8.ofNat n.1) = digB (UInt8.ofNat n.1) := by decide +kernel
  intro c
  have h := this ⟨c.toNat, c.toNat_lt⟩
  simpa using h
theorem all_digs (l : Bs) : l.all (([48, 49, 50, 51, 52, 53, 54, 55, 56, 57] : Bs).contains ·) = l.all digB := by
  congr 1; funext c; exact digs_eq c
theorem parse_digs : ∀ (l : Bs) (a : Nat), l.all digB = true → (Lib.parseUint10 a l = .ok (decV a l)) ∨ (Lib.parseUint10 a l = .range ∧ 18446744073709551616 ≤ decV a l)
  | [], a, _ => .inl rfl
  | c :: r, a, h => by
    simp only [List.all_cons, Bool.and_eq_true] at h
    obtain ⟨hc, hr⟩ := h
    have hc' : 48 ≤ c.toNat ∧ c.toNat ≤ 57 := by simpa [digB] using hc
    have mono : ∀ (r : Bs) (x : Nat), x ≤ decV x r := by
      intro r
      induction r with
      | nil => intro x; exact Nat.le_refl _
      | cons d r ih => intro x; exact Nat.le_trans (by omega) (ih (x * 10 + (d.toNat - 48)))
    have e : decV a (c :: r) = decV (a * 10 + (c.toNat - 48)) r := rfl
    unfold Lib.parseUint10
    rw [if_pos hc', e]
    by_cases h1 : 1844674407370955162 ≤ a
    · rw [if_pos h1]; exact .inr ⟨rfl, by have := mono r (a * 10 + (c.toNat - 48)); omega⟩
    · rw [if_neg h1]
      by_cases h2 : 18446744073709551616 ≤ a * 10 + (c.toNat - 48)
      · rw [if_pos h2]; exact .inr ⟨rfl, by have := mono r (a * 10 + (c.toNat - 48)); omega⟩
      · rw [if_neg h2]; exact parse_digs r _ hr
/-- what Atoi says of digits -/
theorem atoi_digs {l : Bs} (h0 : l ≠ []) (h : l.all digB = true) : (Lib.atoiAll l = .ok (decV 0 l : Int)) ∨ (Lib.atoiAll l = .range ∧ 9223372036854775808 ≤ decV 0 l) := by
  cases l with
  | nil => exact absurd rfl h0
  | cons c r =>
    have hc' : 48 ≤ c.toNat ∧ c.toNat ≤ 57 := by
      simp only [List.all_cons, Bool.and_eq_true] at h
      simpa [digB] using h.1
    have hp := parse_digs (c :: r) 0 h
    have n1 : ¬ (c.toNat = 43 ∨ c.toNat = 45) := by omega
    have n2 : ¬ c.toNat = 45 := by omega
    unfold Lib.atoiAll Lib.parseMag
    simp only [if_neg n1]
    rw [if_neg (by simp)]
    simp only [n2, not_false_eq_true, true_and, false_and, if_false]
    rcases hp with hp | ⟨hp, hb⟩
    · rw [hp]
      simp only
      by_cases h1 : 9223372036854775808 ≤ decV 0 (c :: r)
      · rw [if_pos h1]; exact .inr ⟨rfl, h1⟩
      · rw [if_neg h1]; exact .inl rfl
    · rw [hp]; exact .inr ⟨rfl, by omega⟩
theorem bs_toList (l : Bs) : (bs l).toList = l := by rw [Lib.toList_data]; exact bs_data l
theorem bs_zero (c : UInt8) (r : Bs) (h : 0 < (bs (c :: r)).size) : (bs (c :: r))[0]'h = c := rfl
end Go.Proofs.YtjgkalcldekmpaaGreatDoor
