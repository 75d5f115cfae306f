/-
  coveyref26: the small functions. Written by gen_ra.py.
-/
import Derived.Test.YtjgkalcldekmpaaGreatDoorCfgZ
import Derived.Test.YtjgkalcldekmpaaGreatDoorKord
import Derived.Laws.IdiomStrings
namespace Go.Proofs.YtjgkalcldekmpaaGreatDoor
open Go.RowKit Go Go.Shelf
set_option maxRecDepth 100000
attribute [local go_sem] bs_toList bs_size bs_zero bs_extract bs_get
attribute [local irreducible] kAll
attribute [local go_sem] kQuiet kQuietUpon

def inD (n lo hi : Int) : Bool := decide (lo ≤ n ∧ n ≤ hi)
theorem rin_any (n lo hi : Int) (w : World) : Calls Tryz.prog 37 #[.int .i64 n, .int .i64 lo, .int .i64 hi] w (Tell (.bool (inD n lo hi)) w) := by
  go_enter Tryz.func37, Tryz.ntmps37
  by_cases h1 : lo ≤ n
  · by_cases h2 : n ≤ hi
    · have HD := Lib.hid (show inD n lo hi = true from decide_eq_true ⟨h1, h2⟩)
      go_wp2
      go_ret
      exact ⟨by rw [HD.out]; rfl, Keep.refl _ _⟩
    · have HD := Lib.hid (show inD n lo hi = false from decide_eq_false fun h => h2 h.2)
      go_wp2
      go_ret
      exact ⟨by rw [HD.out]; rfl, Keep.refl _ _⟩
  · have HD := Lib.hid (show inD n lo hi = false from decide_eq_false fun h => h1 h.1)
    go_wp2
    go_ret
    exact ⟨by rw [HD.out]; rfl, Keep.refl _ _⟩
def nameM (x : Int) : Bs := if 0 < x ∧ x < 5 then NMS.getD x.toNat [] else []
theorem rname_any (x : Int) (w : World) : Calls Tryz.prog 32 #[.int .u8 x] w (Tell (.string (bs (nameM x))) w) := by
  go_enter Tryz.func32, Tryz.ntmps32
  by_cases h1 : x = 1
  · subst h1; go_wp2; go_ret; exact ⟨rfl, Keep.refl _ _⟩
  by_cases h2 : x = 2
  · subst h2; go_wp2; go_ret; exact ⟨rfl, Keep.refl _ _⟩
  by_cases h3 : x = 3
  · subst h3; go_wp2; go_ret; exact ⟨rfl, Keep.refl _ _⟩
  by_cases h4 : x = 4
  · subst h4; go_wp2; go_ret; exact ⟨rfl, Keep.refl _ _⟩
  have HN := Lib.hid (show nameM x = [] from if_neg (by omega))
  go_wp2
  go_ret
  exact ⟨by rw [HN.out]; rfl, Keep.refl _ _⟩
theorem cut_at {l : Bs} {d : UInt8} {i : Nat} (hi : i < l.length) (h : ∀ y ∈ l.take i, ¬ y = d) (he : l[i] = d) : cutM d l = (l.take i, l.drop (i + 1), true) := by
  have e : l = l.take i ++ d :: l.drop (i + 1) := by rw [← he, List.getElem_cons_drop]; exact (List.take_append_drop _ _).symm
  have e1 : l.takeWhile (· != d) = l.take i := by
    conv => lhs; rw [e]
    rw [take_app, tw_all _ (fun x hx => by simpa using h x hx)]
  have e2 : l.dropWhile (· != d) = d :: l.drop (i + 1) := by
    conv => lhs; rw [e]
    rw [dw_hit _ _ (fun x hx => h x hx)]
  unfold cutM
  rw [e1, e2, List.contains_iff_mem.2 (by rw [← he]; exact List.getElem_mem hi)]
  rfl
theorem cut_none {l : Bs} {d : UInt8} (h : ∀ y ∈ l, ¬ y = d) : cutM d l = (l, [], false) := by
  unfold cutM
  rw [tw_all _ (fun x hx => by simpa using h x hx), dropWhile_nil.2 (List.all_eq_true.2 fun x hx => by simpa using h x hx), contains_false.2 h]
  rfl
set_option maxHeartbeats 2000000 in
theorem rcut_any (l : Bs) (d : UInt8) (n : Int) (hn : n = (d.toNat : Int)) (hl : l.length ≤ 1000000) (w : World) :
    Calls Tryz.prog 38 #[.string (bs l), .int .u8 n] w (Tell (.tuple #[.string (bs (cutM d l).1), .string (bs (cutM d l).2.1), .bool (cutM d l).2.2]) w) := by
  subst hn
  go_enter Tryz.func38, Tryz.ntmps38
  go_wp2
  go_loopw [7] (fun j wr => ∃ i : Nat, i ≤ l.length ∧ j = .int .i64 (i : Int) ∧ wr = w ∧ Hid (∀ y ∈ l.take i, ¬ y = d)) (fun j _ => l.length - (intOf j).toNat)
  case atStart => exact ⟨0, Nat.zero_le _, rfl, rfl, Lib.hid (by simp)⟩
  case round =>
    obtain ⟨i, hil, rfl, rfl, HN⟩ := hrel
    have e2 : IntKind.i64.wrap ((i : Int) + 1) = (i : Int) + 1 := IntWalk.i64_in _ (by omega)
    by_cases hlt : i < l.length
    · have q1 : (i : Int) < (l.length : Int) := by omega
      have q2 : (0 : Int) ≤ (i : Int) := by omega
      by_cases hb : l[i] = d
      · have q3 : ((l[i]).toNat : Int) = (d.toNat : Int) := by rw [hb]
        have HC := Lib.hid (cut_at hlt HN.out hb)
        have q4 : (i : Int) ≤ (l.length : Int) := by omega
        have q5 : (i : Int) + 1 ≤ (l.length : Int) := by omega
        have q6 : (0 : Int) ≤ (i : Int) + 1 := by omega
        have q7 : (l.drop (i + 1)).take (l.length - (i + 1)) = l.drop (i + 1) := List.take_of_length_le (by rw [List.length_drop]; omega)
        clear hb
        go_wp2_with fail
        refine wp_region_krip (Keep (fun _ => False)) (Keep.refl _) keep0_trans 8 (by kernel_rfl) (by kernel_rfl) (Ts := [none, none, none, none, none, none, none, none]) ?_
        simp only [List.take, List.drop]
        refine kAll_p (fun K hK => ?_)
        go_simp
        generalize hZ : (Act.mk _ _) = Z
        refine hK Z ?_
        subst hZ
        clear hK K
        refine kAll_p (fun K hK => ?_)
        go_simp
        generalize hZ : (Act.mk _ _) = Z
        refine hK Z ?_
        subst hZ
        clear hK K
        refine kAll_p (fun K hK => ?_)
        go_simp
        generalize hZ : (Act.mk _ _) = Z
        refine hK Z ?_
        subst hZ
        clear hK K
        refine kAll_p (fun K hK => ?_)
        go_simp
        generalize hZ : (Act.mk _ _) = Z
        refine hK Z ?_
        subst hZ
        clear hK K
        refine kAll_p (fun K hK => ?_)
        go_simp
        generalize hZ : (Act.mk _ _) = Z
        refine hK Z ?_
        subst hZ
        clear hK K
        refine kAll_p (fun K hK => ?_)
        go_simp
        generalize hZ : (Act.mk _ _) = Z
        refine hK Z ?_
        subst hZ
        clear hK K
        refine kAll_p (fun K hK => ?_)
        go_simp
        generalize hZ : (Act.mk _ _) = Z
        refine hK Z ?_
        subst hZ
        clear hK K
        refine kAll_p (fun K hK => ?_)
        go_simp
        generalize hZ : (Act.mk _ _) = Z
        refine hK Z ?_
        subst hZ
        clear hK K
        refine kAll_nil (fun W hW hF => ?_)
        have HK := Lib.hid (keepD (Keep.refl _ _) hW)
        clear hF hW
        go_wp2
        go_ret3
        exact ⟨by rw [HC.out]; rfl, HK.out⟩
      · have q3 : ¬ ((l[i]).toNat : Int) = (d.toNat : Int) := fun e => hb (UInt8.toNat_inj.1 (by omega))
        have HN2 := Lib.hid (show ∀ y ∈ l.take (i + 1), ¬ y = d by
          rw [show l.take (i + 1) = l.take i ++ [l[i]] by rw [List.take_add_one, List.getElem?_eq_getElem hlt]; rfl]
          intro y hy
          rcases List.mem_append.1 hy with h | h
          · exact HN.out y h
          · rw [List.mem_singleton.1 h]; exact hb)
        clear hb
        go_wp2
        go_roundw
        case rel => exact ⟨i + 1, by omega, by go_num, trivial, HN2⟩
        case measure => simp [intOf]; omega
    · obtain rfl : i = l.length := by omega
      have HC := Lib.hid (cut_none (d := d) (l := l) (by have := HN.out; rwa [List.take_length] at this))
      go_wp2
      go_ret3
      exact ⟨by rw [HC.out]; rfl, Keep.refl _ _⟩
theorem split_pre {l : Bs} (h : ¬ l.all blB = true) : ∃ p x r, l = p ++ x :: r ∧ p.all blB = true ∧ blB x = false := by
  induction l with
  | nil => exact absurd rfl h
  | cons y l ih =>
    by_cases hy : blB y = true
    · obtain ⟨p, x, r, e1, e2, e3⟩ := ih (by simpa [hy] using h)
      exact ⟨y :: p, x, r, by rw [e1]; rfl, by simp [hy, e2], e3⟩
    · exact ⟨[], y, l, rfl, rfl, by simpa using hy⟩
theorem last_case (m2 : Bs) : (∃ q x, m2 = q ++ [x] ∧ Hid (blB x = true) ∧ ((x.toNat : Int) = 32 ∨ (Hid (¬ (x.toNat : Int) = 32) ∧ (x.toNat : Int) = 9))) ∨ (m2 = [] ∨ ∃ q x, m2 = q ++ [x] ∧ Hid (blB x = false) ∧ Hid (¬ (x.toNat : Int) = 32) ∧ Hid (¬ (x.toNat : Int) = 9)) := by
  rcases List.eq_nil_or_concat m2 with rfl | ⟨q, x, rfl⟩
  · exact .inr (.inl rfl)
  · try rw [List.concat_eq_append]
    have n32 : ¬ x = 32 → ¬ (x.toNat : Int) = 32 := fun h e => h (UInt8.toNat_inj.1 (by show _ = 32; omega))
    have n9 : ¬ x = 9 → ¬ (x.toNat : Int) = 9 := fun h e => h (UInt8.toNat_inj.1 (by show _ = 9; omega))
    by_cases h1 : x = 32
    · exact .inl ⟨q, x, rfl, by rw [h1]; exact Lib.hid (by decide), .inl (by rw [h1]; rfl)⟩
    · by_cases h2 : x = 9
      · exact .inl ⟨q, x, rfl, by rw [h2]; exact Lib.hid (by decide), .inr ⟨Lib.hid (n32 h1), by rw [h2]; rfl⟩⟩
      · exact .inr (.inr ⟨q, x, rfl, Lib.hid (by unfold blB; simp [h1, h2]), Lib.hid (n32 h1), Lib.hid (n9 h2)⟩)
theorem trim_swap (l : Bs) : ((l.dropWhile blB).reverse.dropWhile blB).reverse = trimM l := by
  by_cases h : l.all blB = true
  · rw [trimM_nil.2 h, drop_all h]; rfl
  · have e := split_pre h
    obtain ⟨p, x, r, rfl, hp, hx⟩ := e
    rw [trim_left _ _ hp, drop_app _ hp, List.dropWhile_cons_of_neg (by rw [hx]; decide), trimM_def]
    have q : ∃ Q, (x :: r).reverse.dropWhile blB = Q ++ [x] := by
      rw [List.reverse_cons]
      by_cases hr : r.reverse.all blB = true
      · rw [drop_app _ hr, List.dropWhile_cons_of_neg (by rw [hx]; decide)]; exact ⟨[], rfl⟩
      · exact ⟨_, drop_app2 _ (by simpa using hr)⟩
    obtain ⟨Q, hQ⟩ := q
    rw [hQ, List.reverse_append, List.reverse_singleton, List.singleton_append, List.dropWhile_cons_of_neg (by rw [hx]; decide)]
def sLen : Value → Nat | .string b => b.size | _ => 0
theorem blB_no {x : UInt8} (h1 : ¬ x = 32) (h2 : ¬ x = 9) : blB x = false := by unfold blB; simp [h1, h2]
set_option maxHeartbeats 4000000 in
theorem rtrim_any (l : Bs) (hl : l.length ≤ 1000000) (w : World) : Calls Tryz.prog 39 #[.string (bs l)] w (Tell (.string (bs (trimM l))) w) := by
  go_enter Tryz.func39, Tryz.ntmps39
  go_wp2
  go_loopw [0] (fun v wr => ∃ m : Bs, v = .string (bs m) ∧ wr = w ∧ m.length ≤ l.length ∧ Hid (m.dropWhile blB = l.dropWhile blB)) (fun v _ => sLen v)
  case atStart => exact ⟨l, rfl, rfl, Nat.le_refl _, Lib.hid rfl⟩
  case round =>
    obtain ⟨m, rfl, rfl, hml, HM⟩ := hrel
    have hcase : (∃ x r, m = x :: r ∧ (x = 32 ∨ x = 9)) ∨ (m = [] ∨ ∃ x r, m = x :: r ∧ ¬ x = 32 ∧ ¬ x = 9) := by
      cases m with
      | nil => exact .inr (.inl rfl)
      | cons x r =>
        by_cases h1 : x = 32
        · exact .inl ⟨x, r, rfl, .inl h1⟩
        · by_cases h2 : x = 9
          · exact .inl ⟨x, r, rfl, .inr h2⟩
          · exact .inr (.inr ⟨x, r, rfl, h1, h2⟩)
    rcases hcase with ⟨x, r, rfl, hx⟩ | hend
    · rw [List.length_cons] at hml
      have q1 : (1 : Int) ≤ (r.length : Int) + 1 := by omega
      have HM2 := Lib.hid (show r.dropWhile blB = l.dropWhile blB by
        rw [← HM.out, List.dropWhile_cons_of_pos (by rcases hx with rfl | rfl <;> decide)])
      rcases hx with rfl | rfl
      all_goals
        go_wp2
        go_roundw
        case rel => exact ⟨r, rfl, trivial, by omega, HM2⟩
        case measure => simp [sLen, bs_size]
    · have HE := Lib.hid (show l.dropWhile blB = m by
        rw [← HM.out]
        rcases hend with rfl | ⟨x, r, rfl, h1, h2⟩
        · rfl
        · rw [List.dropWhile_cons_of_neg (by rw [blB_no h1 h2]; decide)])
      have hcond : m = [] ∨ ∃ x r, m = x :: r ∧ Hid (¬ (x.toNat : Int) = 32) ∧ Hid (¬ (x.toNat : Int) = 9) := by
        rcases hend with h | ⟨x, r, h, h1, h2⟩
        · exact .inl h
        · exact .inr ⟨x, r, h, Lib.hid (fun e => h1 (UInt8.toNat_inj.1 (by show _ = 32; omega))), Lib.hid (fun e => h2 (UInt8.toNat_inj.1 (by show _ = 9; omega)))⟩
      clear hend HM
      have hex : ∃ W0 : World, wr = W0 := ⟨_, rfl⟩
      rcases hcond with rfl | ⟨x, r, rfl, hx1, hx2⟩
      case inl =>
        go_wp2
        go_loopw [0] (fun v wz => ∃ m2 : Bs, v = .string (bs m2) ∧ wz = wr ∧ m2.length ≤ l.length ∧ Hid (m2.reverse.dropWhile blB = (l.dropWhile blB).reverse.dropWhile blB)) (fun v _ => sLen v)
        case atStart => exact ⟨_, rfl, rfl, hml, Lib.hid (by rw [HE.out])⟩
        case round =>
          obtain ⟨m2, rfl, rfl, hml2, HM2⟩ := hrel
          have hcase := last_case m2
          rcases hcase with ⟨q, x, rfl, hbx, hx⟩ | rfl | ⟨q, x, rfl, hbx, hx1, hx2⟩
          · have y1 : ((q ++ [x]) == []) = false := by simp
            have e1 : IntKind.i64.wrap (q.length : Int) = (q.length : Int) := IntWalk.i64_in _ (by rw [List.length_append] at hml2; omega)
            have q2 : (0 : Int) ≤ (q.length : Int) := by omega
            have q3 : (q.length : Int) ≤ (q.length : Int) + 1 := by omega
            have g1 : ∀ h, (q ++ [x])[q.length]'h = x := fun h => by simp
            have g2 : (q ++ [x]).take q.length = q := by simp
            have HM3 := Lib.hid (show q.reverse.dropWhile blB = (l.dropWhile blB).reverse.dropWhile blB by
              rw [← HM2.out, List.reverse_append, List.reverse_singleton, List.singleton_append, List.dropWhile_cons_of_pos hbx.out])
            have hq : q.length ≤ l.length := by rw [List.length_append] at hml2; omega
            rcases hx with p3 | ⟨hx1, p3⟩
            · go_wp2
              go_roundw
              case rel => exact ⟨q, rfl, trivial, hq, HM3⟩
              case measure => simp [sLen, bs_size]
            · have p4 := hx1.out
              go_wp2
              go_roundw
              case rel => exact ⟨q, rfl, trivial, hq, HM3⟩
              case measure => simp [sLen, bs_size]
          · have HT := Lib.hid (show trimM l = [] by rw [← trim_swap, ← HM2.out]; rfl)
            go_wp2
            go_ret
            exact ⟨by rw [HT.out]; rfl, Keep.refl _ _⟩
          · have y1 : ((q ++ [x]) == []) = false := by simp
            have e1 : IntKind.i64.wrap (q.length : Int) = (q.length : Int) := IntWalk.i64_in _ (by rw [List.length_append] at hml2; omega)
            have q2 : (0 : Int) ≤ (q.length : Int) := by omega
            have g1 : ∀ h, (q ++ [x])[q.length]'h = x := fun h => by simp
            have p3 : ((x.toNat : Int) == 32) = false := beq_eq_false_iff_ne.2 hx1.out
            have p4 : ((x.toNat : Int) == 9) = false := beq_eq_false_iff_ne.2 hx2.out
            have HT := Lib.hid (show trimM l = q ++ [x] by
              rw [← trim_swap, ← HM2.out, List.reverse_append, List.reverse_singleton, List.singleton_append, List.dropWhile_cons_of_neg (by rw [hbx.out]; decide)]
              simp)
            go_wp2
            go_ret
            exact ⟨by rw [HT.out]; rfl, Keep.refl _ _⟩
      case inr =>
        have p1 : ((x.toNat : Int) == 32) = false := beq_eq_false_iff_ne.2 hx1.out
        have p2 : ((x.toNat : Int) == 9) = false := beq_eq_false_iff_ne.2 hx2.out
        go_wp2
        go_loopw [0] (fun v wz => ∃ m2 : Bs, v = .string (bs m2) ∧ wz = wr ∧ m2.length ≤ l.length ∧ Hid (m2.reverse.dropWhile blB = (l.dropWhile blB).reverse.dropWhile blB)) (fun v _ => sLen v)
        case atStart => exact ⟨_, rfl, rfl, hml, Lib.hid (by rw [HE.out])⟩
        case round =>
          obtain ⟨m2, rfl, rfl, hml2, HM2⟩ := hrel
          have hcase := last_case m2
          rcases hcase with ⟨q, x, rfl, hbx, hx⟩ | rfl | ⟨q, x, rfl, hbx, hx1, hx2⟩
          · have y1 : ((q ++ [x]) == []) = false := by simp
            have e1 : IntKind.i64.wrap (q.length : Int) = (q.length : Int) := IntWalk.i64_in _ (by rw [List.length_append] at hml2; omega)
            have q2 : (0 : Int) ≤ (q.length : Int) := by omega
            have q3 : (q.length : Int) ≤ (q.length : Int) + 1 := by omega
            have g1 : ∀ h, (q ++ [x])[q.length]'h = x := fun h => by simp
            have g2 : (q ++ [x]).take q.length = q := by simp
            have HM3 := Lib.hid (show q.reverse.dropWhile blB = (l.dropWhile blB).reverse.dropWhile blB by
              rw [← HM2.out, List.reverse_append, List.reverse_singleton, List.singleton_append, List.dropWhile_cons_of_pos hbx.out])
            have hq : q.length ≤ l.length := by rw [List.length_append] at hml2; omega
            rcases hx with p3 | ⟨hx1, p3⟩
            · go_wp2
              go_roundw
              case rel => exact ⟨q, rfl, trivial, hq, HM3⟩
              case measure => simp [sLen, bs_size]
            · have p4 := hx1.out
              go_wp2
              go_roundw
              case rel => exact ⟨q, rfl, trivial, hq, HM3⟩
              case measure => simp [sLen, bs_size]
          · have HT := Lib.hid (show trimM l = [] by rw [← trim_swap, ← HM2.out]; rfl)
            go_wp2
            go_ret
            exact ⟨by rw [HT.out]; rfl, Keep.refl _ _⟩
          · have y1 : ((q ++ [x]) == []) = false := by simp
            have e1 : IntKind.i64.wrap (q.length : Int) = (q.length : Int) := IntWalk.i64_in _ (by rw [List.length_append] at hml2; omega)
            have q2 : (0 : Int) ≤ (q.length : Int) := by omega
            have g1 : ∀ h, (q ++ [x])[q.length]'h = x := fun h => by simp
            have p3 : ((x.toNat : Int) == 32) = false := beq_eq_false_iff_ne.2 hx1.out
            have p4 : ((x.toNat : Int) == 9) = false := beq_eq_false_iff_ne.2 hx2.out
            have HT := Lib.hid (show trimM l = q ++ [x] by
              rw [← trim_swap, ← HM2.out, List.reverse_append, List.reverse_singleton, List.singleton_append, List.dropWhile_cons_of_neg (by rw [hbx.out]; decide)]
              simp)
            go_wp2
            go_ret
            exact ⟨by rw [HT.out]; rfl, Keep.refl _ _⟩
/-- the number of a text, and whether it is one -/
def numR (l : Bs) : Int × Bool := ((numM l).getD 0, (numM l).isSome)
theorem numR_no {l : Bs} (h : numM l = none) : numR l = (0, false) := by unfold numR; rw [h]; rfl
theorem decV_le (a : Nat) (l r : Bs) : decV a l ≤ decV a (l ++ r) := by
  unfold decV
  rw [List.foldl_append]
  generalize List.foldl (fun a (c : UInt8) => a * 10 + (c.toNat - 48)) a l = b
  induction r generalizing b with
  | nil => exact Nat.le_refl _
  | cons x r ih => exact Nat.le_trans (by omega) (ih (b * 10 + (x.toNat - 48)))
set_option maxHeartbeats 4000000 in
theorem rnumber_any (l : Bs) (hl : l.length ≤ 1000000) (w : World) : Calls Tryz.prog 76 #[.string (bs l)] w (Tell (.tuple #[.int .i64 (numR l).1, .bool (numR l).2]) w) := by
  go_enter Tryz.func76, Tryz.ntmps76
  by_cases h0 : l = []
  · subst h0
    go_wp2
    go_ret2
    exact ⟨rfl, Keep.refl _ _⟩
  have hl0 : 0 < l.length := List.length_pos_iff.2 h0
  have y1 : (l == []) = false := by rw [beq_eq_false_iff_ne]; exact h0
  have q0 : (0 : Int) < (l.length : Int) := by omega
  have HY := Lib.hid h0
  have HDg : Hid (l.all digB = false → numM l = none) := Lib.hid (fun h => if_pos (.inr (.inr h)))
  clear h0
  by_cases hz : l[0] = 48
  · have p0 : ((l[0]).toNat : Int) = 48 := by rw [hz]; rfl
    by_cases h1 : 1 < l.length
    · have q1 : (1 : Int) < (l.length : Int) := by omega
      have HN := Lib.hid (numR_no (show numM l = none from if_pos (.inr (.inl ⟨by rw [List.head?_eq_getElem?, List.getElem?_eq_getElem hl0, hz], h1⟩))))
      clear hz
      go_wp2
      go_ret2
      exact ⟨by rw [HN.out]; rfl, Keep.refl _ _⟩
    have q1 : ¬ (1 : Int) < (l.length : Int) := by omega
    have HOk : Hid (l.all digB = true → numM l = if decV 0 l ≤ 1099511627776 then some (decV 0 l : Int) else none) := Lib.hid (fun h => if_neg (by rintro (e | e | e); exact HY.out e; exact h1 e.2; rw [h] at e; cases e))
    clear hz h1
    go_wp2
    go_loopw [4, 5] (fun n j wz => ∃ i : Nat, i ≤ l.length ∧ j = .int .i64 (i : Int) ∧ n = .int .i64 (decV 0 (l.take i) : Int) ∧ wz = w ∧ Hid ((l.take i).all digB = true) ∧ Hid (decV 0 (l.take i) ≤ 1099511627776)) (fun _ j _ => l.length - (intOf j).toNat)
    case atStart => exact ⟨0, Nat.zero_le _, rfl, rfl, rfl, Lib.hid rfl, Lib.hid (by rw [List.take_zero]; decide)⟩
    case round =>
      obtain ⟨i, hil, rfl, rfl, rfl, HAl, HLe⟩ := hrel
      have e2 : IntKind.i64.wrap ((i : Int) + 1) = (i : Int) + 1 := IntWalk.i64_in _ (by omega)
      by_cases hlt : i < l.length
      · have q2 : (i : Int) < (l.length : Int) := by omega
        have q3 : (0 : Int) ≤ (i : Int) := by omega
        have htk : l.take (i + 1) = l.take i ++ [l[i]] := by rw [List.take_add_one, List.getElem?_eq_getElem hlt]; rfl
        have hv : decV 0 (l.take (i + 1)) = decV 0 (l.take i) * 10 + ((l[i]).toNat - 48) := by rw [htk, decV_snoc]
        have hall : l.all digB = true → digB l[i] = true := fun h => List.all_eq_true.1 h _ (List.getElem_mem hlt)
        have hsplit : decV 0 (l.take (i + 1)) ≤ decV 0 l := by have := decV_le 0 (l.take (i + 1)) (l.drop (i + 1)); rwa [List.take_append_drop] at this
        have HTk := Lib.hid htk
        have HAll := Lib.hid hall
        have hle := HLe.out
        obtain ⟨a, ha⟩ : ∃ a, decV 0 (l.take i) = a := ⟨_, rfl⟩
        have HVn := Lib.hid hv
        rw [ha] at hv hle ⊢
        have HA := Lib.hid ha
        have HSp := Lib.hid hsplit
        clear htk hall ha hsplit
        by_cases hd : 48 ≤ (l[i]).toNat ∧ (l[i]).toNat ≤ 57
        · have n1 : ¬ ((l[i]).toNat : Int) < 48 := by omega
          have n2 : ¬ (57 : Int) < ((l[i]).toNat : Int) := by omega
          obtain ⟨k, hk⟩ : ∃ k, (l[i]).toNat - 48 = k := ⟨_, rfl⟩
          have e3 : IntKind.u8.wrap (((l[i]).toNat : Int) - 48) = (k : Int) := by rw [show ((l[i]).toNat : Int) - 48 = (k : Int) by omega]; exact IntWalk.u8_in _ (by omega)
          have e4 : IntKind.i64.wrap (k : Int) = (k : Int) := IntWalk.i64_in _ (by omega)
          have e5 : IntKind.i64.wrap ((a : Int) * 10) = (a : Int) * 10 := IntWalk.i64_in _ (by omega)
          have e6 : IntKind.i64.wrap ((a : Int) * 10 + (k : Int)) = ((a * 10 + k : Nat) : Int) := by rw [show (a : Int) * 10 + (k : Int) = ((a * 10 + k : Nat) : Int) by omega]; exact IntWalk.i64_in _ (by omega)
          rw [hk] at hv
          have HAl2 := Lib.hid (show (l.take (i + 1)).all digB = true by
            rw [HTk.out, List.all_append, HAl.out, List.all_cons]
            have : digB l[i] = true := by unfold digB; exact decide_eq_true hd
            rw [this]; rfl)
          obtain ⟨b, hb⟩ : ∃ b, a * 10 + k = b := ⟨_, rfl⟩
          rw [hb] at hv e6
          by_cases hbig : b ≤ 1099511627776
          · have n3 : ¬ (1099511627776 : Int) < (b : Int) := by omega
            have HV := Lib.hid hv
            clear hv hd hk hb
            go_wp2
            go_roundw
            case rel => exact ⟨i + 1, by omega, by go_num, by rw [HV.out], trivial, HAl2, Lib.hid (by rw [HV.out]; exact hbig)⟩
            case measure => simp [intOf]; omega
          · have n3 : (1099511627776 : Int) < (b : Int) := by omega
            have HN := Lib.hid (numR_no (show numM l = none by
              by_cases hal : l.all digB = true
              · rw [HOk.out hal]
                have := HSp.out
                rw [if_neg (by omega)]
              · exact HDg.out (by simpa using hal)))
            clear hv hd hk hb
            go_wp2
            go_ret2
            exact ⟨by rw [HN.out]; rfl, Keep.refl _ _⟩
        · have HN := Lib.hid (numR_no (HDg.out (by
            rw [Bool.eq_false_iff]
            intro hal
            have := HAll.out hal
            unfold digB at this
            exact hd (of_decide_eq_true this))))
          clear hv
          by_cases hlo : (l[i]).toNat < 48
          · have n1 : ((l[i]).toNat : Int) < 48 := by omega
            clear hd
            go_wp2
            go_ret2
            exact ⟨by rw [HN.out]; rfl, Keep.refl _ _⟩
          · have n1 : ¬ ((l[i]).toNat : Int) < 48 := by omega
            have n2 : (57 : Int) < ((l[i]).toNat : Int) := by omega
            clear hd
            go_wp2
            go_ret2
            exact ⟨by rw [HN.out]; rfl, Keep.refl _ _⟩
      · obtain rfl : i = l.length := by omega
        have hal := HAl.out
        have hle := HLe.out
        rw [List.take_length] at hal hle
        have HN := Lib.hid (show numR l = ((decV 0 l : Int), true) by unfold numR; rw [HOk.out hal, if_pos hle]; rfl)
        go_wp2
        go_ret2
        exact ⟨by rw [HN.out]; simp, Keep.refl _ _⟩
  · have p0 : ¬ ((l[0]).toNat : Int) = 48 := fun e => hz (UInt8.toNat_inj.1 (by show _ = 48; omega))
    have HOk : Hid (l.all digB = true → numM l = if decV 0 l ≤ 1099511627776 then some (decV 0 l : Int) else none) := Lib.hid (fun h => if_neg (by
      rintro (e | e | e)
      · exact HY.out e
      · have e1 := e.1
        rw [List.head?_eq_getElem?, List.getElem?_eq_getElem hl0] at e1
        injection e1 with e1
        exact hz e1
      · rw [h] at e; cases e))
    clear hz
    go_wp2
    go_loopw [4, 5] (fun n j wz => ∃ i : Nat, i ≤ l.length ∧ j = .int .i64 (i : Int) ∧ n = .int .i64 (decV 0 (l.take i) : Int) ∧ wz = w ∧ Hid ((l.take i).all digB = true) ∧ Hid (decV 0 (l.take i) ≤ 1099511627776)) (fun _ j _ => l.length - (intOf j).toNat)
    case atStart => exact ⟨0, Nat.zero_le _, rfl, rfl, rfl, Lib.hid rfl, Lib.hid (by rw [List.take_zero]; decide)⟩
    case round =>
      obtain ⟨i, hil, rfl, rfl, rfl, HAl, HLe⟩ := hrel
      have e2 : IntKind.i64.wrap ((i : Int) + 1) = (i : Int) + 1 := IntWalk.i64_in _ (by omega)
      by_cases hlt : i < l.length
      · have q2 : (i : Int) < (l.length : Int) := by omega
        have q3 : (0 : Int) ≤ (i : Int) := by omega
        have htk : l.take (i + 1) = l.take i ++ [l[i]] := by rw [List.take_add_one, List.getElem?_eq_getElem hlt]; rfl
        have hv : decV 0 (l.take (i + 1)) = decV 0 (l.take i) * 10 + ((l[i]).toNat - 48) := by rw [htk, decV_snoc]
        have hall : l.all digB = true → digB l[i] = true := fun h => List.all_eq_true.1 h _ (List.getElem_mem hlt)
        have hsplit : decV 0 (l.take (i + 1)) ≤ decV 0 l := by have := decV_le 0 (l.take (i + 1)) (l.drop (i + 1)); rwa [List.take_append_drop] at this
        have HTk := Lib.hid htk
        have HAll := Lib.hid hall
        have hle := HLe.out
        obtain ⟨a, ha⟩ : ∃ a, decV 0 (l.take i) = a := ⟨_, rfl⟩
        have HVn := Lib.hid hv
        rw [ha] at hv hle ⊢
        have HA := Lib.hid ha
        have HSp := Lib.hid hsplit
        clear htk hall ha hsplit
        by_cases hd : 48 ≤ (l[i]).toNat ∧ (l[i]).toNat ≤ 57
        · have n1 : ¬ ((l[i]).toNat : Int) < 48 := by omega
          have n2 : ¬ (57 : Int) < ((l[i]).toNat : Int) := by omega
          obtain ⟨k, hk⟩ : ∃ k, (l[i]).toNat - 48 = k := ⟨_, rfl⟩
          have e3 : IntKind.u8.wrap (((l[i]).toNat : Int) - 48) = (k : Int) := by rw [show ((l[i]).toNat : Int) - 48 = (k : Int) by omega]; exact IntWalk.u8_in _ (by omega)
          have e4 : IntKind.i64.wrap (k : Int) = (k : Int) := IntWalk.i64_in _ (by omega)
          have e5 : IntKind.i64.wrap ((a : Int) * 10) = (a : Int) * 10 := IntWalk.i64_in _ (by omega)
          have e6 : IntKind.i64.wrap ((a : Int) * 10 + (k : Int)) = ((a * 10 + k : Nat) : Int) := by rw [show (a : Int) * 10 + (k : Int) = ((a * 10 + k : Nat) : Int) by omega]; exact IntWalk.i64_in _ (by omega)
          rw [hk] at hv
          have HAl2 := Lib.hid (show (l.take (i + 1)).all digB = true by
            rw [HTk.out, List.all_append, HAl.out, List.all_cons]
            have : digB l[i] = true := by unfold digB; exact decide_eq_true hd
            rw [this]; rfl)
          obtain ⟨b, hb⟩ : ∃ b, a * 10 + k = b := ⟨_, rfl⟩
          rw [hb] at hv e6
          by_cases hbig : b ≤ 1099511627776
          · have n3 : ¬ (1099511627776 : Int) < (b : Int) := by omega
            have HV := Lib.hid hv
            clear hv hd hk hb
            go_wp2
            go_roundw
            case rel => exact ⟨i + 1, by omega, by go_num, by rw [HV.out], trivial, HAl2, Lib.hid (by rw [HV.out]; exact hbig)⟩
            case measure => simp [intOf]; omega
          · have n3 : (1099511627776 : Int) < (b : Int) := by omega
            have HN := Lib.hid (numR_no (show numM l = none by
              by_cases hal : l.all digB = true
              · rw [HOk.out hal]
                have := HSp.out
                rw [if_neg (by omega)]
              · exact HDg.out (by simpa using hal)))
            clear hv hd hk hb
            go_wp2
            go_ret2
            exact ⟨by rw [HN.out]; rfl, Keep.refl _ _⟩
        · have HN := Lib.hid (numR_no (HDg.out (by
            rw [Bool.eq_false_iff]
            intro hal
            have := HAll.out hal
            unfold digB at this
            exact hd (of_decide_eq_true this))))
          clear hv
          by_cases hlo : (l[i]).toNat < 48
          · have n1 : ((l[i]).toNat : Int) < 48 := by omega
            clear hd
            go_wp2
            go_ret2
            exact ⟨by rw [HN.out]; rfl, Keep.refl _ _⟩
          · have n1 : ¬ ((l[i]).toNat : Int) < 48 := by omega
            have n2 : (57 : Int) < ((l[i]).toNat : Int) := by omega
            clear hd
            go_wp2
            go_ret2
            exact ⟨by rw [HN.out]; rfl, Keep.refl _ _⟩
      · obtain rfl : i = l.length := by omega
        have hal := HAl.out
        have hle := HLe.out
        rw [List.take_length] at hal hle
        have HN := Lib.hid (show numR l = ((decV 0 l : Int), true) by unfold numR; rw [HOk.out hal, if_pos hle]; rfl)
        go_wp2
        go_ret2
        exact ⟨by rw [HN.out]; simp, Keep.refl _ _⟩
theorem byte_nat {k : Nat} (hk : k < 10) : ((UInt8.ofNat (48 + k)).toNat : Int) = ((48 + k : Nat) : Int) := by
  have : ∀ d : Fin 10, (UInt8.ofNat (48 + d.1)).toNat = 48 + d.1 := by decide
  rw [this ⟨k, hk⟩]
def dgB (k : Nat) : UInt8 := UInt8.ofNat (48 + k)
theorem conv1 {W : World} {g k : Nat} (hk : k < 10) (hb : Blk W g 5 #[.int .u8 (48 + (k : Int))]) : (convert 63 9 (.slice (some ⟨g, 0, none⟩) 1 1)).run Tryz.prog W = .ok (.string (bs [dgB k])) W :=
  run_convert_bytes_back W 63 9 5 ⟨g, 0, none⟩ 1 [dgB k] Tryz.underlying63 Tryz.underlying5 Tryz.underlying9 (fun j hj => by
    have : j = 0 := by simpa using hj
    subst this
    rw [Addr.add_lit, hb.cell]
    simp only [List.getElem_cons_zero, show ((dgB k).toNat : Int) = ((48 + k : Nat) : Int) from byte_nat hk]
    show some _ = some _
    congr 2)
set_option maxHeartbeats 4000000 in
theorem rdigits_any (n : Nat) (hn : n ≤ 1000000000) (w : World) : Calls Tryz.prog 30 #[.int .i64 (n : Int)] w (Tell (.string (bs (Lib.decDigits n))) w) := by
  induction n using Nat.strongRecOn generalizing w with
  | _ n ih0 =>
    have ih : ∀ m, m < n → m ≤ 1000000000 → ∀ w, Calls Tryz.prog 30 #[.int .i64 (m : Int)] w (Tell (.string (bs (Lib.decDigits m))) w) := fun m h1 h2 w => ih0 m h1 h2 w
    clear ih0
    go_enter Tryz.func30, Tryz.ntmps30
    by_cases h : n < 10
    · have q1 : (n : Int) < 10 := by omega
      have e1 : IntKind.i64.wrap (48 + (n : Int)) = 48 + (n : Int) := IntWalk.i64_in _ (by omega)
      have e2 : IntKind.u8.wrap (48 + (n : Int)) = 48 + (n : Int) := IntWalk.u8_in _ (by omega)
      have HD := Lib.hid (show Lib.decDigits n = [dgB n] from Lib.decDigits_one h)
      have hcv := conv1 (W := w.alloc (.cells #[.int .u8 (48 + (n : Int))] 5)) h (Blk.new _ _ _)
      clear ih
      go_wp2
      go_ret
      exact ⟨by rw [HD.out]; rfl, (Keep.refl _ _).alloc _⟩
    · have q1 : ¬ (n : Int) < 10 := by omega
      have hD : Lib.decDigits n = Lib.decDigits (n / 10) ++ [dgB (n % 10)] := by rw [Lib.decDigits, dif_neg h]; rfl
      obtain ⟨m, hm⟩ : ∃ m, n / 10 = m := ⟨_, rfl⟩
      obtain ⟨k, hk⟩ : ∃ k, n % 10 = k := ⟨_, rfl⟩
      have d1 : (n : Int).tdiv 10 = (m : Int) := by rw [Int.tdiv_eq_ediv_of_nonneg (by omega)]; omega
      have d2 : (n : Int).tmod 10 = (k : Int) := by rw [Int.tmod_eq_emod_of_nonneg (by omega)]; omega
      have hk10 : k < 10 := by omega
      have e1 : IntKind.i64.wrap (m : Int) = (m : Int) := IntWalk.i64_in _ (by omega)
      have e2 : IntKind.i64.wrap (k : Int) = (k : Int) := IntWalk.i64_in _ (by omega)
      have e3 : IntKind.i64.wrap (48 + (k : Int)) = 48 + (k : Int) := IntWalk.i64_in _ (by omega)
      have e4 : IntKind.u8.wrap (48 + (k : Int)) = 48 + (k : Int) := IntWalk.u8_in _ (by omega)
      rw [hm, hk] at hD
      have hl : (Lib.decDigits m).length ≤ 10 := decDigits_len 10 m (by omega) (by decide)
      have ihm := ih m (by omega) (by omega)
      obtain ⟨D, hDm⟩ : ∃ D, Lib.decDigits m = D := ⟨_, rfl⟩
      rw [hDm] at hD hl ihm
      have IH := Lib.hid ihm
      have HD := Lib.hid hD
      have c1 : ¬ 9223372036854775807 < D.length + 1 := by omega
      have hcat : bs D ++ bs [dgB k] = bs (D ++ [dgB k]) := bs_cat _ _
      clear ih hm hk hD ihm hDm h
      go_wp2_with fail
      refine wp_region_krip (Keep (fun _ => False)) (Keep.refl _) keep0_trans 9 (by kernel_rfl) (by kernel_rfl) (Ts := [none, none, some (.inl (.string (bs D))), none, none, none, none, some (.inr (fun v W => ∃ g, v = .slice (some ⟨g, 0, none⟩) 1 1 ∧ Blk W g 5 #[.int .u8 (48 + (k : Int))])), some (.inl (.string (bs [dgB k])))]) ?_
      simp only [List.take, List.drop]
      refine kAll_p (fun K hK => ?_)
      go_simp
      generalize hZ : (Act.mk _ _) = Z
      refine hK Z ?_
      subst hZ
      clear hK K
      refine kAll_p (fun K hK => ?_)
      go_simp
      generalize hZ : (Act.mk _ _) = Z
      refine hK Z ?_
      subst hZ
      clear hK K
      refine kAll_dn _ (fun W hW hF => kStep_of fun K Q hK => ?_) (fun K hK => ?_)
      · go_simp
        refine (IH.out W).mono ?_
        rintro e w' ⟨rfl, hk⟩
        exact hK _ _ hk rfl
      go_simp
      generalize hZ : (Act.mk _ _) = Z
      refine hK Z ?_
      subst hZ
      clear hK K
      refine kAll_p (fun K hK => ?_)
      go_simp
      generalize hZ : (Act.mk _ _) = Z
      refine hK Z ?_
      subst hZ
      clear hK K
      refine kAll_p (fun K hK => ?_)
      go_simp
      generalize hZ : (Act.mk _ _) = Z
      refine hK Z ?_
      subst hZ
      clear hK K
      refine kAll_p (fun K hK => ?_)
      go_simp
      generalize hZ : (Act.mk _ _) = Z
      refine hK Z ?_
      subst hZ
      clear hK K
      refine kAll_p (fun K hK => ?_)
      go_simp
      generalize hZ : (Act.mk _ _) = Z
      refine hK Z ?_
      subst hZ
      clear hK K
      refine kAll_tn _ (fun v W W' hk h => by obtain ⟨g, e, h⟩ := h; exact ⟨g, e, h.keep hk (fun h => h)⟩) (fun W hW hF => kStep_of fun K Q hK => ?_) (fun u0 K hK => ?_)
      · go_simp
        exact hK _ _ ((Keep.refl _ _).alloc _) ⟨_, rfl, Blk.new _ _ _⟩
      go_simp
      generalize hZ : (Act.mk _ _) = Z
      refine hK Z ?_
      subst hZ
      clear hK K
      refine kAll_dn _ (fun W hW hF => kStep_of fun K Q hK => ?_) (fun K hK => ?_)
      · obtain ⟨g1, rfl, hg1⟩ := (show ∃ g, u0 = .slice (some ⟨g, 0, none⟩) 1 1 ∧ Blk W g 5 #[.int .u8 (48 + (k : Int))] from kHas_at hF 0 rfl (by kernel_rfl))
        have hcv := conv1 (W := W) hk10 hg1
        go_simp
        exact hK _ _ (Keep.refl _ _) rfl
      go_simp
      generalize hZ : (Act.mk _ _) = Z
      refine hK Z ?_
      subst hZ
      clear hK K
      refine kAll_nil (fun W hW hF => ?_)
      have HK := Lib.hid (keepD (Keep.refl _ _) hW)
      clear hF hW
      go_wp2
      go_ret
      exact ⟨by rw [HD.out]; rfl, HK.out⟩
def shM (nm : Bs) (n : Int) : Bs := if n = 0 then [] else nm ++ 32 :: 61 :: 32 :: (Lib.itoa n ++ [10])
theorem rshown_any (nm : Bs) (hnm : nm.length ≤ 10) (n : Int) (h0 : 0 ≤ n) (h1 : n ≤ 4096) (w : World) : Calls Tryz.prog 31 #[.string (bs nm), .int .i64 n] w (Tell (.string (bs (shM nm n))) w) := by
  obtain ⟨n, rfl⟩ : ∃ k : Nat, n = k := ⟨n.toNat, by omega⟩
  go_enter Tryz.func31, Tryz.ntmps31
  by_cases h : n = 0
  · subst h
    go_wp2
    go_ret
    exact ⟨rfl, Keep.refl _ _⟩
  have q1 : ¬ (n : Int) = 0 := by omega
  have hi : Lib.itoa (n : Int) = Lib.decDigits n := by unfold Lib.itoa; rw [if_neg (by omega), Int.toNat_natCast]
  have hl : (Lib.decDigits n).length ≤ 10 := decDigits_len 10 n (by omega) (by decide)
  have hd := rdigits_any n (by omega)
  obtain ⟨D, hD⟩ : ∃ D, Lib.decDigits n = D := ⟨_, rfl⟩
  rw [hD] at hi hl hd
  have HD := Lib.hid hd
  have HS := Lib.hid (show shM nm (n : Int) = nm ++ [32, 61, 32] ++ D ++ [10] by unfold shM; rw [if_neg q1, hi]; simp)
  have c1 : ¬ 9223372036854775807 < nm.length + 3 := by omega
  have c2 : ¬ 9223372036854775807 < nm.length + 3 + D.length := by omega
  have c3 : ¬ 9223372036854775807 < nm.length + 3 + D.length + 1 := by omega
  obtain ⟨L, hL⟩ : ∃ L, nm ++ [32, 61, 32] ++ D ++ [10] = L := ⟨_, rfl⟩
  rw [hL] at HS
  have hcat : bs nm ++ ({ data := #[32, 61, 32] } : ByteArray) ++ bs D ++ ({ data := #[10] } : ByteArray) = bs L := by rw [← hL, ← bs_cat, ← bs_cat, ← bs_cat]; rfl
  clear hd hi hD hL h
  go_wp2_with fail
  refine (HD.out w).mono ?_
  rintro e W1 ⟨rfl, hk⟩
  have HK := Lib.hid hk
  clear hk
  go_wp2
  go_ret
  exact ⟨by rw [HS.out]; rfl, HK.out⟩
end Go.Proofs.YtjgkalcldekmpaaGreatDoor
