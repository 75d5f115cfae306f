/-
  rows.Gone.
  ident.Compare: it lays blocks and draws, and no more: as the sort asks it ('CmpLays').
  A closure of Go's library at this dump: the table of numbers, a field a fact of the dump's own or the kernel's.
  slices.SortFunc at IDs, by ident.Compare.
  slices.Collect and slices.AppendSeq(nil, seq) of IDs, against whatever iterator that gives its elements in turn and writes at most one block of its own.
  slices.Values at IDs: its iterator gives the list's elements in turn.
  slices.Compact at IDs, in memory that may be written.
  slices.SortedFunc of slices.Values at IDs; ident.Set (a seat without Join).
  ident.Same, rows.Same.
-/
import Derived.Test.YtgoldgamjogadaaGreatMgN8
import Derived.Test.YtgoldgamjogadaaGreatMgN2
import Derived.Shelf.SlSortCmp.NoneTotal
import Derived.Shelf.SlLaysF0
import Derived.Ground.SlsfProg
import Derived.Test.YtgoldgamjogadaaGreatRows
import Derived.Test.YtgoldgamjogadaaGreatMgN1
import Derived.RangeFuncGives
import Derived.RangeFuncLeaves
import Derived.WalkKit
import Derived.Lib.Hide
import Derived.OwnWalkIn
import Derived.TacticsInMore
import Derived.RegionIn
import Derived.LoopNIn
import Derived.LoopIn
import Derived.Maps.OwnIn
import Derived.Maps.AppendAt
import Derived.Deep.AppendLies
import Derived.WalkSpells
import Derived.Outline
import Derived.Test.YtgoldgamjogadaaGreatMgN4
namespace Go.Proofs.YtgoldgamjogadaaGreat
open Go.RowKit Go
set_option maxRecDepth 100000
attribute [local irreducible] kAll kAllP
attribute [local go_sem] kQuiet kQuietUpon

/-- is an ID at most this floor? -/
def gone1 (id f : ID) : Bool := decide (f.1 = id.1) && decide (id.2 ≤ f.2)
def goneB (F : List ID) (id : ID) : Bool := F.any (gone1 id)
def goneR (F : List ID) (r : RowM) : RowM := ⟨r.of, r.ver, r.no.filter (fun x => !goneB F x)⟩
theorem keepDT {T : Nat → Prop} {a b : World} (h : Keep T a.drew b) : Keep T a b := ((Keep.refl T a).drew).trans (h.mono fun _ _ e => .inl e)
theorem keepT_trans (T : Nat → Prop) (a b c : World) (h : Keep T a b) (k : Keep T b c) : Keep T a c := h.trans (k.mono fun _ _ e => .inl e)
/-- a row without those that are gone -/
def proc (F : List ID) (r : RowO) : RowO := ⟨⟨r.v.of, r.v.ver, r.v.A, (r.no.filter (fun x => !goneB F x)).length, r.v.c⟩, r.no.filter (fun x => !goneB F x), r.b⟩
def procTo (F : List ID) (L : List RowO) (k : Nat) : List RowO := (L.take k).map (proc F) ++ L.drop k
theorem procTo_len (F : List ID) (L : List RowO) (k : Nat) : (procTo F L k).length = L.length := by unfold procTo; simp; omega
theorem procTo_get (F : List ID) (L : List RowO) {k : Nat} (hk : k < L.length) : (procTo F L k).getD k zrowO = L.getD k zrowO := by
  unfold procTo
  simp [List.getD, List.getElem?_append_right, hk, Nat.min_eq_left (Nat.le_of_lt hk)]
theorem procTo_next (F : List ID) (L : List RowO) {k : Nat} (hk : k < L.length) : procTo F L (k + 1) = (procTo F L k).set k (proc F (L.getD k zrowO)) := by
  unfold procTo
  rw [List.take_succ_eq_append_getElem hk, List.map_append, List.drop_eq_getElem_cons hk, List.set_append_right _ _ (by simp; omega), List.length_map, List.length_take, Nat.min_eq_left (Nat.le_of_lt hk), Nat.sub_self, List.set_cons_zero, List.append_assoc]
  simp [List.getD, hk]
theorem OwnRs.at_ {w : World} {base : Nat} {row : Option Nat} {L : List RowO} (h : OwnRs w base row L) {k : Nat} (hk : k < L.length) : (L.getD k zrowO).no.length = (L.getD k zrowO).v.n ∧ SlK w 24 2 (L.getD k zrowO).b (L.getD k zrowO).v.A (L.getD k zrowO).v.n (L.getD k zrowO).v.c ((L.getD k zrowO).no.flatMap cID) ∧ ∀ g, (L.getD k zrowO).b = some g → base ≤ g ∧ row ≠ some g := by
  have e : L.getD k zrowO = L[k] := by simp [List.getD, hk]
  rw [e]
  exact ⟨(h.sl _ (List.getElem_mem hk)).1, (h.sl _ (List.getElem_mem hk)).2, h.new _ (List.getElem_mem hk)⟩
theorem OwnRs.upd {w w' : World} {base : Nat} {row : Option Nat} {L : List RowO} (h : OwnRs w base row L) {k : Nat} (hk : k < L.length) (hkp : Keep (fun g => (L.getD k zrowO).b = some g) w w') {r : RowO} (hb : r.b = (L.getD k zrowO).b) (h1 : r.no.length = r.v.n)
    (h2 : SlK w' 24 2 r.b r.v.A r.v.n r.v.c (r.no.flatMap cID)) : OwnRs w' base row (L.set k r) := by
  have e : L.getD k zrowO = L[k] := by simp [List.getD, hk]
  rw [e] at hkp hb
  have hap := List.pairwise_iff_getElem.1 h.ap
  have hg : ∀ j (hj : j < (L.set k r).length), (L.set k r)[j].b = (L[j]'(by simpa using hj)).b := fun j hj => by
    rw [List.getElem_set]; split
    · next e => subst e; exact hb
    · rfl
  refine ⟨fun x hx => ?_, fun x hx => ?_, ?_⟩
  · obtain ⟨j, hj, rfl⟩ := List.getElem_of_mem hx
    have hj' : j < L.length := by simpa using hj
    by_cases hjk : k = j
    · subst hjk; simp only [List.getElem_set_self]; exact ⟨h1, h2⟩
    · rw [List.getElem_set_ne hjk]
      refine ⟨(h.sl _ (List.getElem_mem hj')).1, (h.sl _ (List.getElem_mem hj')).2.keep hkp (fun g hg e => ?_)⟩
      rcases Nat.lt_or_ge k j with q | q
      · exact hap k j hk hj' q g e hg
      · exact hap j k hj' hk (by omega) g hg e
  · obtain ⟨j, hj, rfl⟩ := List.getElem_of_mem hx
    rw [hg j hj]; exact h.new _ (List.getElem_mem _)
  · rw [List.pairwise_iff_getElem]
    intro i j hi hj hij
    rw [hg i hi, hg j hj]
    exact hap i j _ _ hij
theorem SlK.cells_eq {w : World} {e : TypeId} {k : Nat} {row : Option Nat} {A : Option Addr} {n c : Nat} {xs ys : List Value} (h : SlK w e k row A n c xs) (q : xs = ys) : SlK w e k row A n c ys := q ▸ h
/-- only a row's slice is another one -/
theorem set3_row : ∀ (l : List RowV) (i : Nat) (h : i < l.length) {a j v : Int} {A : Option Addr} {n c m : Nat}, l[i] = ⟨(a, j), v, A, n, c⟩ →
    (l.flatMap cRow).set (i * 4 + 3) (.slice A m c) = ((((l.flatMap cRow).set (i * 4) (.int .i64 a)).set (i * 4 + 1) (.int .i64 j)).set (i * 4 + 2) (.int .i64 v)).set (i * 4 + 3) (.slice A m c)
  | y :: l, 0, _, a, j, v, A, n, c, m, e => by
    simp only [List.getElem_cons_zero] at e
    subst e; simp
  | y :: l, i + 1, h, a, j, v, A, n, c, m, e => by
    have ih := set3_row l i (by simpa using h) (m := m) (by simpa using e)
    rw [List.flatMap_cons, show (i + 1) * 4 = (cRow y).length + i * 4 by simp; omega]
    simp only [Nat.add_assoc]
    rw [List.set_append_right _ _ (by omega), Nat.add_sub_cancel_left, List.set_append_right _ _ (by omega), Nat.add_sub_cancel_left, List.set_append_right _ _ (by omega), Nat.add_sub_cancel_left, List.set_append_right _ _ (by omega), Nat.add_sub_cancel_left, List.set_append_right _ _ (by omega), Nat.add_sub_cancel_left, ih]
def goneM (l : List RowM) (F : List ID) : List RowM := (l.filter (fun r => !goneB F r.of)).map (goneR F)
set_option maxHeartbeats 1000000 in
theorem gone11_any (B : Nat) (id f : ID) (w : World) (h : Blk w B 24 #[.int .i64 id.1, .int .i64 id.2]) :
    Calls Tryz.prog 66 #[idV f, .pointer (some ⟨B, 0, none⟩)] w (Tell (.bool (gone1 id f)) w) := by
  obtain ⟨a, i⟩ := id
  obtain ⟨b, j⟩ := f
  have hk0 := (Keep.refl (fun _ => False) w).alloc (.cells #[.int .i64 b, .int .i64 j] 24)
  have HK := Lib.hid hk0
  have hb := h.keep hk0 (fun h => h)
  have c0 := hb.cell 0
  have c1 := hb.cell 1
  simp at c0 c1
  clear hk0 hb h
  by_cases h1 : b = a
  · subst h1
    have HG : Hid (gone1 (b, i) (b, j) = decide (i ≤ j)) := Lib.hid (by unfold gone1; simp)
    go_enter Tryz.func66, Tryz.ntmps66
    go_wp2
    all_goals
      go_ret
      exact ⟨ret_bool (by rw [HG.out] <;> (try simp) <;> (try omega)), HK.out⟩
  · have h1' : (b == a) = false := by simpa using h1
    go_enter Tryz.func66, Tryz.ntmps66
    go_wp2
    go_ret
    exact ⟨ret_bool (by unfold gone1; simp only; rw [decide_eq_false h1]; rfl), HK.out⟩
theorem eg_gone11 : ∀ args w, (callFunc 66 args).run Tryz.prog w = .ok (.enter 66 args) w := enters_of Tryz.func66 (by kernel_rfl) rfl
theorem eg_gone1 : ∀ args w, (callFunc 65 args).run Tryz.prog w = .ok (.enter 65 args) w := enters_of Tryz.func65 (by kernel_rfl) rfl
theorem eg_gone2 : ∀ args w, (callFunc 69 args).run Tryz.prog w = .ok (.enter 69 args) w := enters_of Tryz.func69 (by kernel_rfl) rfl
set_option maxHeartbeats 1000000 in
theorem gone1_any (B : Nat) (A : Option Addr) (n c : Nat) (F : List ID) (id : ID) (w : World) (hB : w.cell? ⟨B, 0, none⟩ = some (.slice A n c)) (hF : RdI w A n F) (hn : n ≤ 1000000) :
    Calls Tryz.prog 65 #[idV id, .pointer (some ⟨B, 0, none⟩)] w (Tell (.bool (goneB F id)) w) := by
  obtain ⟨a, i⟩ := id
  obtain ⟨W0, hW0⟩ : ∃ W0, w.alloc (.cells #[.int .i64 a, .int .i64 i] 24) = W0 := ⟨_, rfl⟩
  have hb : Blk W0 w.heap.size 24 #[.int .i64 a, .int .i64 i] := by rw [← hW0]; exact Blk.new _ _ _
  have hk0 : Keep (fun _ => False) w W0 := by rw [← hW0]; exact (Keep.refl _ w).alloc _
  have cB := hk0.cell hB (fun h => h)
  have HFn : Hid (FnI 66 #[.pointer (some ⟨w.heap.size, 0, none⟩)] (gone1 (a, i)) W0) := Lib.hid ⟨eg_gone11, fun x W hW => gone11_any w.heap.size (a, i) x W (hb.keep hW (fun h => h))⟩
  have HK := Lib.hid hk0
  have HR := Lib.hid (hF.keep0 hk0)
  clear hb hk0 hB hF
  go_enter Tryz.func65, Tryz.ntmps65
  go_wp2_with fail
  refine (containsF_any _ _ _ A n c F _ HFn.out HR.out (by omega)).mono ?_
  rintro e w1 ⟨rfl, hk⟩
  have HK2 := Lib.hid (keep0_trans _ _ _ HK.out hk)
  clear hk cB
  go_wp2
  go_ret
  exact ⟨rfl, HK2.out⟩
set_option maxHeartbeats 1000000 in
theorem gone2_any (B5 B3 : Nat) (A : Option Addr) (n c : Nat) (F : List ID) (r : RowV) (w : World) (h5 : w.cell? ⟨B5, 0, none⟩ = some (.func (.func 65) #[] #[.pointer (some ⟨B3, 0, none⟩)])) (hB : w.cell? ⟨B3, 0, none⟩ = some (.slice A n c)) (hF : RdI w A n F) (hn : n ≤ 1000000) :
    Calls Tryz.prog 69 #[rowV r, .pointer (some ⟨B5, 0, none⟩)] w (Tell (.bool (goneB F r.of)) w) := by
  obtain ⟨⟨a, i⟩, v, An, nn, cn⟩ := r
  have hk0 := (Keep.refl (fun _ => False) w).alloc (.cells #[.int .i64 a, .int .i64 i, .int .i64 v, .slice An nn cn] 37)
  have c5 := hk0.cell h5 (fun h => h)
  have HB := Lib.hid (hk0.cell hB (fun h => h))
  have HF := Lib.hid (hF.keep0 hk0)
  have HK := Lib.hid hk0
  have eg := eg_gone1
  clear hk0 h5 hB hF
  go_enter Tryz.func69, Tryz.ntmps69
  go_wp2_with fail
  refine (gone1_any B3 A n c F (a, i) _ HB.out HF.out hn).mono ?_
  rintro e w1 ⟨rfl, hk⟩
  have HK2 := Lib.hid (keep0_trans _ _ _ HK.out hk)
  clear hk c5
  go_wp2
  go_ret
  exact ⟨rfl, HK2.out⟩
/-- what rows.Gone's functions want of memory -/
structure GoneIn (w : World) (B5 B3 : Nat) (A : Option Addr) (n c : Nat) (F : List ID) : Prop where
  c5 : w.cell? ⟨B5, 0, none⟩ = some (.func (.func 65) #[] #[.pointer (some ⟨B3, 0, none⟩)])
  c3 : w.cell? ⟨B3, 0, none⟩ = some (.slice A n c)
  rd : RdI w A n F
theorem GoneIn.keep0 {w w' : World} {B5 B3 : Nat} {A : Option Addr} {n c : Nat} {F : List ID} (h : GoneIn w B5 B3 A n c F) (hk : Keep (fun _ => False) w w') : GoneIn w' B5 B3 A n c F :=
  ⟨hk.cell h.c5 (fun h => h), hk.cell h.c3 (fun h => h), h.rd.keep0 hk⟩
/-- .. which stands while newer blocks are written -/
theorem GoneIn.since {w w1 w' : World} {B5 B3 : Nat} {A : Option Addr} {n c : Nat} {F : List ID} (h : GoneIn w B5 B3 A n c F) (hk : Keep (fun _ => False) w w1) {T : Nat → Prop} (hT : ∀ g, T g → w.heap.size ≤ g) (hk2 : Keep T w1 w') : GoneIn w' B5 B3 A n c F :=
  h.keep0 (hk.trans (hk2.mono fun g _ e => .inr (hT g e)))
set_option maxHeartbeats 8000000 in
theorem rgone_any (A : Option Addr) (n c : Nat) (l : List RowM) (Af : Option Addr) (nf cf : Nat) (F : List ID) (w : World) (h : RdRow w A n l) (hn : n ≤ 10000) (hno : ∀ r ∈ l, r.no.length ≤ 10000) (hF : RdI w Af nf F) (hnf : nf ≤ 1000000) :
    Calls Tryz.prog 36 #[.slice A n c, .slice Af nf cf] w (fun e w' => (∃ A' c', e = .returned (.slice A' (goneM l F).length c') ∧ RdRow w' A' (goneM l F).length (goneM l F)) ∧ Keep (fun _ => False) w w') := by
  obtain ⟨W1, hW1⟩ : ∃ W1, w.alloc (.cells #[.slice Af nf cf] 29) = W1 := ⟨_, rfl⟩
  have hb3 : Blk W1 w.heap.size 29 #[.slice Af nf cf] := by rw [← hW1]; exact Blk.new _ _ _
  have hk1 : Keep (fun _ => False) w W1 := by rw [← hW1]; exact (Keep.refl _ w).alloc _
  obtain ⟨W2, hW2⟩ : ∃ W2, W1.alloc (.cells #[.func (.func 65) #[] #[.pointer (some ⟨w.heap.size, 0, none⟩)]] 57) = W2 := ⟨_, rfl⟩
  have hb5 : Blk W2 W1.heap.size 57 #[.func (.func 65) #[] #[.pointer (some ⟨w.heap.size, 0, none⟩)]] := by rw [← hW2]; exact Blk.new _ _ _
  have hk2 : Keep (fun _ => False) W1 W2 := by rw [← hW2]; exact (Keep.refl _ W1).alloc _
  have HG : Hid (GoneIn W2 W1.heap.size w.heap.size Af nf cf F) := Lib.hid ⟨hb5.cell 0, (hb3.keep hk2 (fun h => h)).cell 0, (hF.keep0 hk1).keep0 hk2⟩
  have HK2 := Lib.hid (keep0_trans _ _ _ hk1 hk2)
  have HR := Lib.hid (h.keep0 (keep0_trans _ _ _ hk1 hk2))
  have HNo := Lib.hid hno
  have hl := h.1
  subst hl
  clear hb3 hk1 hb5 hk2 h hno hF
  go_enter Tryz.func36, Tryz.ntmps36
  go_wp2_with fail
  refine (all_any A l.length c l _ HR.out (by omega) HNo.out).mono ?_
  rintro e W3 ⟨row, A3, c3, L, rfl, hm, hs, hnew, hown, hk3⟩
  have HM := Lib.hid hm
  have HS := Lib.hid hs
  have HNew := Lib.hid hnew
  have HOwn := Lib.hid hown
  have HK3 := Lib.hid hk3
  have HLL := Lib.hid (show (L.map (·.v)).length = l.length by rw [← hm]; simp)
  clear hm hs hnew hown hk3
  go_wp2_with fail
  refine (delete_row 69 #[.pointer (some ⟨W1.heap.size, 0, none⟩)] (fun r => goneB F r.of) row A3 l.length c3 (L.map (·.v)) _ ⟨eg_gone2, fun x W hW => ?fn⟩ HLL.out HS.out (by omega)).mono ?_
  case fn =>
    have hg := HG.out.since HK3.out HNew.out hW
    exact gone2_any _ _ Af nf cf F x W hg.c5 hg.c3 hg.rd hnf
  rintro e W4 ⟨m, rfl, hm, hs4, hk4⟩
  have hfm : (L.map (·.v)).filter (fun x => !goneB F x.of) = (L.filter (fun r => !goneB F r.v.of)).map (·.v) := by
    rw [List.filter_map]; rfl
  have hmm : (L.filter (fun r => !goneB F r.v.of)).map (·.m) = l.filter (fun r => !goneB F r.of) := by
    rw [← HM.out, List.filter_map]; rfl
  have hLno : ∀ r ∈ L, r.no.length ≤ 10000 := fun r hr => by
    have : r.m ∈ l := by rw [← HM.out]; exact List.mem_map_of_mem hr
    exact HNo.out _ this
  have hown4 : OwnRs W4 W2.heap.size row (L.filter (fun r => !goneB F r.v.of)) := by
    have h0 := HOwn.out.keep hk4 (fun r hr g hg e => (HOwn.out.new r hr g hg).2 e)
    exact ⟨fun r hr => h0.sl r (List.mem_filter.1 hr).1, fun r hr => h0.new r (List.mem_filter.1 hr).1, h0.ap.filter _⟩
  rw [hfm] at hm hs4
  rw [List.length_map] at hm
  have hLf : ∀ r ∈ L.filter (fun r => !goneB F r.v.of), r.no.length ≤ 10000 := fun r hr => hLno r (List.mem_filter.1 hr).1
  have hlen : (L.filter (fun r => !goneB F r.v.of)).length ≤ l.length := by
    have h1 := List.length_filter_le (fun r : RowO => !goneB F r.v.of) L
    have h2 := HLL.out
    rw [List.length_map] at h2
    omega
  have HMM := Lib.hid hmm
  have HOwn4 := Lib.hid hown4
  have HLf := Lib.hid hLf
  have HLen := Lib.hid hlen
  have HS4 := Lib.hid hs4
  have HMn := Lib.hid hm
  have HK4 := Lib.hid ((HK3.out.trans (hk4.mono fun g _ e => .inr (HNew.out g e))))
  clear hs4 hm hk4 hfm hmm hown4 hLno hLf hlen
  generalize L.filter (fun r => !goneB F r.v.of) = L2 at *
  have hm10 : m ≤ 10000 := by have := HMn.out; have := HLen.out; omega
  go_wp2
  go_loopw [15] (fun j wr => ∃ k : Nat, k ≤ m ∧ j = .int .i64 (k : Int) ∧ Hid (SlK wr 37 4 row A3 m c3 (((procTo F L2 k).map (·.v)).flatMap cRow)) ∧ Hid (OwnRs wr W2.heap.size row (procTo F L2 k)) ∧ Hid (Keep (fun _ => False) W2 wr)) (fun j _ => m - (intOf j).toNat)
  case atStart => exact ⟨0, by omega, rfl, Lib.hid (by simpa [procTo] using HS4.out), Lib.hid (by simpa [procTo] using HOwn4.out), HK4⟩
  case round =>
    obtain ⟨k, hk, rfl, HSR, HO, HKR⟩ := hrel
    by_cases hlt : k < m
    · obtain ⟨g, off, hrow, hA⟩ := HSR.out.off (by omega)
      have hkL : k < L2.length := by have := HMn.out; omega
      have hrd : RdRv wr A3 m ((procTo F L2 k).map (·.v)) := ⟨by rw [List.length_map, procTo_len]; have := HMn.out; omega, HSR.out.rd⟩
      obtain ⟨g', off', hA', c0, c1', c2, c3'⟩ := hrd.at_ hlt
      rw [hA] at hA'; injection hA' with hA'; injection hA' with r1 r2; subst r1 r2
      have hget : ((procTo F L2 k).map (·.v)).getD k zrow = (L2.getD k zrowO).v := by
        have h1 : k < (procTo F L2 k).length := by rw [procTo_len]; exact hkL
        have h2 := procTo_get F L2 hkL
        simp only [List.getD, List.getElem?_map, List.getElem?_eq_getElem h1, Option.map_some, Option.getD_some] at h2 ⊢
        rw [h2]
      rw [hget] at c3'
      obtain ⟨s1, s2, s3⟩ := HO.out.at_ (k := k) (by rw [procTo_len]; exact hkL)
      rw [procTo_get F L2 hkL] at s1 s2 s3
      have HNX := Lib.hid (procTo_next F L2 hkL)
      have HPL := Lib.hid (show k < (procTo F L2 k).length by rw [procTo_len]; exact hkL)
      have HPG := Lib.hid (procTo_get F L2 hkL)
      have HNN0 := Lib.hid (show (L2.getD k zrowO).v.n ≤ 1000000 by rw [← s1]; exact Nat.le_trans (HLf.out _ (by simp [List.getD, hkL])) (by decide))
      clear hrd hget c0 c1' c2
      subst hA hrow
      have hgb : W2.heap.size ≤ g := HNew.out g rfl
      generalize hxx : L2.getD k zrowO = x at *
      obtain ⟨⟨⟨a, i⟩, v, An, nn, cn⟩, no, b⟩ := x
      simp only at c3' s1 s2 s3 HNN0
      have HXX := Lib.hid hxx
      have HNN : Hid (nn ≤ 1000000) := HNN0
      have HC3 := Lib.hid c3'
      have HNL := Lib.hid s1
      have HSN := Lib.hid s2
      have HNR := Lib.hid (show ¬ b = some g from fun e => (s3 g e).2 rfl)
      have HGI : Hid (∀ W, Keep (fun y => b = some y) wr W → GoneIn W W1.heap.size w.heap.size Af nf cf F) := Lib.hid fun W hW => HG.out.since HKR.out (fun q hq => (s3 q hq).1) hW
      clear s1 s2 s3 c3' hxx
      have hkI : (k : Int) < (m : Int) := by omega
      have hkJ : (0 : Int) ≤ (k : Int) := by omega
      have e2 : IntKind.i64.wrap ((k : Int) + 1) = (k : Int) + 1 := IntWalk.i64_in _ (by omega)
      go_upto_region 6 with (fail)
      refine wp_region_kpiv (Keep (fun y => b = some y)) (Keep (fun _ => False)) 8 (Keep.refl _) (keepT_trans _) (Keep.refl _) keep0_trans (fun _ _ h => h.mono fun _ _ e => e.elim) 9 (by kernel_rfl) (by kernel_rfl) (Ts := [none, none, none, none, none, none, some (.inl (.slice An nn cn)), some (.inl (.func (.func 65) #[] #[.pointer (some ⟨w.heap.size, 0, none⟩)])), some (.inr (fun v W => ∃ m2, v = .slice An m2 cn ∧ m2 = (no.filter (fun x => !goneB F x)).length ∧ SlK W 24 2 b An m2 cn ((no.filter (fun x => !goneB F x)).flatMap cID)))]) ?_
      simp only [List.take, List.drop]
      refine kAllP_p (fun K hK => ?_)
      go_simp
      generalize hZ : (Act.mk _ _) = Z
      refine hK Z ?_
      subst hZ
      clear hK K
      refine kAllP_p (fun K hK => ?_)
      go_simp
      generalize hZ : (Act.mk _ _) = Z
      refine hK Z ?_
      subst hZ
      clear hK K
      refine kAllP_p (fun K hK => ?_)
      go_simp
      generalize hZ : (Act.mk _ _) = Z
      refine hK Z ?_
      subst hZ
      clear hK K
      refine kAllP_p (fun K hK => ?_)
      go_simp
      generalize hZ : (Act.mk _ _) = Z
      refine hK Z ?_
      subst hZ
      clear hK K
      refine kAllP_p (fun K hK => ?_)
      go_simp
      generalize hZ : (Act.mk _ _) = Z
      refine hK Z ?_
      subst hZ
      clear hK K
      refine kAllP_p (fun K hK => ?_)
      go_simp
      generalize hZ : (Act.mk _ _) = Z
      refine hK Z ?_
      subst hZ
      clear hK K
      refine kAllP_d _ (by decide) (fun W hW hF => kStep_of fun K Q hK => ?_) ?_
      · have q3 := (keepDT hW).cell HC3.out HNR.out
        go_simp
        exact hK _ _ (Keep.refl _ _) rfl
      refine kAllP_d _ (by decide) (fun W hW hF => kStep_of fun K Q hK => ?_) ?_
      · have q5 := (HGI.out W (keepDT hW)).c5
        go_simp
        exact hK _ _ (Keep.refl _ _) rfl
      refine kAllP_t _ rfl (fun _ _ _ hk h => by obtain ⟨m2, e, e2, hs⟩ := h; exact ⟨m2, e, e2, hs.keep hk (fun _ _ h => h)⟩) (fun W hW hF => kStep_of fun K Q hK => ?_) (fun u0 => ?_)
      · go_simp
        have hb := HSN.out.keep (keepD (Keep.refl _ _) hW) (fun _ _ h => h)
        refine (delete_id 65 #[.pointer (some ⟨w.heap.size, 0, none⟩)] (goneB F) b An nn cn no W ⟨eg_gone1, fun x W2 hW2 => ?_⟩ HNL.out hb HNN.out).mono ?_
        · have hg := HGI.out W2 (keepT_trans _ _ _ _ ((keepD (Keep.refl (fun _ => False) _) hW).mono fun _ _ e => e.elim) hW2)
          exact gone1_any _ Af nf cf F x W2 hg.c3 hg.rd hnf
        · rintro e w' ⟨m2, rfl, e2, hs2, hk2⟩
          exact hK _ _ hk2 ⟨m2, rfl, e2, hs2⟩
      refine kAllP_nil (fun W5 hW hF => ?_)
      obtain ⟨m2, rfl, e2', hs2⟩ : ∃ m2, u0 = .slice An m2 cn ∧ m2 = (no.filter (fun x => !goneB F x)).length ∧ SlK W5 24 2 b An m2 cn ((no.filter (fun x => !goneB F x)).flatMap cID) := kAllHas_at hF 0 rfl
      have hq := keepDT hW
      have d3 := hq.cell HC3.out HNR.out
      have hS5 := HSR.out.keep hq (fun q hq e => by injection hq with hq; subst hq; exact HNR.out e)
      have f3 : W5.frozen? ⟨g, off + k * 4 + 2 + 1, none⟩ = false := hS5.cellAt (j := k * 4 + 3) (by omega)
      have f3 : W5.frozen? ⟨g, off + (k * 4 + 3), none⟩ = false := hS5.cellAt (j := k * 4 + 3) (by omega)
      obtain ⟨WF, hWF⟩ : ∃ WF, W5.setCell ⟨g, off + k * 4 + 3, none⟩ (.slice An m2 cn) = WF := ⟨_, rfl⟩
      have hpr : proc F ⟨⟨(a, i), v, An, nn, cn⟩, no, b⟩ = ⟨⟨(a, i), v, An, m2, cn⟩, no.filter (fun x => !goneB F x), b⟩ := by unfold proc; rw [← e2']
      have hkf : Keep (fun q => some g = some q) W5 WF := by rw [← hWF]; exact (Keep.refl (fun q => some g = some q) W5).setCell (p := ⟨g, off + k * 4 + 3, none⟩) (fun _ => rfl) _
      have hof : OwnRs WF W2.heap.size (some g) (procTo F L2 (k + 1)) := by
        rw [HNX.out, hpr]
        have h1 : OwnRs W5 W2.heap.size (some g) ((procTo F L2 k).set k ⟨⟨(a, i), v, An, m2, cn⟩, no.filter (fun x => !goneB F x), b⟩) :=
          HO.out.upd HPL.out (by rw [HPG.out]; exact hq) (by rw [HPG.out]) e2'.symm hs2
        exact h1.keep hkf (fun r hr q hq2 e => (h1.new r hr q hq2).2 e)
      have hsf : SlK WF 37 4 (some g) (some ⟨g, off, none⟩) m c3 (((procTo F L2 (k + 1)).map (·.v)).flatMap cRow) := by
        have e0 : (procTo F L2 (k + 1)).map (·.v) = ((procTo F L2 k).map (·.v)).set k ⟨(a, i), v, An, m2, cn⟩ := by rw [HNX.out, hpr, List.map_set]
        have hkl : k < ((procTo F L2 k).map (·.v)).length := by rw [List.length_map]; exact HPL.out
        have e1 := HPG.out
        have e3 : ((procTo F L2 k).map (·.v))[k] = ⟨(a, i), v, An, nn, cn⟩ := by
          rw [List.getElem_map]
          have h2 : (procTo F L2 k)[k]'HPL.out = ⟨⟨(a, i), v, An, nn, cn⟩, no, b⟩ := by rw [← e1]; simp [List.getD, HPL.out]
          rw [h2]
        rw [e0, ← set_row _ k hkl, ← hWF]
        have q := hS5.setCell (j := k * 4 + 3) (by omega) (.slice An m2 cn)
        rw [Nat.add_assoc]
        refine SlK.cells_eq q ?_
        exact set3_row _ k hkl e3
      have HKf := Lib.hid (show Keep (fun _ => False) W2 WF from (HKR.out.trans (hq.mono fun q hq2 e => .inr ((HO.out.at_ HPL.out).2.2 q (by rw [HPG.out]; exact e)).1)).trans (hkf.mono fun q _ e => .inr (by injection e with e; omega)))
      have HOf := Lib.hid hof
      have HSf := Lib.hid hsf
      have HWF := Lib.hid hWF
      clear hWF hkf hof hsf hS5 hs2 hq hW hF e2' hpr
      go_wp2
      rw [HWF.out]
      go_roundw
      case rel => exact ⟨k + 1, by omega, by go_num, HSf, HOf, HKf⟩
      case measure => simp [intOf]; omega
    · obtain rfl : m = k := by omega
      have HP := Lib.hid (show (procTo F L2 m).map (·.m) = goneM l F by
        have : procTo F L2 m = L2.map (proc F) := by
          unfold procTo; rw [HMn.out, List.take_length, List.drop_length, List.append_nil]
        rw [this, List.map_map]
        unfold goneM
        rw [← HMM.out, List.map_map]
        rfl)
      have HL := Lib.hid (show (goneM l F).length = m by rw [← HP.out, List.length_map, procTo_len, HMn.out])
      have hrd : RdRow wr A3 m ((procTo F L2 m).map (·.m)) := HO.out.rd ⟨by rw [List.length_map, procTo_len, HMn.out], HSR.out.rd⟩
      have HRd := Lib.hid hrd
      clear hrd
      go_wp2
      go_ret
      exact ⟨⟨A3, c3, by rw [HL.out]; rfl, by rw [HL.out, ← HP.out]; exact HRd.out⟩, keep0_trans _ _ _ HK2.out HKR.out⟩
end Go.Proofs.YtgoldgamjogadaaGreat

namespace Go.Proofs.YtgoldgamjogadaaGreat
open Go.RowKit Go.Sort Go.Lib
attribute [local go_sem] kQuiet kQuietUpon

/-- new memory at most, and draws -/
def KD (w w' : World) : Prop := Keep (fun _ => False) w w' ∧ w.drawn ≤ w'.drawn
theorem KD.refl (w : World) : KD w w := ⟨Keep.refl _ w, Nat.le_refl _⟩
theorem KD.trans (a b c : World) (h : KD a b) (k : KD b c) : KD a c := ⟨keep0_trans _ _ _ h.1 k.1, Nat.le_trans h.2 k.2⟩
theorem KD.alloc (w : World) (o : Obj) : KD w (w.alloc o) := ⟨(Keep.refl _ w).alloc o, Nat.le_refl _⟩
theorem KD.grows {w w' : World} (h : KD w w') : ∃ q os, w' = grow (w.drewN q) os := by
  obtain ⟨⟨h1, h2, h3, h4, h5⟩, h6⟩ := h
  refine ⟨w'.drawn - w.drawn, w'.heap.extract w.heap.size w'.heap.size, ?_⟩
  obtain ⟨hp, tp, dr, os, ou⟩ := w'
  obtain ⟨hp0, tp0, dr0, os0, ou0⟩ := w
  simp only at h1 h2 h3 h4 h5 h6
  subst h1 h2 h3
  unfold grow World.drewN
  simp only [World.mk.injEq, and_true, true_and]
  refine ⟨?_, by omega⟩
  apply Array.ext_getElem?
  intro i
  by_cases hi : i < hp0.size
  · rw [h5 i hi (fun h => h), Array.getElem?_append_left hi]
  · rw [Array.getElem?_append_right (by omega), Array.getElem?_extract]
    by_cases h7 : i < hp.size
    · rw [if_pos (by omega)]; congr 1; omega
    · rw [if_neg (by omega), Array.getElem?_eq_none (by omega)]
set_option maxRecDepth 100000 in
set_option maxHeartbeats 1000000 in
theorem cmpID_kd (p q : ID) (w : World) : Calls Tryz.prog 84 #[idV p, idV q] w (fun e w' => e = .returned (.int .i64 (cmpID p q)) ∧ KD w w') := by
  obtain ⟨a, i⟩ := p
  obtain ⟨b, j⟩ := q
  have b0 := (Blk.new w 24 #[.int .i64 a, .int .i64 i]).alloc (.cells #[.int .i64 b, .int .i64 j] 24)
  have b1 := Blk.new_ (w := w.alloc (.cells #[.int .i64 a, .int .i64 i] 24)) (B := w.heap.size + 1) (by simp) 24 #[.int .i64 b, .int .i64 j]
  have B0 := Lib.hid b0
  have B1 := Lib.hid b1
  have hk0 := ((Keep.refl (fun _ => False) w).alloc (.cells #[.int .i64 a, .int .i64 i] 24)).alloc (.cells #[.int .i64 b, .int .i64 j] 24)
  have HK0 := Lib.hid hk0
  clear b0 b1 hk0
  go_enter Tryz.func84, Tryz.ntmps84
  go_wp2
  refine wp_region_krip KD KD.refl KD.trans 13 (by kernel_rfl) (by kernel_rfl) (Ts := [none, some (.inl (.int .i64 a)), none, some (.inl (.int .i64 b)), some (.inl (.int .i64 (cmpI a b))), none, some (.inl (.int .i64 i)), none, some (.inl (.int .i64 j)), some (.inl (.int .i64 (cmpI i j))), some (.inr (fun v W => ∃ g, v = .slice (some ⟨g, 0, none⟩) 2 2 ∧ W.cell? ⟨g, 0, none⟩ = some (.int .i64 (cmpI a b)) ∧ W.cell? ⟨g, 0 + 1, none⟩ = some (.int .i64 (cmpI i j)))), some (.inl (.int .i64 (cmpID (a, i) (b, j)))), none]) ?_
  simp only [List.take, List.drop]
  refine kAll_p (fun K hK => ?_)
  go_simp
  refine hK _ ?_
  clear hK K
  refine kAll_d _ (fun W hW hF => kStep_of fun K Q hK => ?_) ?_
  · have hcell := (B0.out.drew.keep hW.1 (fun h => h)).cell 0
    go_simp
    exact hK _ _ (KD.refl _) rfl
  refine kAll_p (fun K hK => ?_)
  go_simp
  refine hK _ ?_
  clear hK K
  refine kAll_d _ (fun W hW hF => kStep_of fun K Q hK => ?_) ?_
  · have hcell := (B1.out.drew.keep hW.1 (fun h => h)).cell 0
    go_simp
    exact hK _ _ (KD.refl _) rfl
  refine kAll_d _ (fun W hW hF => kStep_of fun K Q hK => ?_) ?_
  · go_simp
    refine (cmp_any a b W).mono ?_
    rintro e w' ⟨rfl, rfl⟩
    exact hK _ _ (KD.refl _) rfl
  refine kAll_p (fun K hK => ?_)
  go_simp
  refine hK _ ?_
  clear hK K
  refine kAll_d _ (fun W hW hF => kStep_of fun K Q hK => ?_) ?_
  · have hcell := (B0.out.drew.keep hW.1 (fun h => h)).cell 1
    go_simp
    exact hK _ _ (KD.refl _) rfl
  refine kAll_p (fun K hK => ?_)
  go_simp
  refine hK _ ?_
  clear hK K
  refine kAll_d _ (fun W hW hF => kStep_of fun K Q hK => ?_) ?_
  · have hcell := (B1.out.drew.keep hW.1 (fun h => h)).cell 1
    go_simp
    exact hK _ _ (KD.refl _) rfl
  refine kAll_d _ (fun W hW hF => kStep_of fun K Q hK => ?_) ?_
  · go_simp
    refine (cmp_any i j W).mono ?_
    rintro e w' ⟨rfl, rfl⟩
    exact hK _ _ (KD.refl _) rfl
  refine kAll_t _ (fun v W W' hk ⟨g, h1, h2, h3⟩ => ⟨g, h1, hk.1.cell h2 (fun h => h), hk.1.cell h3 (fun h => h)⟩) (fun W hW hF => kStep_of fun K Q hK => ?_) (fun _ => ?_)
  · go_simp
    exact hK _ _ (KD.alloc _ _) ⟨W.heap.size, rfl, (Blk.new W _ _).cell 0, (Blk.new W _ _).cell 1⟩
  refine kAll_d _ (fun W hW hF => kStep_of fun K Q hK => ?_) ?_
  · go_simp
    obtain ⟨g, rfl, h1, h2⟩ := kHas_at hF 0 rfl (by kernel_rfl)
    refine (or_any g 0 _ _ W h1 h2).mono ?_
    rintro e w' ⟨rfl, rfl⟩
    exact hK _ _ (KD.refl _) rfl
  refine kAll_p (fun K hK => ?_)
  go_simp
  refine hK _ ?_
  clear hK K
  refine kAll_nil (fun W hW hF => ?_)
  clear hF
  go_wp2
  go_ret
  exact ⟨rfl, keepD HK0.out hW.1, Nat.le_trans (Nat.le_succ _) hW.2⟩
end Go.Proofs.YtgoldgamjogadaaGreat

namespace Go.Proofs.YtgoldgamjogadaaGreat
open Go.Proofs
open Go.Shelf
def Tryz.sortL_ren : Go.Shelf.Ren := ⟨fun | 6 => 112 | 15 => 116 | 14 => 115 | 28 => 125 | 29 => 126 | 20 => 117 | 21 => 118 | 22 => 119 | 23 => 120 | 24 => 121 | 25 => 122 | 26 => 123 | 27 => 124 | 46 => 127 | 47 => 128 | 48 => 129 | 49 => 130 | 50 => 131 | 57 => 132 | n => n, fun | 22 => 29 | 24 => 24 | 25 => 122 | 3 => 3 | 39 => 50 | 0 => 0 | 53 => 49 | 55 => 159 | 4 => 4 | 46 => 151 | 45 => 150 | 50 => 155 | 5 => 5 | 9 => 9 | 66 => 160 | 70 => 164 | 76 => 166 | 77 => 167 | n => n, fun | n => n⟩
theorem Tryz.sortL : Go.Proofs.SlLaysF0.n6 Tryz.prog Tryz.sortL_ren := {
  mixed := by kernel_rfl
  f6 := ⟨Tryz.f112.name, by decide, Tryz.func112.trans (congrArg some (by kernel_rfl))⟩
  f14 := ⟨Tryz.f115.name, by decide, Tryz.func115.trans (congrArg some (by kernel_rfl))⟩
  f15 := Tryz.func116.trans (congrArg some (by kernel_rfl))
  f20 := ⟨Tryz.f117.name, by decide, Tryz.func117.trans (congrArg some (by kernel_rfl))⟩
  f21 := ⟨Tryz.f118.name, by decide, Tryz.func118.trans (congrArg some (by kernel_rfl))⟩
  f22 := ⟨Tryz.f119.name, by decide, Tryz.func119.trans (congrArg some (by kernel_rfl))⟩
  f23 := ⟨Tryz.f120.name, by decide, Tryz.func120.trans (congrArg some (by kernel_rfl))⟩
  f24 := ⟨Tryz.f121.name, by decide, Tryz.func121.trans (congrArg some (by kernel_rfl))⟩
  f25 := ⟨Tryz.f122.name, by decide, Tryz.func122.trans (congrArg some (by kernel_rfl))⟩
  f26 := ⟨Tryz.f123.name, by decide, Tryz.func123.trans (congrArg some (by kernel_rfl))⟩
  f27 := ⟨Tryz.f124.name, by decide, Tryz.func124.trans (congrArg some (by kernel_rfl))⟩
  f28 := Tryz.func125.trans (congrArg some (by kernel_rfl))
  f29 := Tryz.func126.trans (congrArg some (by kernel_rfl))
  f46 := ⟨Tryz.f127.name, by decide, Tryz.func127.trans (congrArg some (by kernel_rfl))⟩
  f47 := Tryz.func128.trans (congrArg some (by kernel_rfl))
  f48 := Tryz.func129.trans (congrArg some (by kernel_rfl))
  f49 := ⟨Tryz.f130.name, by decide, Tryz.func130.trans (congrArg some (by kernel_rfl))⟩
  f50 := ⟨Tryz.f131.name, by decide, Tryz.func131.trans (congrArg some (by kernel_rfl))⟩
  f57 := ⟨Tryz.f132.name, by decide, Tryz.func132.trans (congrArg some (by kernel_rfl))⟩
  t0 := Tryz.underlying0
  a0 := Tryz.isAgg0
  z0 := Tryz.sizeOf0
  v0 := Tryz.zeroValue0
  t3 := Tryz.underlying3
  a3 := Tryz.isAgg3
  z3 := Tryz.sizeOf3
  v3 := Tryz.zeroValue3
  t4 := Tryz.underlying4
  a4 := Tryz.isAgg4
  z4 := Tryz.sizeOf4
  v4 := Tryz.zeroValue4
  t5 := Tryz.underlying5
  a5 := Tryz.isAgg5
  z5 := Tryz.sizeOf5
  v5 := Tryz.zeroValue5
  t9 := Tryz.underlying9
  a9 := Tryz.isAgg9
  z9 := Tryz.sizeOf9
  v9 := Tryz.zeroValue9
  t22 := Tryz.underlying29
  a22 := Tryz.isAgg29
  z22 := Tryz.sizeOf29
  v22 := Tryz.zeroValue29
  t25 := Tryz.underlying122
  a25 := Tryz.isAgg122
  z25 := Tryz.sizeOf122
  v25 := Tryz.zeroValue122
  t39 := Tryz.underlying50
  a39 := Tryz.isAgg50
  z39 := Tryz.sizeOf50
  v39 := Tryz.zeroValue50
  t45 := Tryz.underlying150
  a45 := Tryz.isAgg150
  z45 := Tryz.sizeOf150
  v45 := Tryz.zeroValue150
  t46 := Tryz.underlying151
  a46 := Tryz.isAgg151
  z46 := Tryz.sizeOf151
  v46 := Tryz.zeroValue151
  t50 := Tryz.underlying155
  a50 := Tryz.isAgg155
  z50 := Tryz.sizeOf155
  v50 := Tryz.zeroValue155
  t53 := Tryz.underlying49
  a53 := Tryz.isAgg49
  z53 := Tryz.sizeOf49
  v53 := Tryz.zeroValue49
  t55 := Tryz.underlying159
  a55 := Tryz.isAgg159
  z55 := Tryz.sizeOf159
  v55 := Tryz.zeroValue159
  t66 := Tryz.underlying160
  a66 := Tryz.isAgg160
  z66 := Tryz.sizeOf160
  v66 := Tryz.zeroValue160
  t70 := Tryz.underlying164
  a70 := Tryz.isAgg164
  z70 := Tryz.sizeOf164
  v70 := Tryz.zeroValue164
  t76 := Tryz.underlying166
  a76 := Tryz.isAgg166
  z76 := Tryz.sizeOf166
  v76 := Tryz.zeroValue166
  t77 := Tryz.underlying167
  a77 := Tryz.isAgg167
  z77 := Tryz.sizeOf167
  v77 := Tryz.zeroValue167 }
end Go.Proofs.YtgoldgamjogadaaGreat

namespace Go.Proofs.YtgoldgamjogadaaGreat
open Go.RowKit Go.Sort Go.Lib Go.Shelf

theorem ltOf_ID : ltOf cmpID = ltID := by funext x y; exact cmpID_lt x y
theorem swo_ID : SWO (ltOf cmpID) := by
  rw [ltOf_ID]
  refine ⟨lt_irr, fun x y z h k => lt_trans h k, fun x y z h k => ?_⟩
  simp only [ltID, decide_eq_false_iff_not] at *
  omega
theorem tot_ID (x y : ID) (h1 : ltOf cmpID x y = false) (h2 : ltOf cmpID y x = false) : x = y := by rw [ltOf_ID] at h1 h2; exact eq_of_nlt h1 h2
theorem cmp_lays (blk off size : Nat) (w : World) : CmpLays Tryz.prog 84 #[] cID 2 cmpID blk off size w :=
  fun _ _ _ _ x y => (cmpID_kd x y _).mono fun _ _ ⟨he, hk⟩ => ⟨he, hk.grows⟩
theorem blk_grow {w : World} {g : Nat} {t : TypeId} {cs : Array Value} (h : Blk w g t cs) (os : Array Obj) : Blk (grow w os) g t cs := by
  have := h.lt
  unfold Blk grow at *
  rw [Array.getElem?_append_left this]; exact h
theorem blk_put {w : World} {g : Nat} {t : TypeId} {cs : Array Value} (h : Blk w g t cs) (f : Array Value → Array Value) : Blk (mapBlock w g f) g t (f cs) := by
  unfold Blk mapBlock at *
  simp [Array.getElem?_modify, h, onCells]
theorem blk_sorted {w : World} {g : Nat} {t : TypeId} {cs : Array Value} (h : Blk w g t cs) (off q : Nat) (d : Array ID) (os : Array Obj) :
    Blk (sortWorldK cID 2 w g off q d os) g t (putCells id off (flatK cID 2 d) cs) := by
  unfold sortWorldK putRowK putRow
  exact blk_grow (blk_put (w := Sort.ahead w q) h _) _
theorem keep_sorted {w : World} {g off q : Nat} (d : Array ID) (os : Array Obj) : Keep (fun k => some g = some k) w (sortWorldK cID 2 w g off q d os) := by
  refine ⟨rfl, rfl, rfl, ?_, fun k hk hn => ?_⟩
  · unfold sortWorldK; rw [size_grow]; show _ ≤ (putRow id (Sort.ahead w q) g off _).heap.size + _; rw [Go.Sort.size_putRow]; exact Nat.le_add_right _ _
  · have hne : g ≠ k := fun e => hn (by rw [e])
    unfold sortWorldK putRowK putRow grow mapBlock Sort.ahead
    simp only
    rw [Array.getElem?_append_left (by simpa using hk), Array.getElem?_modify, if_neg hne]
theorem holds_of_lies {w : World} {g off n : Nat} {t : TypeId} {cs : Array Value} {l : List ID} (hb : Blk w g t cs) (hl : l.length = n) (h : Lies cs off (fun i => l.getD i (0, 0)) 0 n) :
    HoldsK cID 2 w g off l.toArray := by
  intro j hj
  rw [size_flatK] at hj
  have hj2 : j < l.length * 2 := by simpa using hj
  have hi : j / 2 < l.length := by omega
  refine ⟨?_, hb.frozen _⟩
  rw [get_flatK _ _ _ _ hj, hb.cell]
  have := h (j / 2) (by omega) (by omega)
  have e : l.getD (j / 2) (0, 0) = l[j / 2] := by simp [List.getD, hi]
  have e2 : l.toArray[j / 2]! = l[j / 2] := by simp [hi]
  rw [e2]
  simp only [e] at this
  rcases (by omega : j % 2 = 0 ∨ j % 2 = 1) with h0 | h0
  · rw [h0, show off + j = off + j / 2 * 2 by omega, this.1]; rfl
  · rw [h0, show off + j = off + j / 2 * 2 + 1 by omega, this.2]; rfl
theorem lies_of_holds {w : World} {g off n : Nat} {t : TypeId} {cs : Array Value} {l : List ID} (hb : Blk w g t cs) (hl : l.length = n) (h : HoldsK cID 2 w g off l.toArray) :
    Lies cs off (fun i => l.getD i (0, 0)) 0 n := by
  intro i _ hi
  have hi' : i < l.length := by omega
  have e : l.getD i (0, 0) = l[i] := by simp [List.getD, hi']
  have e2 : l.toArray[i]! = l[i] := by simp [hi']
  have c0 := (HoldsK.cell h (i := i) (c := 0) (by simpa using hi') (by omega)).1
  have c1 := (HoldsK.cell h (i := i) (c := 1) (by simpa using hi') (by omega)).1
  rw [e2, hb.cell] at c0 c1
  simp only [e]
  exact ⟨c0, c1⟩
/-- what SortFunc leaves: in the same block -/
def Srt (row : Option Nat) (A : Option Addr) (n c : Nat) (l : List ID) (w : World) (e : Ending) (w' : World) : Prop :=
  e = .returned (.tuple #[]) ∧ SlK w' 24 2 row A n c ((sortM l).flatMap cID) ∧ Keep (fun g => row = some g) w w'
theorem sort_any (row : Option Nat) (A : Option Addr) (n c : Nat) (l : List ID) (w : World) (h : SlK w 24 2 row A n c (l.flatMap cID)) (hn : n < 4611686018427387904) :
    Calls Tryz.prog 112 #[.slice A n c, .func (.func 84) #[] #[]] w (Srt row A n c l w) := by
  by_cases h0 : n = 0
  · subst h0
    have hl : l = [] := List.eq_nil_of_length_eq_zero (by have := h.1; rw [flat_len cID 2 (fun _ => rfl)] at this; omega)
    subst hl
    have hs : sortM [] = [] := List.eq_nil_of_length_eq_zero (sortM_len [])
    have hS := AnyF.slices_SortFunc_none (P := Tryz.prog) (ρ := Tryz.sortL_ren) { Tryz.sortL with } A c (.func (.func 84) #[] #[]) w
    change Calls Tryz.prog 112 _ _ _ at hS
    exact hS.mono fun _ _ ⟨he, hw⟩ => ⟨he, by rw [hs, hw]; exact h, by rw [hw]; exact Keep.refl _ _⟩
  · obtain ⟨hl, g, off, cs, rfl, rfl, hb, hs, hli⟩ := h.lies (by omega)
    have eg : ∀ args w, (callFunc 84 args).run Tryz.prog w = .ok (.enter 84 args) w := enters_of Tryz.func84 (by kernel_rfl) rfl
    have hH := holds_of_lies hb hl hli
    have hsz : l.toArray.size = n := by simpa using hl
    have hS := AnyQ.slices_SortFunc_total Tryz.sortL 2 Tryz.isAgg24 Tryz.sizeOf24 cID (fun _ => rfl) (fun x u hu => by simp at hu; rcases hu with rfl | rfl <;> rfl) cmpID swo_ID 84 #[] g off c l.toArray w eg
      (cmp_lays _ _ _ _) hH hb.lt (by rw [hsz]; exact hn) tot_ID
    rw [hsz] at hS
    change Calls Tryz.prog 112 _ _ _ at hS
    refine hS.mono ?_
    rintro e w' ⟨rfl, q, os, rfl⟩
    rw [ltOf_ID]
    have e1 : (l.toArray.toList.mergeSort fun x y => !ltID y x).toArray = (sortM l).toArray := by simp [sortM]
    rw [e1]
    have hlen : (sortM l).length = n := by rw [sortM_len, hl]
    have hb' := blk_sorted hb off q (sortM l).toArray os
    have hH' := holdsK_sortWorldK_c cID 2 w g off l.toArray (sortM l).toArray q os hH hb.lt (by simp [hlen, hl])
    refine ⟨rfl, SlK.of_lies hlen h.2.1 h.2.2.1 hb' (by simpa [putCells] using hs) (lies_of_holds hb' hlen hH'), keep_sorted _ _⟩
end Go.Proofs.YtgoldgamjogadaaGreat

namespace Go.Proofs.YtgoldgamjogadaaGreat
open Go.RowKit


/-- The iterator gives, whatever is done with each element; it writes new blocks alone, and of these at most the one that is made first is written again. -/
def Gives (n : Nat) (P : Program) (g : Nat) (lb : Array Value) {α : Type} (enc : α → Value) (S : List α → Prop) (N : Nat) (w : World) : Prop :=
  ∀ (l : Nat) (J : List α → World → Prop) (W : World), Below w.heap.size w W → (∀ s W1 W2, J s W1 → W.heap.size ≤ W1.heap.size → W1.grownBy W2 (some W.heap.size) → J s W2) →
    (∀ pre x W1, J pre W1 → W.heap.size < W1.heap.size → pre.length < N → YieldAt Fence.wide (n - 1) P l #[enc x] W1 fun e W' =>
      e = .returned (.bool true) ∧ J (pre ++ [x]) W' ∧ W1.heap.size ≤ W'.heap.size ∧ W'.heap[W.heap.size]? = W1.heap[W.heap.size]? ∧ Below w.heap.size w W') →
    J [] W →
    CallsIn Fence.wide n P g (#[.func (.yield l) #[] #[]] ++ lb) W fun e W' => (∃ v, e = .returned v) ∧ ∃ xs, S xs ∧ J xs W'

def bodyOf : Option Code → Code
  | some c => c
  | .none => .skip
def fstS : Code → Code
  | .seq a _ => a
  | _ => .skip
def sndS : Code → Code
  | .seq _ b => b
  | _ => .skip
def inBlk : Code → Code
  | .block _ c => c
  | _ => .skip
def rfAssign : Code → Code
  | .rangeFunc _ _ a _ => a
  | _ => .skip
def rfBody : Code → Code
  | .rangeFunc _ _ _ b => b
  | _ => .skip
def acOf (f : Func) : Code := rfAssign (inBlk (sndS (fstS (sndS (bodyOf f.body)))))
def bcOf (f : Func) : Code := rfBody (inBlk (sndS (fstS (sndS (bodyOf f.body)))))
/-- The loop's record: AppendSeq's temporaries as they stood at the entering: 's' boxed in block Bs; sv: the iterator's value. -/
def apRec (ac bc : Code) (fn : FuncId) (sv : Value) (Bs D : Nat) (st : LoopState) (pend : Option Code) : Loop :=
  { state := st, pending := pend, fn, tmps := #[.slice none 0 0, sv, .pointer (some ⟨Bs, 0, none⟩), undef, .slice none 0 0, undef, sv, undef, undef, undef, undef, undef, undef], params := #[7], assign := ac, body := bc, defers := D }

/-- Between two rounds: the box holds a slice that owns what has come so far. -/
structure ApAt (ac bc : Code) (w0 : World) (fn : FuncId) (sv : Value) (Bs l D t : Nat) (ss : List ID) (W : World) : Prop where
  box : ∃ v, W.heap[Bs]? = some (.cells #[v] 29 (0, 0)) ∧ W.ownsRow w0.heap.size 24 2 v ss.length (ss.flatMap cID) ∧ (v = .slice none 0 0 ↔ ss = []) ∧ v.ownBlock ≠ some t
  L : W.heap[l]? = some (.loop (apRec ac bc fn sv Bs D .ready none))
  K : W.heap[D]? = some (.deferred (some []))
  below : Below w0.heap.size w0 W

theorem ap_abides (ac bc : Code) (w0 : World) (fn : FuncId) (sv : Value) (Bs l D t : Nat) (hBt : Bs ≠ t) (hlt : l ≠ t) (hDt : D ≠ t) (h0 : w0.heap.size ≤ t) (s : List ID) (W W' : World) (h : ApAt ac bc w0 fn sv Bs l D t s W) (hg : W.grownBy W' (some t)) : ApAt ac bc w0 fn sv Bs l D t s W' := by
  obtain ⟨v, hv, hr, hn, ht⟩ := h.box
  have keep : ∀ k o, W.heap[k]? = some o → k ≠ t → W'.heap[k]? = some o := fun k o hk hne => (hg.block k (Array.getElem?_eq_some_iff.1 hk).1 (fun e => hne (by injection e))).trans hk
  exact ⟨⟨v, keep _ _ hv hBt, hr.kept hg (.inr ht), hn, ht⟩, keep _ _ h.L hlt, keep _ _ h.K hDt, h.below.grown hg h.below.size (fun k e => by injection e with e; omega)⟩

theorem grownBy_putObj (W : World) (l : Nat) (o : Obj) : W.grownBy (W.putObj l o) (some l) :=
  ⟨rfl, rfl, rfl, by simp, fun k _ hk => World.putObj_heap_other (fun e => hk (by rw [e]))⟩
theorem grownBy_setCell0 (W : World) (b : Nat) (v : Value) : W.grownBy (W.setCell ⟨b, 0, none⟩ v) (some b) :=
  ⟨rfl, rfl, rfl, (KeepsWalks.setCell W _ v).size, fun k _ hk => Below.heap_setCell _ _ _ k (fun e => hk (by rw [e]))⟩
theorem ownsRow_ne {W : World} {base : Nat} {e : TypeId} {size : Nat} {v : Value} {k : Nat} {xs : List Value} (h : W.ownsRow base e size v k xs) {j : Nat} {o : Obj} (hj : W.heap[j]? = some o) (hno : ∀ cur, o ≠ .cells cur e (0, 0)) :
    v.ownBlock = none ∨ v.ownBlock ≠ some j := by
  rcases h.2 with ⟨rfl, _⟩ | ⟨g, cap, cur, rfl, _, hgb, _⟩
  · exact .inl rfl
  · refine .inr fun e' => ?_
    have : g = j := by simpa [Value.ownBlock] using e'
    subst this; rw [hgb] at hj; cases hj; exact hno cur rfl
theorem cell_of_box {W : World} {B : Nat} {v : Value} {t : TypeId} (h : W.heap[B]? = some (.cells #[v] t (0, 0))) : W.cell? ⟨B, 0, none⟩ = some v ∧ W.frozen? ⟨B, 0, none⟩ = false := by
  constructor <;> simp [World.cell?, World.frozen?, h]
theorem heap_setCell_box {W : World} {B : Nat} {v : Value} {t : TypeId} (v' : Value) (h : W.heap[B]? = some (.cells #[v] t (0, 0))) : (W.setCell ⟨B, 0, none⟩ v').heap[B]? = some (.cells #[v'] t (0, 0)) := by
  obtain ⟨hlt, hk⟩ := Array.getElem?_eq_some_iff.1 h
  show (W.heap.modify B _)[B]? = _
  rw [Array.getElem?_eq_getElem (by rw [Array.size_modify]; exact hlt), Array.getElem_modify_self, hk]
  rfl
theorem cell_two_new (w : World) (x : ID) (t : TypeId) : ∀ j u, (cID x)[j]? = some u → (w.alloc (.cells #[.int .i64 x.1, .int .i64 x.2] t)).cell? ((⟨w.heap.size, 0, none⟩ : Addr).add j) = some u := by
  intro j u hu
  have hb := Blk.new w t #[.int .i64 x.1, .int .i64 x.2]
  rw [Addr.add_lit, hb.cell]
  match j, hu with
  | 0, hu => simpa using hu
  | 1, hu => simpa using hu
  | j + 2, hu => simp at hu
theorem info_ID : (Tryz.prog.info? 24).map (fun i => (i.zero, i.size, i.bytes)) = some (some (.agg #[.int .i64 0, .int .i64 0]), 2, 16) := by kernel_rfl

set_option maxRecDepth 100000 in
set_option maxHeartbeats 2000000 in
theorem apYield (ac bc : Code) (hac : ac = acOf Tryz.f114) (hbc : bc = bcOf Tryz.f114) (m : Nat) (w0 : World) (fn : FuncId) (sv : Value) (Bs l D t : Nat) (hBl : Bs ≠ l) (hDl : D ≠ l) (hDB : D ≠ Bs) (h0B : w0.heap.size ≤ Bs) (h0l : w0.heap.size ≤ l) (hBt : Bs ≠ t) (hlt : l ≠ t) (hDt : D ≠ t) (h0t : w0.heap.size ≤ t)
    (N : Nat) (hN : N ≤ maxLen) (hNb : N * 16 ≤ 140737488355328) (ss : List ID) (x : ID) (W : World) (h : ApAt ac bc w0 fn sv Bs l D t ss W) (htW : t < W.heap.size) (hlen : ss.length < N)
    (R : Ending → World → Prop) (hR : ∀ W', ApAt ac bc w0 fn sv Bs l D t (ss ++ [x]) W' → W.heap.size ≤ W'.heap.size → W'.heap[t]? = W.heap[t]? → R (.returned (.bool true)) W') :
    YieldAt Fence.wide m Tryz.prog l #[idV x] W R := by
  have HA := Lib.hid hac
  have HB := Lib.hid hbc
  have HR := Lib.hid hR
  clear hac hbc hR
  obtain ⟨i0, hi, hz0, hz1, hz2⟩ := info_parts info_ID
  obtain ⟨W1, hW1⟩ : ∃ W1, W.alloc (.cells #[.int .i64 x.1, .int .i64 x.2] 24) = W1 := ⟨_, rfl⟩
  have hE1 : Blk W1 W.heap.size 24 #[.int .i64 x.1, .int .i64 x.2] := by rw [← hW1]; exact Blk.new _ _ _
  have h1 : ApAt ac bc w0 fn sv Bs l D t ss W1 := by rw [← hW1]; exact ap_abides _ _ _ _ _ _ _ _ _ hBt hlt hDt h0t _ _ _ h (World.grownBy_alloc W _ _)
  have hs1 : W1.heap.size = W.heap.size + 1 := by rw [← hW1]; simp
  have ht1 : W1.heap[t]? = W.heap[t]? := by rw [← hW1]; exact Below.heap_alloc _ _ t htW
  have hlW : l < W.heap.size := (Array.getElem?_eq_some_iff.1 h.L).1
  obtain ⟨v, hv, hrow, _, htv⟩ := h1.box
  refine ⟨fn, #[.slice none 0 0, sv, .pointer (some ⟨Bs, 0, none⟩), undef, .slice none 0 0, undef, sv, idV x, undef, undef, undef, undef, undef], ac, bc, by simpa [apRec] using run_yield (P := Tryz.prog) (args := #[idV x]) h.L rfl, roundIn_of_wpIn trivial ?_⟩
  have hl : l < W1.heap.size := (Array.getElem?_eq_some_iff.1 h1.L).1
  have hbr := run_beginRound (P := Tryz.prog) h1.L rfl
  obtain ⟨W2, hW2⟩ : ∃ W2, W1.putObj l (.loop { apRec ac bc fn sv Bs D .ready none with state := .busy }) = W2 := ⟨_, rfl⟩
  rw [hW2, ← hW1] at hbr
  have hg2 : W1.grownBy W2 (some l) := by rw [← hW2]; exact grownBy_putObj _ _ _
  have hs2 : W.heap.size ≤ W2.heap.size := by have := hg2.size; omega
  have ht2 : W2.heap[t]? = W.heap[t]? := (hg2.block t (by omega) (fun e => hlt (by injection e with e; exact e.symm))).trans ht1
  have hv2 : W2.heap[Bs]? = some (.cells #[v] 29 (0, 0)) := by rw [← hW2]; exact (World.putObj_heap_other hBl).trans hv
  have hE2 : Blk W2 W.heap.size 24 #[.int .i64 x.1, .int .i64 x.2] := by rw [← hW2]; exact (World.putObj_heap_other (by omega)).trans hE1
  have hE20 := hE2.cell 0
  have hE21 := hE2.cell 1
  have hK2 : W2.heap[D]? = some (.deferred (some [])) := by rw [← hW2]; exact (World.putObj_heap_other hDl).trans h1.K
  have hL2 : W2.heap[l]? = some (.loop { apRec ac bc fn sv Bs D .ready none with state := .busy }) := by rw [← hW2]; exact World.putObj_heap_same hl
  have hrow2 : W2.ownsRow w0.heap.size 24 2 v ss.length (ss.flatMap cID) := hrow.kept hg2 (ownsRow_ne hrow h1.L (fun cur e => by cases e))
  have hb2 : Below w0.heap.size w0 W2 := h1.below.grown hg2 h1.below.size (fun k e => by cases e; exact h0l)
  obtain ⟨hc2, hf2⟩ := cell_of_box hv2
  have hBlt : Bs < W2.heap.size := (Array.getElem?_eq_some_iff.1 hv2).1
  have hl2 : l < W2.heap.size := (Array.getElem?_eq_some_iff.1 hL2).1
  have hDlt : D < W2.heap.size := (Array.getElem?_eq_some_iff.1 hK2).1
  have ne_of : ∀ (j : Nat) (o : Obj), W2.heap[j]? = some o → (∀ cur, o ≠ .cells cur 24 (0, 0)) → some j ≠ v.ownBlock := fun j o hj hno => by
    rcases ownsRow_ne hrow2 hj hno with e | e
    · rw [e]; simp
    · exact fun e' => e e'.symm
  clear hW2
  have HK2 := Lib.hid hK2
  have HL2 := Lib.hid hL2
  have HG2 := Lib.hid hg2
  have HT2 := Lib.hid ht2
  have HW := Lib.hid htW
  have HV2 := Lib.hid hv2
  have HNe := Lib.hid ne_of
  clear hg2 ht2 hrow hv h h1 htW hK2 hL2 hv2 ne_of hE1 hE2 hW1 hs1 ht1 hlW hl
  rw [HA.out, HB.out]
  simp only [acOf, bcOf, rfAssign, rfBody, inBlk, sndS, fstS, bodyOf, Tryz.f114]
  gi_wp2_with (first
    | (gi_at_builtin; refine wpListIn_append_own_at _ rfl _ _ 29 rfl w0.heap.size 24 i0 (.agg #[.int .i64 0, .int .i64 0]) 2 16 Tryz.underlying29 hi hz0 hz1 hz2 rfl (by decide) _ _ _ rfl (hrow2.alloc _) ⟨W2.heap.size, 0, none⟩ 1 1 (cID x) rfl rfl (cell_two_new _ _ _) (by intro u hu; simp at hu; rcases hu with rfl | rfl <;> rfl) (by omega) (by omega) (by have := hb2.size; simp; omega) ?_; intro v' w3 hown' hg3 hnil3 hat3
       have hv3 : w3.heap[Bs]? = some (.cells #[v] 29 (0, 0)) := (hg3.block Bs (by simp; omega) (HNe.out _ _ HV2.out (fun cur e => by cases e))).trans ((Below.heap_alloc _ _ Bs hBlt).trans HV2.out)
       obtain ⟨hc3, hf3⟩ := cell_of_box hv3
       obtain ⟨g', cap', cur', rfl, hbase', hgb', hr1, hr2, hr3, hr4⟩ : ∃ g' cap' cur', v' = .slice (some ⟨g', 0, none⟩) (ss.length + 1) cap' ∧ w0.heap.size ≤ g' ∧ w3.heap[g']? = some (.cells cur' 24 (0, 0)) ∧ ss.length + 1 ≤ cap' ∧ cap' ≤ maxLen ∧ cur'.size = cap' * 2 ∧ cur'.toList.take ((ss.length + 1) * 2) = ss.flatMap cID ++ (cID x) := by
         rcases hown'.2 with ⟨_, h0⟩ | h'
         · exact absurd h0 (by omega)
         · exact h'
       have HV3 := Lib.hid hv3
       clear hv3
       go_frame)
    | (rw [Oper.semAt_eq _ _ _ (fun c h => by cases h)]; go_simp))
  have hg3' : (W2.alloc (.cells #[.int .i64 x.1, .int .i64 x.2] 24)).grownBy w3 v.ownBlock := hg3
  have hat3' : some g' = v.ownBlock ∨ some g' = some (W2.alloc (.cells #[.int .i64 x.1, .int .i64 x.2] 24)).heap.size := hat3
  have hL3 : w3.heap[l]? = some (.loop { apRec ac bc fn sv Bs D .ready none with state := .busy }) := (hg3'.block l (by simp; omega) (HNe.out _ _ HL2.out (fun cur e => by cases e))).trans ((Below.heap_alloc _ _ l hl2).trans HL2.out)
  have hK3 : w3.heap[D]? = some (.deferred (some [])) := (hg3'.block D (by simp; omega) (HNe.out _ _ HK2.out (fun cur e => by cases e))).trans ((Below.heap_alloc _ _ D hDlt).trans HK2.out)
  have ht3 : w3.heap[t]? = W.heap[t]? := (hg3'.block t (by simp; have := HW.out; omega) (fun e => htv e.symm)).trans ((Below.heap_alloc _ _ t (by have := HW.out; omega)).trans HT2.out)
  have hs3 : W2.heap.size + 1 ≤ w3.heap.size := by have := hg3'.size; simp at this; omega
  have hv3 := HV3.out
  obtain ⟨w4, hw4⟩ : ∃ w4, w3.setCell ⟨Bs, 0, none⟩ (.slice (some ⟨g', 0, none⟩) (ss.length + 1) cap') = w4 := ⟨_, rfl⟩
  rw [hw4]
  have hg4 : w3.grownBy w4 (some Bs) := by rw [← hw4]; exact grownBy_setCell0 _ _ _
  have hv4 : w4.heap[Bs]? = some (.cells #[.slice (some ⟨g', 0, none⟩) (ss.length + 1) cap'] 29 (0, 0)) := by rw [← hw4]; exact heap_setCell_box _ hv3
  have hL4 : w4.heap[l]? = some (.loop { apRec ac bc fn sv Bs D .ready none with state := .busy }) := (hg4.block l (Array.getElem?_eq_some_iff.1 hL3).1 (fun e => hBl (by cases e; rfl))).trans hL3
  have hK4 : w4.heap[D]? = some (.deferred (some [])) := (hg4.block D (Array.getElem?_eq_some_iff.1 hK3).1 (fun e => hDB (by cases e; rfl))).trans hK3
  have ht4 : w4.heap[t]? = W.heap[t]? := (hg4.block t (by have := HW.out; omega) (fun e => hBt (by cases e; rfl))).trans ht3
  have hrow4 := hown'.kept hg4 (ownsRow_ne hown' hv3 (fun cur e => by cases e))
  have hl4 : l < w4.heap.size := (Array.getElem?_eq_some_iff.1 hL4).1
  have hb3 : Below w0.heap.size w0 w3 := (hb2.alloc hb2.size _).grown hg3' (by have := hb2.size; simp; omega) (fun k e => (hrow2.lt k e).1)
  have hb4 : Below w0.heap.size w0 w4 := hb3.grown hg4 hb3.size (fun k e => by cases e; exact h0B)
  have hs4 : w3.heap.size ≤ w4.heap.size := hg4.size
  have htg : some g' ≠ some t := by
    intro e
    rcases hat3' with h | h
    · exact htv (by rw [← h, e])
    · rw [e] at h; injection h with h; simp at h; have := HW.out; omega
  clear hw4
  have hrow5 := hrow4.kept (grownBy_putObj w4 l (.loop { { apRec ac bc fn sv Bs D .ready none with state := .busy } with state := if (none : Option Code).isNone then .ready else .done, pending := none })) (ownsRow_ne hrow4 hL4 (fun cur e => by cases e))
  refine ⟨_, _, run_endRound none hL4, HR.out _ ⟨⟨_, (World.putObj_heap_other hBl).trans hv4, by simpa using hrow5, by simp, by simpa [Value.ownBlock] using htg⟩, World.putObj_heap_same hl4, (World.putObj_heap_other hDl).trans hK4, hb4.grown (grownBy_putObj _ _ _) hb4.size (fun k e => by cases e; exact h0l)⟩ ?_ ?_⟩
  · exact Nat.le_trans (Nat.le_trans hs2 (by omega)) (grownBy_putObj _ _ _).size
  · exact (World.putObj_heap_other (fun e => hlt e.symm)).trans ht4

set_option maxRecDepth 100000 in
set_option maxHeartbeats 2000000 in
/-- slices.AppendSeq(nil, seq): it hands back just what the iterator gave, in that order. -/
theorem appendSeq_in (n : Nat) (hn : 2 ≤ n) (g : Nat) (lb : Array Value) (eg : ∀ args w, (callFunc g args).run Tryz.prog w = .ok (.enter g args) w)
    (S : List ID → Prop) (N : Nat) (hN : N ≤ maxLen) (hNb : N * 16 ≤ 140737488355328) (w : World) (hseq : Gives (n - 1) Tryz.prog g lb idV S N w) :
    CallsIn Fence.wide n Tryz.prog 114 #[.slice none 0 0, .func (.func g) #[] lb] w fun e w' => ∃ (v : Value) (ss : List ID), e = .returned v ∧ S ss ∧ w'.ownsRow w.heap.size 24 2 v ss.length (ss.flatMap cID) ∧ (v = .slice none 0 0 ↔ ss = []) ∧ Below w.heap.size w w' := by
  have h1 : 1 ≤ n := by omega
  refine callsIn_of_wp_marks Tryz.func114 rfl trivial ?_ rfl
  simp only [Tryz.ntmps114, List.size_toArray, List.length_cons, List.length_nil, Nat.reduceAdd, Nat.reduceSub, Array.replicate_succ, Array.replicate_zero, List.push_toArray, List.append_toArray, List.nil_append, List.cons_append]
  gi_wp2
  refine wpIn_rangeFunc ?_
  intro fn hfn
  have hro : Fence.wide.round = none := rfl
  rw [hro]
  obtain ⟨W0, hW0⟩ : ∃ W0, w.alloc (.cells #[.slice none 0 0] 29) = W0 := ⟨_, rfl⟩
  have hs0 : W0.heap.size = w.heap.size + 1 := by rw [← hW0]; simp
  have hv0 : W0.heap[w.heap.size]? = some (.cells #[.slice none 0 0] 29 (0, 0)) := by rw [← hW0]; exact World.alloc_heap_new w _
  have hb0 : Below w.heap.size w W0 := by rw [← hW0]; exact (Below.refl _ w).alloc (Nat.le_refl _) _
  rw [hW0]
  obtain ⟨W1, hW1⟩ : ∃ W1, (W0.alloc (.deferred (some []))).alloc (.loop (apRec (acOf Tryz.f114) (bcOf Tryz.f114) fn (.func (.func g) #[] lb) w.heap.size W0.heap.size .ready none)) = W1 := ⟨_, rfl⟩
  have hold : ∀ k, k < W0.heap.size → W1.heap[k]? = W0.heap[k]? := fun k hk => by
    rw [← hW1]; exact (Below.heap_alloc _ _ k (by simp; omega)).trans (Below.heap_alloc _ _ k hk)
  have hb1 : Below w.heap.size w W1 := by rw [← hW1]; exact (hb0.alloc hb0.size _).alloc (by have := hb0.size; simp; omega) _
  have hs1 : W1.heap.size = W0.heap.size + 2 := by rw [← hW1]; simp
  have hM : ApAt (acOf Tryz.f114) (bcOf Tryz.f114) w fn (.func (.func g) #[] lb) w.heap.size (W0.heap.size + 1) W0.heap.size W1.heap.size [] W1 :=
    ⟨⟨_, (hold w.heap.size (by omega)).trans hv0, ⟨rfl, .inl ⟨rfl, rfl⟩⟩, by simp, by simp [Value.ownBlock]⟩,
     by rw [← hW1]; have := World.alloc_heap_new (W0.alloc (.deferred (some []))) (.loop (apRec (acOf Tryz.f114) (bcOf Tryz.f114) fn (.func (.func g) #[] lb) w.heap.size W0.heap.size .ready none)); rwa [World.size_alloc] at this,
     by rw [← hW1]; exact (Below.heap_alloc _ _ _ (by simp)).trans (World.alloc_heap_new W0 _), hb1⟩
  refine ⟨W0.heap.size + 1, [{ target := .collected W0.heap.size, args := #[] }], W1, { target := .fn (.func g) lb, args := #[.func (.yield (W0.heap.size + 1)) #[] #[]] }, W1, g,
    #[.func (.yield (W0.heap.size + 1)) #[] #[]] ++ lb, W1, ?_, ?_, ?_, ?_, fun _ => h1, ?_⟩
  · rw [← hW1]; exact run_enterLoop_outer _ _ _ _ _
  · simp [resolve, go_sem]
  · intro f' hf'; trivial
  · simp [invoke, go_sem, eg]
  · refine (hseq (W0.heap.size + 1) (ApAt (acOf Tryz.f114) (bcOf Tryz.f114) w fn (.func (.func g) #[] lb) w.heap.size (W0.heap.size + 1) W0.heap.size W1.heap.size) W1 hb1
      (fun s A B hJ _ hg => ap_abides _ _ _ _ _ _ _ _ _ (by omega) (by omega) (by omega) hb1.size s A B hJ hg)
      (fun pre x W hJ hlt hl => apYield _ _ rfl rfl (n - 1 - 1) w fn _ w.heap.size (W0.heap.size + 1) W0.heap.size W1.heap.size (by omega) (by omega) (by omega) (Nat.le_refl _) (by omega) (by omega) (by omega) (by omega) hb1.size N hN hNb pre x W hJ hlt hl _
        (fun W' h1 h2 h3 => ⟨rfl, h1, h2, h3, h1.below⟩)) hM).mono ?_
    rintro e W2 ⟨⟨v0, rfl⟩, ss, hS, h2⟩
    obtain ⟨v, hv, hrow, hnil, _⟩ := h2.box
    have hend := run_endLoop (P := Tryz.prog) h2.L (by simp [apRec])
    obtain ⟨W3, hW3⟩ : ∃ W3, W2.putObj (W0.heap.size + 1) (.loop { apRec (acOf Tryz.f114) (bcOf Tryz.f114) fn (.func (.func g) #[] lb) w.heap.size W0.heap.size .ready none with state := .exhausted }) = W3 := ⟨_, rfl⟩
    rw [hW3] at hend
    have hg3 : W2.grownBy W3 (some (W0.heap.size + 1)) := by rw [← hW3]; exact grownBy_putObj _ _ _
    have hv3 : W3.heap[w.heap.size]? = some (.cells #[v] 29 (0, 0)) := by rw [← hW3]; exact (World.putObj_heap_other (by omega)).trans hv
    have hK3 : W3.heap[W0.heap.size]? = some (.deferred (some [])) := by rw [← hW3]; exact (World.putObj_heap_other (by omega)).trans h2.K
    have hrow3 := hrow.kept hg3 (ownsRow_ne hrow h2.L (fun cur e => by cases e))
    have hb3 : Below w.heap.size w W3 := h2.below.grown hg3 h2.below.size (fun k e => by cases e; omega)
    obtain ⟨hc3, hf3⟩ := cell_of_box hv3
    clear hW3
    refine ⟨none, W3, hend, ?_⟩
    gi_wp2
    rw [← hs0]
    refine ⟨by simp, .inl ⟨_, _, rfl, run_takeDeferred hK3, ?_⟩⟩
    exact ⟨_, results_tmp rfl _ _ _, v, ss, rfl, hS, hrow3.kept (grownBy_putObj _ _ _) (ownsRow_ne hrow3 hK3 (fun cur e => by cases e)), hnil, hb3.grown (grownBy_putObj _ _ _) hb3.size (fun k e => by cases e; omega)⟩

set_option maxHeartbeats 1000000 in
theorem collect_any (n : Nat) (hn : 3 ≤ n) (g : Nat) (lb : Array Value) (eg : ∀ args w, (callFunc g args).run Tryz.prog w = .ok (.enter g args) w)
    (S : List ID → Prop) (N : Nat) (hN : N ≤ maxLen) (hNb : N * 16 ≤ 140737488355328) (w : World) (hseq : Gives (n - 1 - 1) Tryz.prog g lb idV S N w) :
    Calls Tryz.prog 111 #[.func (.func g) #[] lb] w fun e w' => ∃ (v : Value) (ss : List ID), e = .returned v ∧ S ss ∧ w'.ownsRow w.heap.size 24 2 v ss.length (ss.flatMap cID) ∧ (v = .slice none 0 0 ↔ ss = []) ∧ Below w.heap.size w w' := by
  go_enter Tryz.func111, Tryz.ntmps111
  go_wp2_with fail
  refine (callsIn_wide.1 (appendSeq_in (n - 1) (by omega) g lb eg S N hN hNb _ hseq)).mono ?_
  rintro e w' ⟨v, ss, rfl, hS, hrow, hnil, hb⟩
  go_wp2
  go_ret
  exact ⟨v, ss, rfl, hS, hrow, hnil, hb⟩
end Go.Proofs.YtgoldgamjogadaaGreat

namespace Go.Proofs.YtgoldgamjogadaaGreat
open Go.RowKit

set_option maxRecDepth 100000 in
set_option maxHeartbeats 2000000 in
theorem values1_in (n : Nat) (hn : 1 ≤ n) (w : World) (Bn : Nat) (A : Option Addr) (m c : Nat) (l0 : List ID) (hm : m ≤ 4611686018427387904)
    (hB : w.cell? ⟨Bn, 0, none⟩ = some (.slice A m c)) (hs : RdI w A m l0) :
    Gives n Tryz.prog 113 #[.pointer (some ⟨Bn, 0, none⟩)] idV (fun xs => xs = l0) m w := by
  intro l J W hW hJ hY hJ0
  have lB : Bn < w.heap.size := World.block_lt_of_cell? w _ hB
  have HJ := Lib.hid hJ
  have HY := Lib.hid hY
  have HS := Lib.hid hs
  have HB0 := Lib.hid hB
  have HW := Lib.hid hW
  have hB' := (hW.cell (p := ⟨Bn, 0, none⟩) lB).trans hB
  have hsz := hW.size
  clear hJ hY hs hB hW
  refine callsIn_of_wp Tryz.func113 rfl trivial ?_ rfl
  simp only [Tryz.ntmps113, List.size_toArray, List.length_cons, List.length_nil, Nat.reduceAdd, Nat.reduceSub, Array.replicate_succ, Array.replicate_zero, List.push_toArray, List.append_toArray, List.nil_append, List.cons_append]
  gi_wp2
  gi_loopw [7] (fun i wr => ∃ k : Nat, k ≤ m ∧ i = .int .i64 k ∧ J (l0.take k) wr ∧ Below w.heap.size w wr ∧ W.heap.size ≤ wr.heap.size)
    (fun i _ => m - (intOf i).toNat)
  case atStart => exact ⟨0, Nat.zero_le _, rfl, by rw [List.take_zero]; exact hJ0, HW.out, Nat.le_refl _⟩
  case round =>
    obtain ⟨k, hk, rfl, hJk, hbk, hsk⟩ := hrel
    by_cases hlt : k < m
    · obtain ⟨g, off, hA, c0, c1⟩ := HS.out.at_ hlt
      have lg : g < w.heap.size := World.block_lt_of_cell? w _ c0
      have q0 := (hbk.cell (p := ⟨g, off + k * 2, none⟩) lg).trans c0
      have q1 := (hbk.cell (p := ⟨g, off + k * 2 + 1, none⟩) lg).trans c1
      have hl0 : k < l0.length := by rw [HS.out.1]; exact hlt
      have hx : l0.take (k + 1) = l0.take k ++ [l0.getD k (0, 0)] := by rw [List.take_succ_eq_append_getElem hl0]; simp [List.getD, hl0]
      have HStep := Lib.hid hx
      subst hA
      clear c0 c1 hx
      generalize l0.getD k (0, 0) = x at q0 q1 HStep
      obtain ⟨a, i⟩ := x
      simp only at q0 q1
      obtain ⟨W1, hW1⟩ : ∃ W1, wr.alloc (.cells #[.int .i64 a, .int .i64 i] 24) = W1 := ⟨_, rfl⟩
      have hE : Blk W1 wr.heap.size 24 #[.int .i64 a, .int .i64 i] := by rw [← hW1]; exact Blk.new _ _ _
      have hE0 := hE.cell 0
      have hE1 := hE.cell 1
      have hJ1 : J (l0.take k) W1 := by rw [← hW1]; exact HJ.out _ _ _ hJk hsk (World.grownBy_alloc wr _ _)
      have hb1 : Below w.heap.size w W1 := by rw [← hW1]; exact hbk.alloc hbk.size _
      have hs1 : W.heap.size < W1.heap.size := by rw [← hW1]; simp; omega
      obtain ⟨fn, tmps, assign, body, hy, hR⟩ := HY.out (l0.take k) (a, i) _ hJ1 hs1 (by rw [List.length_take, HS.out.1]; omega)
      clear hE hJ1 hJ0 hB'
      rw [← hW1] at hE0 hE1 hy
      have HW1 := Lib.hid hW1
      have HR := Lib.hid hR
      clear hR hW1
      gi_wp2
      rw [HW1.out]
      refine HR.out.mono ?_
      rintro e W3 ⟨rfl, hJ3, hs3, ht3, hb3⟩
      gi_wp2
      go_roundw
      case rel => exact ⟨k + 1, by omega, by go_num, by rw [HStep.out]; exact hJ3, hb3, by omega⟩
      case measure => simp [intOf]; omega
    · obtain rfl : k = m := by omega
      have hfull : l0.take k = l0 := List.take_of_length_le (by rw [HS.out.1]; exact Nat.le_refl _)
      rw [hfull] at hJk
      clear hfull hB' hJ0
      gi_wp2
      go_end0
      exact ⟨⟨_, rfl⟩, _, rfl, hJk⟩

/-- slices.Values: the iterator over the box of the list -/
theorem values_any (A : Option Addr) (n c : Nat) (w : World) : Calls Tryz.prog 109 #[.slice A n c] w fun en w' =>
    en = .returned (.func (.func 113) #[] #[.pointer (some ⟨w.heap.size, 0, none⟩)]) ∧ w' = w.alloc (.cells #[.slice A n c] 29) := by
  go_enter Tryz.func109, Tryz.ntmps109
  go_wp2
  go_ret
  exact ⟨rfl, rfl⟩
end Go.Proofs.YtgoldgamjogadaaGreat

namespace Go.Proofs.YtgoldgamjogadaaGreat
open Go.RowKit

/-- Compact's answer: in the same block -/
def Cpt (row : Option Nat) (A : Option Addr) (c : Nat) (l : List ID) (w : World) (e : Ending) (w' : World) : Prop :=
  e = .returned (.slice A (dk l l.length).length c) ∧ SlK w' 24 2 row A (dk l l.length).length c ((dk l l.length).flatMap cID) ∧ Keep (fun g => row = some g) w w'

theorem SlK.keep0 {w w' : World} {e : TypeId} {k : Nat} {row : Option Nat} {A : Option Addr} {n c : Nat} {xs : List Value} (h : SlK w e k row A n c xs) (hk : Keep (fun _ => False) w w') : SlK w' e k row A n c xs := h.keep hk (fun _ _ h => h)
theorem take_one {l : List ID} {n : Nat} (h : l.length = n) (hn : 1 ≤ n) : dk l (0 + 1) = l.take (0 + 1) := by
  obtain _ | ⟨x, r⟩ := l
  · simp at h; omega
  · simp [dk]
theorem take_next {l : List ID} {k : Nat} {x : ID} (ht : dk l (k + 1) = l.take (k + 1)) (hl : k + 1 < l.length) (hx : l.getD (k + 1) (0, 0) = x) : dk l (k + 1) ++ [x] = l.take (k + 1 + 1) := by
  rw [ht, List.take_succ_eq_append_getElem hl, ← hx]; simp [List.getD, hl]
theorem take_all {l : List ID} {m : Nat} (ht : dk l m = l.take m) (hl : l.length = m) : dk l l.length = l := by
  rw [hl, ht, List.take_of_length_le (by omega)]
theorem lies_push {cs : Array Value} {off p : Nat} {d : List ID} {a i : Int} (h : Lies cs off (fun i => d.getD i (0, 0)) 0 p) (hs : off + p * 2 + 1 < cs.size) (hp : d.length = p) :
    Lies ((cs.setIfInBounds (off + p * 2) (.int .i64 a)).setIfInBounds (off + p * 2 + 1) (.int .i64 i)) off (fun j => (d ++ [(a, i)]).getD j (0, 0)) 0 (p + 1) := by
  have e : (d ++ [(a, i)]).getD p (0, 0) = (a, i) := by simp [List.getD, hp]
  have := h.put (g := fun j => (d ++ [(a, i)]).getD j (0, 0)) hs (fun j hj => by simp [List.getD, List.getElem?_append_left (by omega : j < d.length)])
  simpa only [e] using this
theorem infoC : (Tryz.prog.info? 24).map (fun i => (i.zero, i.size, i.bytes)) = some (some (.agg #[.int .i64 0, .int .i64 0]), 2, 16) := by kernel_rfl
theorem bI (x : Bool) (h : x = true) : (Value.bool x) = .bool true := by rw [h]
set_option maxRecDepth 100000 in
set_option maxHeartbeats 2000000 in
theorem compact_any (row : Option Nat) (A : Option Addr) (n c : Nat) (l : List ID) (w : World) (h : SlK w 24 2 row A n c (l.flatMap cID)) :
    Calls Tryz.prog 110 #[.slice A n c] w (Cpt row A c l w) := by
  have hlen : l.length = n := by have := h.1; rw [flat_len cID 2 (fun _ => rfl)] at this; omega
  have hnc := h.2.1
  have hcm := h.2.2.1
  unfold maxLen at hcm
  by_cases h2 : n < 2
  · have HD : Hid (dk l l.length = l) := Lib.hid (by
      rcases (by omega : n = 0 ∨ n = 1) with rfl | rfl
      · rw [hlen, dk]; exact (List.eq_nil_of_length_eq_zero hlen).symm
      · rw [hlen, dk_one]
        obtain ⟨x, rfl⟩ := List.length_eq_one_iff.1 hlen
        rfl)
    have H := Lib.hid h
    have HL := Lib.hid hlen
    clear h hlen
    have hI : (n : Int) < 2 := by omega
    go_enter Tryz.func110, Tryz.ntmps110
    go_wp2
    go_ret
    refine ⟨?_, ?_, Keep.refl _ _⟩
    · rw [HD.out, HL.out]; rfl
    · rw [HD.out, HL.out]; exact H.out
  · obtain ⟨_, g, off, cs, rfl, rfl, hb, hs, hli⟩ := h.lies (by omega)
    have H0 := Lib.hid h
    have HB := Lib.hid hb
    have HLI := Lib.hid hli
    have HLn := Lib.hid hlen
    clear h hb hli hlen
    have hI : ¬ (n : Int) < 2 := by omega
    go_enter Tryz.func110, Tryz.ntmps110
    go_wp2
    go_loopw [3] (fun i wr => ∃ k : Nat, k + 1 ≤ n ∧ i = .int .i64 ((k : Int) + 1) ∧ Hid (dk l (k + 1) = l.take (k + 1)) ∧ Hid (∃ q, wr = w.drewN q)) (fun i _ => n - (intOf i).toNat)
    case atStart => exact ⟨0, by omega, rfl, Lib.hid (take_one HLn.out (by omega)), Lib.hid ⟨0, rfl⟩⟩
    case round =>
      obtain ⟨k, hk, rfl, HT, HW⟩ := hrel
      obtain ⟨q, rfl⟩ := HW.out
      by_cases hlt : k + 1 < n
      · obtain ⟨p0, p1⟩ := HLI.out (k + 1) (by omega) hlt
        obtain ⟨q0, q1⟩ := HLI.out k (by omega) (by omega)
        have P0 := (HB.out.cell (off + (k + 1) * 2)).trans p0
        have P1 := (HB.out.cell (off + (k + 1) * 2 + 1)).trans p1
        have Q0 := (HB.out.cell (off + k * 2)).trans q0
        have Q1 := (HB.out.cell (off + k * 2 + 1)).trans q1
        clear p0 p1 q0 q1
        have HS := (fun h => dk_same (l := l) (m := k + 1) (by omega) h)
        have HN := (fun h => dk_next (l := l) (m := k + 1) h)
        simp only at P0 P1 Q0 Q1
        simp only [Nat.add_sub_cancel] at HS HN
        generalize hx : l.getD (k + 1) (0, 0) = x at *
        generalize hy : l.getD k (0, 0) = y at *
        obtain ⟨a, i⟩ := x
        obtain ⟨b, j⟩ := y
        simp only at P0 P1 Q0 Q1
        have HX := Lib.hid hx
        have HY := Lib.hid hy
        clear hx hy
        have hkI : (k : Int) + 1 < (n : Int) := by omega
        have hkL : (k : Int) < (n : Int) := by omega
        have e1 : IntKind.i64.wrap ((k : Int) + 1 - 1) = (k : Int) := (IntWalk.i64_in ((k : Int) + 1 - 1) (by omega)).trans (by omega)
        have e2 : IntKind.i64.wrap (k : Int) = (k : Int) := IntWalk.i64_in _ (by omega)
        have t1 : ((k : Int) + 1).toNat = k + 1 := by omega
        have hkM : (0 : Int) ≤ (k : Int) + 1 := by omega
        have hkJ : (0 : Int) ≤ (k : Int) := by omega
        by_cases he : (a, i) = (b, j)
        · have E := (fun W => by simpa [he] using eql_ID (a, i) (b, j) W : ∀ W, (binOp .eql 24 (idV (a, i)) (idV (b, j))).run Tryz.prog W = .ok (.bool true) W)
          have G := gID
          have HS2 := Lib.hid (HS he)
          clear he HS HN
          go_wp2
          go_quiet (fail)
          go_wp2
          go_loopw [3, 5] (fun i j wr => ∃ p r : Nat, k + 1 + r + 1 ≤ n ∧ p ≤ k + 1 + r ∧ i = .int .i64 (p : Int) ∧ j = .int .i64 ((r : Int) + 1) ∧ Hid ((dk l (k + 1 + r + 1)).length = p) ∧
            Hid (∃ cs', Blk wr g 24 cs' ∧ cs'.size = cs.size ∧ Lies cs' off (fun i => (dk l (k + 1 + r + 1)).getD i (0, 0)) 0 p ∧ Lies cs' off (fun i => l.getD i (0, 0)) (k + 1 + r) n) ∧ Hid (Keep (fun h => some g = some h) w wr)) (fun _ j _ => n - (intOf j).toNat)
          case atStart =>
            refine ⟨k + 1, 0, by omega, by omega, rfl, rfl, Lib.hid (by rw [Nat.add_zero, HS2.out, HT.out, List.length_take, HLn.out]; omega), Lib.hid ⟨cs, HB.out.drewN _, rfl, ?_, HLI.out.mono (by omega) (Nat.le_refl _)⟩, Lib.hid ((Keep.refl _ w).drewN _)⟩
            rw [Nat.add_zero, HS2.out, HT.out]
            exact (HLI.out.mono (Nat.le_refl _) (by omega)).ext (fun i _ hi => by simp [List.getD, hi])
          case round =>
            obtain ⟨p, r, hr, hp, rfl, rfl, HP, HC, HK⟩ := hrel
            by_cases hlt2 : k + 1 + r + 1 < n
            · obtain ⟨cs', hb', hsz, hl1, hl2⟩ := HC.out
              obtain ⟨p0, p1⟩ := hl2 (k + 1 + r + 1) (by omega) hlt2
              obtain ⟨q0, q1⟩ := hl2 (k + 1 + r) (by omega) (by omega)
              rw [show off + (k + 1 + r + 1) * 2 = off + (k + 1) * 2 + (r + 1) * 2 by omega] at p0 p1
              rw [show off + (k + 1 + r) * 2 = off + (k + 1) * 2 + r * 2 by omega] at q0 q1
              have R0 := (hb'.cell _).trans p0
              have R1 := (hb'.cell _).trans p1
              have S0 := (hb'.cell _).trans q0
              have S1 := (hb'.cell _).trans q1
              clear p0 p1 q0 q1 P0 P1 Q0 Q1
              have HB2 := Lib.hid hb'
              have HL1 := Lib.hid hl1
              have HL2 := Lib.hid hl2
              clear hb' hl1 hl2
              have HS := (fun h => dk_same (l := l) (m := k + 1 + r + 1) (by omega) h)
              have HN := (fun h => dk_next (l := l) (m := k + 1 + r + 1) h)
              simp only at R0 R1 S0 S1
              simp only [Nat.add_sub_cancel] at HS HN
              generalize hx2 : l.getD (k + 1 + r + 1) (0, 0) = x2 at *
              generalize hy2 : l.getD (k + 1 + r) (0, 0) = y2 at *
              obtain ⟨a2, i2⟩ := x2
              obtain ⟨b2, j2⟩ := y2
              simp only at R0 R1 S0 S1
              have HX2 := Lib.hid hx2
              clear hx2 hy2
              have f1 : (r : Int) + 1 < ((n - (k + 1) : Nat) : Int) := by omega
              have f2 : (r : Int) < ((n - (k + 1) : Nat) : Int) := by omega
              have f3 : IntKind.i64.wrap ((r : Int) + 1 - 1) = (r : Int) := (IntWalk.i64_in ((r : Int) + 1 - 1) (by omega)).trans (by omega)
              have f4 : IntKind.i64.wrap (r : Int) = (r : Int) := IntWalk.i64_in _ (by omega)
              have f5 : ((r : Int) + 1).toNat = r + 1 := by omega
              have f6 : (0 : Int) ≤ (r : Int) + 1 := by omega
              have f7 : (0 : Int) ≤ (r : Int) := by omega
              have f8 : (p : Int) < (n : Int) := by omega
              have f9 : (0 : Int) ≤ (p : Int) := by omega
              have hnc2 : off + p * 2 + 1 < cs'.size := by omega
              have T0 := (HB2.out.cell (off + p * 2)).trans (Array.getElem?_eq_getElem (by omega))
              have T1 := (HB2.out.cell (off + p * 2 + 1)).trans (Array.getElem?_eq_getElem (by omega))
              have F0 := HB2.out.frozen (off + p * 2)
              have F1 := HB2.out.frozen (off + p * 2 + 1)
              by_cases he2 : (a2, i2) = (b2, j2)
              · have E2 := (fun W => by simpa [he2] using neq_ID (a2, i2) (b2, j2) W : ∀ W, (binOp .neq 24 (idV (a2, i2)) (idV (b2, j2))).run Tryz.prog W = .ok (.bool false) W)
                have HS3 := Lib.hid (HS he2)
                clear he2 HS HN
                go_wp2
                go_quiet (fail)
                go_wp2
                go_roundw
                case rel => exact ⟨p, r + 1, by omega, by omega, by go_num, by go_num, Lib.hid (by rw [show k + 1 + (r + 1) + 1 = k + 1 + r + 1 + 1 by omega, HS3.out]; exact HP.out), Lib.hid ⟨cs', HB2.out.drewN _, hsz, by rw [show k + 1 + (r + 1) + 1 = k + 1 + r + 1 + 1 by omega, HS3.out]; exact HL1.out, HL2.out.mono (by omega) (Nat.le_refl _)⟩, Lib.hid (HK.out.drewN _)⟩
                case measure => simp [intOf]; omega
              · have E2 := (fun W => by simpa [he2] using neq_ID (a2, i2) (b2, j2) W : ∀ W, (binOp .neq 24 (idV (a2, i2)) (idV (b2, j2))).run Tryz.prog W = .ok (.bool true) W)
                have HN3 := Lib.hid (HN he2)
                clear he2 HS HN
                go_wp2
                go_quiet (fail)
                go_wp2
                have hLEN : (dk l (k + 1 + r + 1 + 1)).length = p + 1 := by rw [HN3.out, List.length_append, HP.out]; rfl
                go_roundw
                case rel =>
                  refine ⟨p + 1, r + 1, by omega, by omega, by go_num, by go_num, Lib.hid (by rw [show k + 1 + (r + 1) + 1 = k + 1 + r + 1 + 1 by omega]; exact hLEN), Lib.hid ⟨_, ((HB2.out.drewN _).set_ _ _).set_ _ _, by simp [hsz], ?_, ?_⟩, Lib.hid (((HK.out.drewN _).setCell (p := ⟨g, off + p * 2, none⟩) (fun _ => rfl) _).setCell (p := ⟨g, off + p * 2 + 1, none⟩) (fun _ => rfl) _)⟩
                  · rw [show k + 1 + (r + 1) + 1 = k + 1 + r + 1 + 1 by omega, HN3.out]
                    exact lies_push HL1.out hnc2 HP.out
                  · exact (HL2.out.mono (by omega) (Nat.le_refl _)).far (.inl (by omega)) _ _
                case measure => simp [intOf]; omega
            · obtain rfl : n = k + 1 + r + 1 := by omega
              have g1 : ¬ (r : Int) + 1 < ((k + 1 + r + 1 - (k + 1) : Nat) : Int) := by omega
              have g2 : (p : Int) < ((k + 1 + r + 1 : Nat) : Int) := by omega
              obtain ⟨cs', hb', hsz, hl1, hl2⟩ := HC.out
              obtain ⟨i0, hi, hz0, hz1, hz2⟩ := info_parts infoC
              have hz : ∀ W : World, (zeroValue 24).run Tryz.prog W = .ok (.agg #[.int .i64 0, .int .i64 0]) W := fun W => by simp [zeroValue, typeInfo, hi, hz0]
              have hc := run_clear_ID wr 29 24 0 _ Tryz.underlying29 hz (by simp [Value.cells, Value.oneCell']) (by simp [Value.cells]) hb' (off + p * 2) (k + 1 + r + 1 - p) (c - p) (by omega) (by simp [Value.cells]; omega)
              have HL1 := Lib.hid hl1
              have HKC := Lib.hid (HK.out.setCells (g := g) (fun _ => rfl) (off + p * 2) (Builtin.zeroCells (Value.agg #[.int .i64 0, .int .i64 0]).cells (k + 1 + r + 1 - p)).toList)
              have HBC := Lib.hid (hb'.setCells (off + p * 2) (Builtin.zeroCells (Value.agg #[.int .i64 0, .int .i64 0]).cells (k + 1 + r + 1 - p)).toList)
              clear hb' hl1 hl2 hi hz0 hz1 hz2 hz
              go_wp2
              go_ret
              obtain ⟨cs2, b1, b2, b3, _⟩ := HBC.out
              refine ⟨?_, ?_, HKC.out⟩
              · rw [HLn.out, HP.out]; rfl
              · rw [HLn.out, HP.out]
                exact SlK.of_lies HP.out (by omega) (by unfold maxLen; omega) b1 (by omega) (fun i h1 h2 => by
                  have := HL1.out i h1 h2
                  rw [b3 _ (.inl (by omega)), b3 _ (.inl (by omega))]
                  exact this)
        · have E := (fun W => by simpa [he] using eql_ID (a, i) (b, j) W : ∀ W, (binOp .eql 24 (idV (a, i)) (idV (b, j))).run Tryz.prog W = .ok (.bool false) W)
          have G := gID
          have HN2 := Lib.hid ((HN he).trans (take_next HT.out (by rw [HLn.out]; omega) HX.out))
          clear he HS HN
          go_wp2
          go_quiet (fail)
          go_wp2
          go_roundw
          case rel => exact ⟨k + 1, by omega, by go_num, Lib.hid (HN2.out), Lib.hid ⟨_, rfl⟩⟩
          case measure => simp [intOf]; omega
      · have hnI : ¬ (k : Int) + 1 < (n : Int) := by omega
        have HE := Lib.hid (take_all HT.out (show l.length = k + 1 by rw [HLn.out]; omega))
        go_wp2
        go_ret
        refine ⟨?_, ?_, (Keep.refl _ w).drewN _⟩
        · rw [HE.out, HLn.out]; rfl
        · rw [HE.out, HLn.out]; exact H0.out.keep0 ((Keep.refl _ w).drewN _)
end Go.Proofs.YtgoldgamjogadaaGreat

namespace Go.Proofs.YtgoldgamjogadaaGreat
open Go.RowKit

/-- new memory that holds a list of IDs -/
def NewI (l : List ID) (w : World) (e : Ending) (w' : World) : Prop :=
  ∃ row A c, e = .returned (.slice A l.length c) ∧ SlK w' 24 2 row A l.length c (l.flatMap cID) ∧ (∀ g, row = some g → w.heap.size ≤ g) ∧ Keep (fun _ => False) w w'
theorem keep0_of_own {w0 w w' : World} {row : Option Nat} (h : Keep (fun g => row = some g) w w') (h0 : Keep (fun _ => False) w0 w) (hr : ∀ g, row = some g → w0.heap.size ≤ g) : Keep (fun _ => False) w0 w' :=
  h0.trans (h.mono fun g _ e => .inr (hr g e))

set_option maxHeartbeats 1000000 in
/-- slices.SortedFunc(slices.Values(l), ident.Compare) -/
theorem sorted_any (Bn : Nat) (A : Option Addr) (n c : Nat) (l : List ID) (w : World) (hB : w.cell? ⟨Bn, 0, none⟩ = some (.slice A n c)) (h : RdI w A n l) (hn : n ≤ 1000000000) :
    Calls Tryz.prog 108 #[.func (.func 113) #[] #[.pointer (some ⟨Bn, 0, none⟩)], .func (.func 84) #[] #[]] w (NewI (sortM l) w) := by
  have eg : ∀ args w, (callFunc 113 args).run Tryz.prog w = .ok (.enter 113 args) w := enters_of Tryz.func113 (by kernel_rfl) rfl
  have hG := fun w' (hb : w' = w) => collect_any 3 (by omega) 113 #[.pointer (some ⟨Bn, 0, none⟩)] eg (fun xs => xs = l) n (by unfold maxLen; omega) (by omega) w' (by subst hb; exact values1_in 1 (by omega) w' Bn A n c l (by omega) hB h)
  have HG := Lib.hid hG
  have HL := Lib.hid h.1
  clear hG hB h
  go_enter Tryz.func108, Tryz.ntmps108
  go_wp2_with fail
  refine (HG.out _ rfl).mono ?_
  rintro e w1 ⟨v, ss, rfl, rfl, hrow, _, hb⟩
  obtain ⟨row, A1, c1, rfl, hs1, hr1⟩ := SlK.of_own hrow
  have hk1 := keep0_of_below hb
  have HS1 := Lib.hid hs1
  have HK1 := Lib.hid hk1
  have HR1 := Lib.hid hr1
  clear hrow hb hs1 hk1 hr1
  have hss : ss.length ≤ 1000000000 := by rw [HL.out]; exact hn
  go_wp2_with fail
  refine (sort_any row A1 ss.length c1 ss _ HS1.out (by omega)).mono ?_
  rintro e w2 ⟨rfl, hs2, hk2⟩
  have HS2 := Lib.hid hs2
  have HK2 := Lib.hid hk2
  clear hs2 hk2
  go_wp2
  go_ret
  exact ⟨row, A1, c1, by rw [sortM_len]; rfl, by rw [sortM_len]; exact HS2.out, HR1.out, keep0_of_own HK2.out HK1.out HR1.out⟩
set_option maxHeartbeats 1000000 in
theorem setT_any (A : Option Addr) (n c : Nat) (l : List ID) (w : World) (h : RdI w A n l) (hn : n ≤ 1000000000) :
    Calls Tryz.prog 101 #[.slice A n c, .func (.func 84) #[] #[]] w (NewI (setM l) w) := by
  have HR := Lib.hid h
  clear h
  go_enter Tryz.func101, Tryz.ntmps101
  go_wp2_with fail
  refine (values_any A n c _).mono ?_
  rintro e w1 ⟨rfl, hw⟩
  have hb : Blk w1 w.heap.size 29 #[.slice A n c] := by rw [hw]; exact Blk.new _ _ _
  have hk : Keep (fun _ => False) w w1 := by rw [hw]; exact (Keep.refl _ w).alloc _
  have HB := Lib.hid hb
  have HK := Lib.hid hk
  clear hb hk hw
  go_wp2_with fail
  refine (sorted_any w.heap.size A n c l w1 (HB.out.cell 0) (HR.out.keep0 HK.out) hn).mono ?_
  rintro e w2 ⟨row, A2, c2, rfl, hs2, hr2, hk2⟩
  have HS2 := Lib.hid hs2
  have HK2 := Lib.hid (keep0_trans _ _ _ HK.out hk2)
  have HR2 := Lib.hid (fun g hg => Nat.le_trans HK.out.size (hr2 g hg))
  clear hs2 hk2 hr2
  go_wp2_with fail
  refine (compact_any row A2 (sortM l).length c2 (sortM l) _ HS2.out).mono ?_
  rintro e w3 ⟨rfl, hs3, hk3⟩
  have HS3 := Lib.hid hs3
  have HK3 := Lib.hid hk3
  clear hs3 hk3
  go_wp2
  go_ret
  exact ⟨row, A2, c2, rfl, HS3.out, HR2.out, keep0_of_own HK3.out HK2.out HR2.out⟩
set_option maxHeartbeats 1000000 in
theorem set_any (A : Option Addr) (n c : Nat) (l : List ID) (w : World) (h : RdI w A n l) (hn : n ≤ 1000000000) :
    Calls Tryz.prog 86 #[.slice A n c] w (NewI (setM l) w) := by
  have HR := Lib.hid h
  clear h
  go_enter Tryz.func86, Tryz.ntmps86
  go_wp2_with fail
  refine (setT_any A n c l _ HR.out hn).mono ?_
  rintro e w1 ⟨row, A1, c1, rfl, hs, hr, hk⟩
  have HS := Lib.hid hs
  have HK := Lib.hid hk
  have HR1 := Lib.hid hr
  clear hs hk hr
  go_wp2
  go_ret
  exact ⟨row, A1, c1, rfl, HS.out, HR1.out, HK.out⟩
end Go.Proofs.YtgoldgamjogadaaGreat

namespace Go.Proofs.YtgoldgamjogadaaGreat
open Go.RowKit Go
set_option maxRecDepth 100000

set_option maxHeartbeats 1000000 in
theorem isame_any (A B : Option Addr) (n m c d : Nat) (l k : List ID) (w : World) (h : RdI w A n l) (h2 : RdI w B m k) (hn : n ≤ 1000000) (hm : m ≤ 1000000) :
    Calls Tryz.prog 64 #[.slice A n c, .slice B m d] w (Tell (.bool (decide (setM l = setM k))) w) := by
  have HR := Lib.hid h
  have HR2 := Lib.hid h2
  have HL1 := Lib.hid (show (setM l).length ≤ 1000000 by have := setM_len l; rw [h.1] at this; omega)
  have HL2 := Lib.hid (show (setM k).length ≤ 1000000 by have := setM_len k; rw [h2.1] at this; omega)
  clear h h2
  go_enter Tryz.func64, Tryz.ntmps64
  go_wp2_with fail
  refine (set_any A n c l _ HR.out (by omega)).mono ?_
  rintro e w1 ⟨row1, A1, c1, rfl, hs1, hr1, hk1⟩
  have HS1 := Lib.hid hs1
  have HK1 := Lib.hid hk1
  clear hs1 hr1 hk1
  go_wp2_with fail
  refine (set_any B m d k _ (HR2.out.keep0 HK1.out) (by omega)).mono ?_
  rintro e w2 ⟨row2, A2, c2, rfl, hs2, hr2, hk2⟩
  have HS2 := Lib.hid hs2
  have HS1 := Lib.hid (HS1.out.keep0 hk2)
  have HK2 := Lib.hid (keep0_trans _ _ _ HK1.out hk2)
  clear hs2 hr2 hk2
  go_wp2_with fail
  refine (equal_ids A1 A2 _ _ c1 c2 (setM l) (setM k) _ ⟨rfl, HS1.out.rd⟩ ⟨rfl, HS2.out.rd⟩ (by have := HL1.out; omega) (by have := HL2.out; omega)).mono ?_
  rintro e w3 ⟨rfl, hk3⟩
  have HK3 := Lib.hid (keep0_trans _ _ _ HK2.out hk3)
  clear hk3
  go_wp2
  go_ret
  exact ⟨rfl, HK3.out⟩
def sameRow (x y : RowM) : Bool := decide (x.of = y.of) && decide (x.ver = y.ver) && decide (setM x.no = setM y.no)
set_option maxHeartbeats 2000000 in
theorem rsame1_any (x y : RowV) (l k : List ID) (w : World) (h : RdI w x.A x.n l) (h2 : RdI w y.A y.n k) (hn : x.n ≤ 1000000) (hm : y.n ≤ 1000000) :
    Calls Tryz.prog 63 #[rowV x, rowV y] w (Tell (.bool (sameRow ⟨x.of, x.ver, l⟩ ⟨y.of, y.ver, k⟩)) w) := by
  obtain ⟨⟨a, i⟩, v, A, n, c⟩ := x
  obtain ⟨⟨b, j⟩, u, B, m, d⟩ := y
  obtain ⟨W0, hW0⟩ : ∃ W0, w.alloc (.cells #[.int .i64 a, .int .i64 i, .int .i64 v, .slice A n c] 37) = W0 := ⟨_, rfl⟩
  have hb : Blk W0 w.heap.size 37 #[.int .i64 a, .int .i64 i, .int .i64 v, .slice A n c] := by rw [← hW0]; exact Blk.new _ _ _
  have hk0 : Keep (fun _ => False) w W0 := by rw [← hW0]; exact (Keep.refl _ w).alloc _
  have hk1 : Keep (fun _ => False) W0 (W0.alloc (.cells #[.int .i64 b, .int .i64 j, .int .i64 u, .slice B m d] 37)) := (Keep.refl _ _).alloc _
  have hb1 := hb.keep hk1 (fun h => h)
  have hb2 : Blk (W0.alloc (.cells #[.int .i64 b, .int .i64 j, .int .i64 u, .slice B m d] 37)) W0.heap.size 37 #[.int .i64 b, .int .i64 j, .int .i64 u, .slice B m d] := Blk.new _ _ _
  have HK := Lib.hid (keep0_trans _ _ _ hk0 hk1)
  have x0 := hb1.cell 0
  have x1 := hb1.cell 1
  have x2 := hb1.cell 2
  have x3 := hb1.cell 3
  have y0 := hb2.cell 0
  have y1 := hb2.cell 1
  have y2 := hb2.cell 2
  have y3 := hb2.cell 3
  simp at x0 x1 x2 x3 y0 y1 y2 y3
  have HR := Lib.hid (h.keep0 HK.out)
  have HR2 := Lib.hid (h2.keep0 HK.out)
  clear hb hk0 hk1 hb1 hb2 h h2
  have G := gID
  by_cases h1 : (a, i) = (b, j)
  · have E := (fun W => by simpa [h1] using eql_ID (a, i) (b, j) W : ∀ W, (binOp .eql 24 (idV (a, i)) (idV (b, j))).run Tryz.prog W = .ok (.bool true) W)
    by_cases h2 : v = u
    · have HM := Lib.hid (show sameRow ⟨(a, i), v, l⟩ ⟨(b, j), u, k⟩ = decide (setM l = setM k) by unfold sameRow; simp only; rw [decide_eq_true h1, decide_eq_true h2]; rfl)
      have h2' : (v == u) = true := by simpa using h2
      clear h1 h2
      go_enter Tryz.func63, Tryz.ntmps63
      go_wp2_with fail
      refine (isame_any A B n m c d l k _ HR.out HR2.out hn hm).mono ?_
      rintro e w3 ⟨rfl, hk3⟩
      have HK3 := Lib.hid (keep0_trans _ _ _ HK.out hk3)
      clear hk3
      rw [← HM.out]
      generalize sameRow ⟨(a, i), v, l⟩ ⟨(b, j), u, k⟩ = r at *
      cases r
      all_goals
        go_wp2
        go_ret
        exact ⟨by first | rfl | (rw [HM.out]; rfl), HK3.out⟩
    · have HM := Lib.hid (show sameRow ⟨(a, i), v, l⟩ ⟨(b, j), u, k⟩ = false by unfold sameRow; simp only; rw [decide_eq_false h2, Bool.and_false]; rfl)
      have h2' : (v == u) = false := by simpa using h2
      clear h1 h2
      go_enter Tryz.func63, Tryz.ntmps63
      go_wp2
      go_ret
      exact ⟨by rw [HM.out]; rfl, HK.out⟩
  · have E := (fun W => by simpa [h1] using eql_ID (a, i) (b, j) W : ∀ W, (binOp .eql 24 (idV (a, i)) (idV (b, j))).run Tryz.prog W = .ok (.bool false) W)
    have HM := Lib.hid (show sameRow ⟨(a, i), v, l⟩ ⟨(b, j), u, k⟩ = false by unfold sameRow; simp only; rw [decide_eq_false h1]; rfl)
    clear h1
    go_enter Tryz.func63, Tryz.ntmps63
    go_wp2
    go_ret
    exact ⟨by rw [HM.out]; rfl, HK.out⟩
def sameRs (l m : List RowM) : Bool := decide (l.length = m.length) && (List.range l.length).all (fun i => sameRow (l.getD i row0) (m.getD i row0))
theorem eg_rsame1 : ∀ args w, (callFunc 63 args).run Tryz.prog w = .ok (.enter 63 args) w := enters_of Tryz.func63 (by kernel_rfl) rfl
set_option maxHeartbeats 4000000 in
theorem equalRows_any (A B : Option Addr) (n m c d : Nat) (l k : List RowM) (w : World) (h : RdRow w A n l) (h2 : RdRow w B m k) (hn : n ≤ 1000000) (hm : m ≤ 1000000) (hl : ∀ r ∈ l, r.no.length ≤ 10000) (hk : ∀ r ∈ k, r.no.length ≤ 10000) :
    Calls Tryz.prog 62 #[.slice A n c, .slice B m d, .func (.func 63) #[] #[]] w (Tell (.bool (sameRs l k)) w) := by
  have HL := Lib.hid h.1
  have HL2 := Lib.hid h2.1
  have HR := Lib.hid h
  have HR2 := Lib.hid h2
  have HNo := Lib.hid hl
  have HNo2 := Lib.hid hk
  have eg := eg_rsame1
  clear h h2 hl hk
  by_cases hne : n = m
  · subst hne
    clear hm
    go_enter Tryz.func62, Tryz.ntmps62
    go_wp2
    go_loopw [17] (fun j wr => ∃ q : Nat, q ≤ n ∧ j = .int .i64 (q : Int) ∧ Hid (∀ i, i < q → sameRow (l.getD i row0) (k.getD i row0) = true) ∧ Hid (Keep (fun _ => False) w wr)) (fun j _ => n - (intOf j).toNat)
    case atStart => exact ⟨0, by omega, rfl, Lib.hid (by intro i hi; omega), Lib.hid (Keep.refl _ _)⟩
    case round =>
      obtain ⟨q, hq, rfl, HT, HK⟩ := hrel
      by_cases hlt : q < n
      · obtain ⟨g, off, v0, rfl, p0, p1, p2, p3, ⟨An, nn, cn, rfl, hn0⟩⟩ := (HR.out.keep0 HK.out).2 q hlt
        obtain ⟨g', off', v1, rfl, q0, q1, q2, q3, ⟨Bn, mm, dm, rfl, hn1⟩⟩ := (HR2.out.keep0 HK.out).2 q hlt
        have HN := Lib.hid hn0
        have HN1 := Lib.hid hn1
        have HB := Lib.hid (show nn ≤ 1000000 by rw [← hn0.1]; exact Nat.le_trans (HNo.out _ (by simp [List.getD, show q < l.length by rw [HL.out]; exact hlt])) (by decide))
        have HB1 := Lib.hid (show mm ≤ 1000000 by rw [← hn1.1]; exact Nat.le_trans (HNo2.out _ (by simp [List.getD, show q < k.length by rw [HL2.out]; exact hlt])) (by decide))
        have HX := Lib.hid (show sameRow (l.getD q row0) (k.getD q row0) = false → sameRs l k = false from fun he => by
          unfold sameRs; rw [allB_no (k := q) (by rw [HL.out]; exact hlt) he, Bool.and_false])
        have HY := Lib.hid (show sameRow (l.getD q row0) (k.getD q row0) = true → ∀ i, i < q + 1 → sameRow (l.getD i row0) (k.getD i row0) = true from fun he => allT_snoc (p := fun i => sameRow (l.getD i row0) (k.getD i row0)) HT.out he)
        clear hn0 hn1
        generalize l.getD q row0 = x at *
        generalize k.getD q row0 = y at *
        obtain ⟨⟨a, i⟩, v, lx⟩ := x
        obtain ⟨⟨b, j⟩, u, ly⟩ := y
        simp only at p0 p1 p2 p3 q0 q1 q2 q3
        have hkI : (q : Int) < (n : Int) := by omega
        have hkJ : (0 : Int) ≤ (q : Int) := by omega
        have e2 : IntKind.i64.wrap ((q : Int) + 1) = (q : Int) + 1 := IntWalk.i64_in _ (by omega)
        have hk2 := ((Keep.refl (fun _ => False) wr).alloc (.cells #[.int .i64 a, .int .i64 i, .int .i64 v, .slice An nn cn] 37)).alloc (.cells #[.int .i64 b, .int .i64 j, .int .i64 u, .slice Bn mm dm] 37)
        have HKA := Lib.hid hk2
        have hk1 := (Keep.refl (fun _ => False) wr).alloc (.cells #[.int .i64 a, .int .i64 i, .int .i64 v, .slice An nn cn] 37)
        have Q0 := hk1.cell q0 (fun h => h)
        have Q1 := hk1.cell q1 (fun h => h)
        have Q2 := hk1.cell q2 (fun h => h)
        have Q3 := hk1.cell q3 (fun h => h)
        clear hk2 hk1
        go_wp2_with fail
        refine (rsame1_any ⟨(a, i), v, An, nn, cn⟩ ⟨(b, j), u, Bn, mm, dm⟩ lx ly _ (HN.out.keep0 HKA.out) (HN1.out.keep0 HKA.out) HB.out HB1.out).mono ?_
        rintro e w3 ⟨rfl, hk3⟩
        have HK3 := Lib.hid (keep0_trans _ _ _ HK.out (keep0_trans _ _ _ HKA.out hk3))
        clear hk3 p0 p1 p2 p3 q0 q1 q2 q3 Q0 Q1 Q2 Q3
        simp only at HX HY ⊢
        generalize sameRow ⟨(a, i), v, lx⟩ ⟨(b, j), u, ly⟩ = r at *
        cases r
        · have HF := Lib.hid (HX.out rfl)
          go_wp2
          go_ret
          exact ⟨by rw [HF.out]; rfl, HK3.out⟩
        · have HF := Lib.hid (HY.out rfl)
          go_wp2
          go_roundw
          case rel => exact ⟨q + 1, by omega, by go_num, HF, HK3⟩
          case measure => simp [intOf]; omega
      · obtain rfl : q = n := by omega
        have HF := Lib.hid (show sameRs l k = true by
          unfold sameRs; rw [decide_eq_true (by rw [HL.out, HL2.out]), allB_yes (by rw [HL.out]; exact HT.out)]; rfl)
        go_wp2
        go_ret
        exact ⟨by rw [HF.out]; rfl, HK.out⟩
  · have HF := Lib.hid (show sameRs l k = false by unfold sameRs; rw [decide_eq_false (by rw [HL.out, HL2.out]; exact hne)]; rfl)
    have hb : ((n : Int) != (m : Int)) = true := by simp; omega
    clear hne
    go_enter Tryz.func62, Tryz.ntmps62
    go_wp2
    go_ret
    exact ⟨by rw [HF.out]; rfl, Keep.refl _ _⟩
set_option maxHeartbeats 1000000 in
theorem rowsSame_any (A B : Option Addr) (n m c d : Nat) (l k : List RowM) (w : World) (h : RdRow w A n l) (h2 : RdRow w B m k) (hn : n ≤ 1000000) (hm : m ≤ 1000000) (hl : ∀ r ∈ l, r.no.length ≤ 10000) (hk : ∀ r ∈ k, r.no.length ≤ 10000) :
    Calls Tryz.prog 35 #[.slice A n c, .slice B m d] w (Tell (.bool (sameRs l k)) w) := by
  have HC := Lib.hid (fun c d => equalRows_any A B n m c d l k w h h2 hn hm hl hk)
  clear h h2 hl hk
  go_enter Tryz.func35, Tryz.ntmps35
  go_wp2_with fail
  refine (HC.out c d).mono ?_
  rintro e w3 ⟨rfl, hk3⟩
  have HK3 := Lib.hid hk3
  clear hk3
  go_wp2
  go_ret
  exact ⟨rfl, HK3.out⟩
end Go.Proofs.YtgoldgamjogadaaGreat
