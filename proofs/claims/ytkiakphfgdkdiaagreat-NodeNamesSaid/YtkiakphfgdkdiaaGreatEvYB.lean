/-
  The form that the kernel bears says no more than the evaluator: operations.
-/
import Derived.Test.YtkiakphfgdkdiaaGreatEvYA
namespace Go.Proofs.YtkiakphfgdkdiaaGreat
open Go Go.RowKit
set_option linter.unusedVariables false

/-- What is done matters at least where the other does. -/
def Dom (y x : Ac) : Prop := y.name = x.name ∧ ∀ z, clash x z = true → clash y z = true
theorem Dom.refl (x : Ac) : Dom x x := ⟨rfl, fun _ h => h⟩
theorem clash_name {x z : Ac} (h : clash x z = true) : z.name = x.name := by
  cases x <;> cases z <;> simp only [clash, Ac.name, Bool.and_eq_true] at h ⊢ <;> first
    | exact (Nat.eq_of_beq_eq_true h.1).symm
    | exact (Nat.eq_of_beq_eq_true h).symm
    | exact Nat.eq_of_beq_eq_true h.1
    | exact Nat.eq_of_beq_eq_true h
    | (cases h; done)
theorem Dom.put (x : Ac) (o : AObj) : Dom (.put x.name o) x := by
  refine ⟨rfl, fun z h => ?_⟩
  have := clash_name h
  cases z <;> simp only [clash, Ac.name] at this ⊢ <;> exact beq_true this.symm

structure Grow (hor : Nat) (l l' ext : L) : Prop where
  sub : ∀ y ∈ l, y ∈ l'
  cov : ∀ x ∈ ext, x.name < hor → ∃ y ∈ l', Dom y x
theorem Grow.nil (hor : Nat) (l : L) : Grow hor l l [] := ⟨fun _ h => h, fun x hx => by cases hx⟩
theorem Grow.trans {hor : Nat} {l l1 l2 e1 e2 : L} (h : Grow hor l l1 e1) (k : Grow hor l1 l2 e2) : Grow hor l l2 (e2 ++ e1) :=
  ⟨fun y hy => k.sub y (h.sub y hy), fun x hx hn => by
    rcases List.mem_append.1 hx with hx | hx
    · exact k.cov x hx hn
    · obtain ⟨y, hy, hd⟩ := h.cov x hx hn
      exact ⟨y, k.sub y hy, hd⟩⟩
theorem note_sub {hor n : Nat} {a : Ac} {l : L} : ∀ y ∈ l, y ∈ note hor n a l := by
  intro y hy
  unfold note
  cases Nat.blt n hor with
  | false => exact hy
  | true => exact List.mem_cons_of_mem _ hy
theorem note_mem {hor n : Nat} {a : Ac} {l : L} (h : n < hor) : a ∈ note hor n a l := by
  unfold note
  have : Nat.blt n hor = true := by simp [Nat.blt_eq, h]
  rw [this]
  exact List.mem_cons_self
theorem Grow.note {hor n : Nat} {a : Ac} {l ext : L} (h : ∀ x ∈ ext, x.name = n ∧ Dom a x) : Grow hor l (note hor n a l) ext :=
  ⟨note_sub, fun x hx hn => ⟨a, note_mem ((h x hx).1 ▸ hn), (h x hx).2⟩⟩

section
variable {P : Program} {fs : Fs} {T : Tri Value} {r : Value × HS} {hor : Nat} {h : H} {n : Nat} {l : L}

theorem readK_some {b lo len : Nat} {k : List Value → H → Nat → L → Ans} (hk : readK hor b lo len h n l k = some r) :
    ∃ vs, mRead b lo len ⟨h, n, []⟩ = some (vs, ⟨h, n, [.rd b lo len]⟩) ∧ k vs h n (note hor b (.rd b lo len) l) = some r := by
  obtain ⟨c, e, h1, h2⟩ := cellsK_some hk
  rw [getP_path] at h1
  obtain ⟨vs, h3, h4⟩ := optK_some h2
  refine ⟨vs, ?_, h4⟩
  rw [mRead_eq]
  simp only [h1, h3]
theorem read1K_some {b lo : Nat} {k : Kv} (hk : read1K hor b lo h n l k = some r) :
    ∃ v, mRead b lo 1 ⟨h, n, []⟩ = some ([v], ⟨h, n, [.rd b lo 1]⟩) ∧ k v h n (note hor b (.rd b lo 1) l) = some r := by
  obtain ⟨c, e, h1, h2⟩ := cellsK_some hk
  rw [getP_path] at h1
  obtain ⟨v, h3, h4, h5⟩ := cellF_some h2
  refine ⟨v, ?_, h5⟩
  rw [mRead_eq]
  simp only [h1, h4]
theorem writeK_some {b lo : Nat} {vs : List Value} {k : H → Nat → L → Ans} (hk : writeK hor b lo vs h n l k = some r) :
    ∃ h', mWrite b lo vs ⟨h, n, []⟩ = some ((), ⟨h', n, [.wr b lo vs]⟩) ∧ k h' n (note hor b (.wr b lo vs) l) = some r := by
  obtain ⟨c, e, h1, h2⟩ := cellsK_some hk
  rw [getP_path] at h1
  obtain ⟨h3, h4⟩ := iteK_some h2
  rw [setP_path] at h4
  refine ⟨_, ?_, h4⟩
  rw [mWrite_eq]
  simp only [h1]
  have : Nat.ble (lo + vs.length) c.length = true := h3
  rw [this]
  rfl
theorem newK_some {o : AObj} {k : Nat → H → Nat → L → Ans} (hk : newK hor o h n l k = some r) :
    ∃ h' e, mNew o ⟨h, n, []⟩ = some (n, ⟨h', n + 1, e⟩) ∧ k n h' (n + 1) (note hor n (.put n .dead) l) = some r ∧ Grow hor l (note hor n (.put n .dead) l) e := by
  unfold newK at hk
  rw [getP_path] at hk
  cases hg : h.get n with
  | some q => rw [hg] at hk; cases hk
  | none =>
    rw [hg] at hk
    have hk : forceK (Nat.succ n) (fun nx => k n (setP (path n) o h) nx (note hor n (.put n .dead) l)) = some r := hk
    rw [forceK_eq, setP_path] at hk
    refine ⟨_, _, ?_, hk, Grow.note (ext := [.put n o, .rdo n]) fun x hx => ?_⟩
    · rw [mNew_eq]
      simp only [hg]
    · simp only [List.mem_cons, List.not_mem_nil, or_false] at hx
      rcases hx with rfl | rfl
      · exact ⟨rfl, Dom.put (.put n o) .dead⟩
      · exact ⟨rfl, Dom.put (.rdo n) .dead⟩

theorem bind_at {α β : Type} {m : M α} {f : α → M β} {a : α} {b : β} {h1 h2 : H} {n1 n2 : Nat} {e1 e2 : L} (h3 : m ⟨h, n, []⟩ = some (a, ⟨h1, n1, e1⟩)) (hf : Fine (f a)) (h4 : f a ⟨h1, n1, []⟩ = some (b, ⟨h2, n2, e2⟩)) :
    (m.bind f) ⟨h, n, []⟩ = some (b, ⟨h2, n2, e2 ++ e1⟩) := by
  unfold M.bind
  rw [h3]
  dsimp only
  obtain ⟨ext, hl, hL, _⟩ := hf _ _ _ h4
  have : e2 = ext := by simpa using hl
  subst this
  exact hL e1
theorem bind_pure {α β : Type} {m : M α} {f : α → M β} {a : α} {b : β} {s' : HS} (h3 : m ⟨h, n, []⟩ = some (a, s')) (h4 : f a = M.pure b) : (m.bind f) ⟨h, n, []⟩ = some (b, s') := by
  unfold M.bind
  rw [h3]
  dsimp only
  rw [h4]
  rfl

/-- What an operation of the fast form has done. -/
def OpRef (P : Program) (m : M Value) (fs : Fs) (T : Tri Value) (d : Option Tmp) (h : H) (n : Nat) (l : L) (hor : Nat) (k : Kt) (r : Value × HS) : Prop :=
  ∃ v h' n' l' ext, m ⟨h, n, []⟩ = some (v, ⟨h', n', ext⟩) ∧ k (putF fs d v T) h' n' l' = some r ∧ Grow hor l l' ext

theorem fall_ref {pf : List (FuncId × Value)} {R' : Run} {o : Oper} {k : Kt} (hc : isCallV o = false) (hk : fallF P o fs T h n l hor k = some r) : OpRef P (evOp P pf R' (frOf fs T) o) fs T o.dst h n l hor k r := by
  unfold fallF at hk
  have same : evOp P [] (fun _ _ => .fail) (frOf fs T) o = evOp P pf R' (frOf fs T) o := by
    unfold isCallV at hc
    unfold evOp
    cases ho : o.op
    case call c =>
      rw [ho] at hc
      dsimp only at hc ⊢
      cases hcal : c.callee with
      | value f => rw [hcal] at hc; cases hc
      | invoke f m => rfl
      | builtin b =>
        cases (frOf fs T).vals c.args.toList with
        | none => cases b <;> rfl
        | some vs => cases b <;> first
          | rfl
          | (cases vs with
             | nil => rfl
             | cons u vs => cases vs with
               | nil => rfl
               | cons u2 vs => cases vs <;> rfl)
    case makeFunc f a b => cases f <;> rfl
    case makeMap t r => cases r <;> rfl
    all_goals rfl
  have hk : (match evOp P [] (fun _ _ => .fail) (frOf fs T) o ⟨h, n, []⟩ with
    | none => none
    | some (v, ⟨h', next', l'⟩) => k (putF fs o.dst v T) h' next' ((l'.filter fun x => Nat.blt x.name hor) ++ l)) = some r := hk
  rw [same] at hk
  cases hev : evOp P pf R' (frOf fs T) o ⟨h, n, []⟩ with
  | none => rw [hev] at hk; cases hk
  | some p =>
    obtain ⟨v, h', n', l'⟩ := p
    rw [hev] at hk
    refine ⟨v, h', n', _, l', hev, hk, fun y hy => List.mem_append_right _ hy, fun x hx hn => ⟨x, List.mem_append_left _ (List.mem_filter.2 ⟨hx, by simp [Nat.blt_eq, hn]⟩), Dom.refl x⟩⟩

theorem still_ref {m : M Value} {v : Value} {d : Option Tmp} {k : Kt} (hm : m = M.pure v) (hk : k (putF fs d v T) h n l = some r) : OpRef P m fs T d h n l hor k r :=
  ⟨v, h, n, l, [], by rw [hm]; rfl, hk, Grow.nil _ _⟩

theorem move_ref {pf : List (FuncId × Value)} {R' : Run} {R : RunF} {o : Oper} {x : Operand} {k : Kt} (ho : o.op = .move x ∨ o.op = .assign x) (hk : opMove x P R o fs T h n l hor k = some r) : OpRef P (evOp P pf R' (frOf fs T) o) fs T o.dst h n l hor k r := by
  obtain ⟨v, h1, h2⟩ := valK_some (fs := fs) hk
  refine still_ref ?_ h2
  unfold evOp
  rcases ho with ho | ho <;> rw [ho] <;> dsimp only <;> rw [h1] <;> rfl
theorem pick_ref {pf : List (FuncId × Value)} {R' : Run} {R : RunF} {o : Oper} {c a b : Operand} {k : Kt} (ho : o.op = .pick c a b) (hk : opPick c a b P R o fs T h n l hor k = some r) : OpRef P (evOp P pf R' (frOf fs T) o) fs T o.dst h n l hor k r := by
  obtain ⟨t, h1, h2⟩ := boolK_some hk
  rw [rawF_eq (fs := fs)] at h1
  -- the condition may be a constant
  have hval : (frOf fs T).val c = some (.bool t) := by
    cases c with
    | tmp i => exact congrArg some h1
    | const v => cases h1; rfl
    | global g => cases h1
    | func f => cases h1
  cases t with
  | true =>
    obtain ⟨v, h3, h4⟩ := valK_some (fs := fs) h2
    refine still_ref ?_ h4
    unfold evOp
    rw [ho]; dsimp only; rw [hval]; dsimp only; rw [h3]; rfl
  | false =>
    obtain ⟨v, h3, h4⟩ := valK_some (fs := fs) h2
    refine still_ref ?_ h4
    unfold evOp
    rw [ho]; dsimp only; rw [hval]; dsimp only; rw [h3]; rfl

theorem newVar_ref {t : TypeId} {v : Value} {d : Option Tmp} {k : Kt} (hk : newK hor (.cells (cellsF v) t) h n l (fun m h n l => k (putF fs d (.pointer (some ⟨m, 0, none⟩)) T) h n l) = some r) : OpRef P (newVarM t v) fs T d h n l hor k r := by
  obtain ⟨h', e, h1, h2, h3⟩ := newK_some hk
  rw [cellsF_eq] at h1
  exact ⟨_, h', n + 1, _, e, bind_pure h1 rfl, h2, h3⟩

theorem alloc_ref {pf : List (FuncId × Value)} {R' : Run} {R : RunF} {o : Oper} {t : TypeId} {k : Kt} (ho : o.op = .alloc t) (hk : opAlloc t P R o fs T h n l hor k = some r) : OpRef P (evOp P pf R' (frOf fs T) o) fs T o.dst h n l hor k r := by
  obtain ⟨z, h1, h2⟩ := optK_some hk
  obtain ⟨h3, h4⟩ := zeroT_some h1
  have := newVar_ref (P := P) h2
  unfold evOp
  rw [ho]; dsimp only; rw [h3]; dsimp only; rw [h4]
  exact this
theorem box_ref {pf : List (FuncId × Value)} {R' : Run} {R : RunF} {o : Oper} {t : TypeId} {x : Operand} {k : Kt} (ho : o.op = .box t x) (hk : opBox t x P R o fs T h n l hor k = some r) : OpRef P (evOp P pf R' (frOf fs T) o) fs T o.dst h n l hor k r := by
  obtain ⟨v, h1, h2⟩ := valK_some (fs := fs) hk
  have := newVar_ref (P := P) h2
  unfold evOp
  rw [ho]; dsimp only; rw [h1]
  exact this
theorem load_ref {pf : List (FuncId × Value)} {R' : Run} {R : RunF} {o : Oper} {t : TypeId} {x : Operand} {k : Kt} (ho : o.op = .load t x) (hk : opLoad t x P R o fs T h n l hor k = some r) : OpRef P (evOp P pf R' (frOf fs T) o) fs T o.dst h n l hor k r := by
  obtain ⟨p, h1, h2⟩ := valK_some (fs := fs) hk
  obtain ⟨b, off, rfl, h3⟩ := ptrK_some h2
  obtain ⟨s, h4, h5⟩ := optK_some h3
  obtain ⟨s1, s2⟩ := shapeT_some h4
  have hop : evOp P pf R' (frOf fs T) o = loadM P t (.pointer (some ⟨b, off, none⟩)) := by
    unfold evOp
    rw [ho]; dsimp only; rw [h1]
  rw [hop]
  cases s with
  | none =>
    obtain ⟨v, h6, h7⟩ := read1K_some h5
    refine ⟨v, h, n, _, [.rd b off 1], ?_, h7, Grow.note fun x hx => by rw [List.mem_singleton.1 hx]; exact ⟨rfl, Dom.refl _⟩⟩
    unfold loadM
    dsimp only
    rw [s2 rfl]
    exact bind_pure h6 rfl
  | some sz =>
    obtain ⟨g1, g2⟩ := s1 sz rfl
    obtain ⟨vs, h6, h7⟩ := readK_some h5
    refine ⟨.agg ⟨vs⟩, h, n, _, [.rd b off sz], ?_, h7, Grow.note fun x hx => by rw [List.mem_singleton.1 hx]; exact ⟨rfl, Dom.refl _⟩⟩
    unfold loadM
    dsimp only
    rw [g1]
    dsimp only
    rw [g2]
    exact bind_pure h6 rfl
theorem store_ref {pf : List (FuncId × Value)} {R' : Run} {R : RunF} {o : Oper} {t : TypeId} {x y : Operand} {k : Kt} (ho : o.op = .store t x y) (hk : opStore t x y P R o fs T h n l hor k = some r) : OpRef P (evOp P pf R' (frOf fs T) o) fs T o.dst h n l hor k r := by
  obtain ⟨p, h1, h2⟩ := valK_some (fs := fs) hk
  obtain ⟨b, off, rfl, h3⟩ := ptrK_some h2
  obtain ⟨v, h4, h5⟩ := valK_some (fs := fs) h3
  obtain ⟨sz, h6, h7⟩ := optK_some h5
  obtain ⟨h8, h9⟩ := iteK_some h7
  obtain ⟨h10, h11⟩ := iteK_some h9
  obtain ⟨h', h12, h13⟩ := writeK_some h11
  rw [cellsF_eq] at h8 h10 h12
  refine ⟨undef, h', n, _, [.wr b off (cellsF v)], ?_, h13, Grow.note fun x hx => by rw [List.mem_singleton.1 hx]; exact ⟨rfl, Dom.refl _⟩⟩
  rw [cellsF_eq]
  unfold evOp
  rw [ho]; dsimp only; rw [h1, h4]
  show storeM P t (.pointer (some ⟨b, off, none⟩)) v ⟨h, n, []⟩ = _
  unfold storeM
  dsimp only
  rw [sizeT_some h6]
  dsimp only
  rw [h8, h10]
  exact bind_pure h12 rfl
theorem field_ref {pf : List (FuncId × Value)} {R' : Run} {R : RunF} {o : Oper} {t : TypeId} {x : Operand} {f : Nat} {k : Kt} (ho : o.op = .fieldAddr t x f) (hk : opField t x f P R o fs T h n l hor k = some r) : OpRef P (evOp P pf R' (frOf fs T) o) fs T o.dst h n l hor k r := by
  obtain ⟨p, h1, h2⟩ := valK_some (fs := fs) hk
  obtain ⟨b, off, rfl, h3⟩ := ptrK_some h2
  obtain ⟨d, h4, h5⟩ := optK_some h3
  obtain ⟨flds, fd, kk, g1, g2, g3, rfl⟩ := fieldT_some h4
  refine still_ref ?_ h5
  unfold evOp
  rw [ho]; dsimp only; rw [h1]
  show fieldAddrM P t (.pointer (some ⟨b, off, none⟩)) f = _
  unfold fieldAddrM
  dsimp only
  rw [g1]; dsimp only; rw [g2]; dsimp only; rw [g3]
  rfl
theorem indexAddr_ref {pf : List (FuncId × Value)} {R' : Run} {R : RunF} {o : Oper} {t : TypeId} {x i : Operand} {k : Kt} (ho : o.op = .indexAddr t x i) (hk : opIndexAddr t x i P R o fs T h n l hor k = some r) : OpRef P (evOp P pf R' (frOf fs T) o) fs T o.dst h n l hor k r := by
  obtain ⟨p, h1, h2⟩ := valK_some (fs := fs) hk
  obtain ⟨iv, h3, h4⟩ := valK_some (fs := fs) h2
  rcases intK_some h4 with ⟨kd, j, rfl, h5⟩ | h5
  · obtain ⟨e, h6, h7⟩ := optK_some h5
    obtain ⟨al, sz⟩ := e
    have hop : evOp P pf R' (frOf fs T) o = indexAddrM P t p (.int kd (Int.ofNat j)) := by
      unfold evOp
      rw [ho]; dsimp only; rw [h1, h3]
    rw [hop]
    rcases placeK_some h7 with ⟨b, off, rfl, h8⟩ | ⟨b, off, len, cap, rfl, h8⟩
    · obtain ⟨len, h9, h10⟩ := optK_some h8
      obtain ⟨h11, h12⟩ := iteK_some h10
      subst h9
      rcases elemT_some h6 with ⟨m, e, e1, g1, g2⟩ | ⟨e, e1, _⟩
      · cases e1
        refine still_ref ?_ h12
        unfold indexAddrM natOf
        dsimp only
        rw [g1]; dsimp only; rw [g2]; dsimp only; rw [h11]; rfl
      · cases e1
    · cases al with
      | some _ => cases h8
      | none =>
        obtain ⟨h11, h12⟩ := iteK_some h8
        rcases elemT_some h6 with ⟨m, e, e1, _⟩ | ⟨e, e1, g1, g2⟩
        · cases e1
        · refine still_ref ?_ h12
          unfold indexAddrM natOf
          dsimp only
          rw [g1]; dsimp only; rw [g2]; dsimp only; rw [h11]; rfl
  · cases h5
theorem extract_ref {pf : List (FuncId × Value)} {R' : Run} {R : RunF} {o : Oper} {x : Operand} {i : Nat} {k : Kt} (ho : o.op = .extract x i) (hk : opExtract x i P R o fs T h n l hor k = some r) : OpRef P (evOp P pf R' (frOf fs T) o) fs T o.dst h n l hor k r := by
  obtain ⟨p, h0, h1⟩ := valK_some (fs := fs) hk
  obtain ⟨vs, rfl, h2⟩ := tupK_some h1
  obtain ⟨v, h3, _, h4⟩ := cellF_some h2
  refine still_ref ?_ h4
  unfold evOp
  rw [ho]; dsimp only; rw [h0]; dsimp only; rw [h3]; rfl

theorem sameK_some {a b : IntKind} {no yes : Ans} (h : sameK a b no yes = some r) : (a = b ∧ yes = some r) ∨ no = some r := by
  cases a <;> cases b <;> first
    | exact .inl ⟨rfl, h⟩
    | exact .inr h
theorem pick_some {b : Bool} {no yes : Ans} (h : Bool.rec (motive := fun _ => Ans) no yes b = some r) : (b = true ∧ yes = some r) ∨ no = some r := by
  cases b
  · exact .inr h
  · exact .inl ⟨rfl, h⟩
theorem wrap_lim {k : IntKind} {m : Nat} (h : m < limF k) : k.wrap (Int.ofNat m) = Int.ofNat m := by
  have h0 : (Int.ofNat m) = (m : Int) := rfl
  rw [h0]
  have hm : (m : Int) % (2 ^ k.bits : Int) = m := by
    cases k <;> simp only [limF] at h <;> first
      | (show (m : Int) % 256 = m; omega)
      | (show (m : Int) % 65536 = m; omega)
      | (show (m : Int) % 4294967296 = m; omega)
      | (show (m : Int) % 18446744073709551616 = m; omega)
  have hs : ¬ (k.signed && decide ((m : Int) ≥ (2 ^ (k.bits - 1) : Int))) = true := by
    intro e
    rw [Bool.and_eq_true, decide_eq_true_eq] at e
    obtain ⟨e1, e2⟩ := e
    cases k <;> simp only [limF] at h <;> first
      | (cases e1; done)
      | (have e3 : (m : Int) ≥ 128 := e2; omega)
      | (have e3 : (m : Int) ≥ 32768 := e2; omega)
      | (have e3 : (m : Int) ≥ 2147483648 := e2; omega)
      | (have e3 : (m : Int) ≥ 9223372036854775808 := e2; omega)
  unfold IntKind.wrap
  dsimp only
  rw [hm, if_neg hs]

theorem bin_some {op : BinOp} {d : Option TypeDesc} {ka kb : IntKind} {a b : Nat} {yes : Value → Ans} {fb : Ans} (h : binTab op d ka kb a b yes fb = some r) :
    fb = some r ∨ ∃ res, yes res = some r ∧ plainD 8 res = true ∧ ((op = .eql ∨ op = .neq) → ∃ k, d = some (.int k)) ∧ ∀ t, binOp op t (.int ka (Int.ofNat a)) (.int kb (Int.ofNat b)) = Sem.pure res := by
  have cmp : ∀ (f : Nat → Nat → Bool), (∀ t, ka = kb → binOp op t (.int ka (Int.ofNat a)) (.int kb (Int.ofNat b)) = Sem.pure (.bool (f a b))) →
      biCmp f d ka kb a b yes fb = some r → fb = some r ∨ ∃ res, yes res = some r ∧ plainD 8 res = true ∧ ∀ t, binOp op t (.int ka (Int.ofNat a)) (.int kb (Int.ofNat b)) = Sem.pure res := by
    intro f hf h
    rcases sameK_some h with ⟨h1, h2⟩ | h1
    · exact .inr ⟨_, h2, rfl, fun t => hf t h1⟩
    · exact .inl h1
  have eqs : ∀ (f : Nat → Nat → Bool), (∀ t, ka = kb → binOp op t (.int ka (Int.ofNat a)) (.int kb (Int.ofNat b)) = Sem.pure (.bool (f a b))) →
      biEq f d ka kb a b yes fb = some r → fb = some r ∨ ∃ res, yes res = some r ∧ plainD 8 res = true ∧ (∃ k, d = some (.int k)) ∧ ∀ t, binOp op t (.int ka (Int.ofNat a)) (.int kb (Int.ofNat b)) = Sem.pure res := by
    intro f hf h
    rcases pick_some h with ⟨h1, h2⟩ | h1
    · rcases cmp f hf h2 with h3 | ⟨res, h3, h4, h5⟩
      · exact .inl h3
      · refine .inr ⟨res, h3, h4, ?_, h5⟩
        cases d with
        | none => cases h1
        | some d => cases d <;> first | exact ⟨_, rfl⟩ | cases h1
    · exact .inl h1
  cases op
  case add =>
    rcases sameK_some h with ⟨rfl, h2⟩ | h1
    · rw [forceK_eq] at h2
      rcases pick_some h2 with ⟨h3, h4⟩ | h3
      · refine .inr ⟨_, h4, rfl, fun e => (by rcases e with e | e <;> cases e), fun t => ?_⟩
        have h3 : Nat.blt (a + b) (limF ka) = true := h3
        show (if ka ≠ ka then _ else Op.intArith .add ka (Int.ofNat a) (Int.ofNat b)) = _
        rw [if_neg (fun e => e rfl)]
        show Sem.pure (Value.int ka (ka.wrap (Int.ofNat (a + b)))) = _
        rw [wrap_lim (by rw [Nat.blt_eq] at h3; exact h3)]
        rfl
      · exact .inl h3
    · exact .inl h1
  case sub =>
    rcases sameK_some h with ⟨rfl, h2⟩ | h1
    · rcases pick_some h2 with ⟨h3, h4⟩ | h3
      · rw [forceK_eq] at h4
        refine .inr ⟨_, h4, rfl, fun e => (by rcases e with e | e <;> cases e), fun t => ?_⟩
        rw [Bool.and_eq_true] at h3
        have h5 : b ≤ a := Nat.le_of_ble_eq_true h3.1
        have h6 : a < limF ka := by have := h3.2; rw [Nat.blt_eq] at this; exact this
        show (if ka ≠ ka then _ else Op.intArith .sub ka (Int.ofNat a) (Int.ofNat b)) = _
        rw [if_neg (fun e => e rfl)]
        have : (Int.ofNat a - Int.ofNat b) = Int.ofNat (a - b) := by
          show (a : Int) - (b : Int) = ((a - b : Nat) : Int)
          omega
        show Sem.pure (Value.int ka (ka.wrap (Int.ofNat a - Int.ofNat b))) = _
        rw [this, wrap_lim (Nat.lt_of_le_of_lt (Nat.sub_le _ _) h6)]
        rfl
      · exact .inl h3
    · exact .inl h1
  case eql =>
    rcases eqs Nat.beq (fun t e => by
      subst e
      show (if ka ≠ ka then _ else Op.intCmp .eql (Int.ofNat a) (Int.ofNat b)) = _
      rw [if_neg (fun e => e rfl)]
      show Sem.pure (Value.bool (Int.ofNat a == Int.ofNat b)) = _
      congr 2
      by_cases e : a = b
      · subst e; rw [beq_true rfl]; simp
      · rw [beq_false e]; simp; omega) h with h1 | ⟨res, h1, h2, h3, h4⟩
    · exact .inl h1
    · exact .inr ⟨res, h1, h2, fun _ => h3, h4⟩
  case neq =>
    rcases eqs neF (fun t e => by
      subst e
      show (if ka ≠ ka then _ else Op.intCmp .neq (Int.ofNat a) (Int.ofNat b)) = _
      rw [if_neg (fun e => e rfl)]
      show Sem.pure (Value.bool (Int.ofNat a != Int.ofNat b)) = _
      congr 2
      unfold neF
      by_cases e : a = b
      · subst e; rw [beq_true rfl]; simp
      · rw [beq_false e]; simp; omega) h with h1 | ⟨res, h1, h2, h3, h4⟩
    · exact .inl h1
    · exact .inr ⟨res, h1, h2, fun _ => h3, h4⟩
  case lss =>
    rcases cmp Nat.blt (fun t e => by
      subst e
      show (if ka ≠ ka then _ else Op.intCmp .lss (Int.ofNat a) (Int.ofNat b)) = _
      rw [if_neg (fun e => e rfl)]
      show Sem.pure (Value.bool (decide ((a : Int) < (b : Int)))) = _
      congr 2
      rw [Bool.eq_iff_iff, Nat.blt_eq]; simp) h with h1 | ⟨res, h1, h2, h4⟩
    · exact .inl h1
    · exact .inr ⟨res, h1, h2, fun e => (by rcases e with e | e <;> cases e), h4⟩
  case leq =>
    rcases cmp Nat.ble (fun t e => by
      subst e
      show (if ka ≠ ka then _ else Op.intCmp .leq (Int.ofNat a) (Int.ofNat b)) = _
      rw [if_neg (fun e => e rfl)]
      show Sem.pure (Value.bool (decide ((a : Int) ≤ (b : Int)))) = _
      congr 2
      rw [Bool.eq_iff_iff, Nat.ble_eq]; simp) h with h1 | ⟨res, h1, h2, h4⟩
    · exact .inl h1
    · exact .inr ⟨res, h1, h2, fun e => (by rcases e with e | e <;> cases e), h4⟩
  case gtr =>
    rcases cmp gtF (fun t e => by
      subst e
      show (if ka ≠ ka then _ else Op.intCmp .gtr (Int.ofNat a) (Int.ofNat b)) = _
      rw [if_neg (fun e => e rfl)]
      show Sem.pure (Value.bool (decide ((a : Int) > (b : Int)))) = _
      congr 2
      unfold gtF
      rw [Bool.eq_iff_iff, Nat.blt_eq]; simp) h with h1 | ⟨res, h1, h2, h4⟩
    · exact .inl h1
    · exact .inr ⟨res, h1, h2, fun e => (by rcases e with e | e <;> cases e), h4⟩
  case geq =>
    rcases cmp geF (fun t e => by
      subst e
      show (if ka ≠ ka then _ else Op.intCmp .geq (Int.ofNat a) (Int.ofNat b)) = _
      rw [if_neg (fun e => e rfl)]
      show Sem.pure (Value.bool (decide ((a : Int) ≥ (b : Int)))) = _
      congr 2
      unfold geF
      rw [Bool.eq_iff_iff, Nat.ble_eq]; simp) h with h1 | ⟨res, h1, h2, h4⟩
    · exact .inl h1
    · exact .inr ⟨res, h1, h2, fun e => (by rcases e with e | e <;> cases e), h4⟩
  all_goals exact .inl h

theorem raw_int {fr : Fr} {x : Operand} {k : IntKind} {m : Int} (h : fr.raw x = .int k m) : fr.val x = some (.int k m) := by
  cases x with
  | tmp t => exact congrArg some h
  | const v => have h : v = .int k m := h; subst h; rfl
  | global g => cases h
  | func f => cases h

theorem bin_ref {pf : List (FuncId × Value)} {R' : Run} {R : RunF} {o : Oper} {op : BinOp} {t yt : TypeId} {x y : Operand} {k : Kt} (ho : o.op = .binOp op t x y yt) (hk : opBin op t x y yt P R o fs T h n l hor k = some r) : OpRef P (evOp P pf R' (frOf fs T) o) fs T o.dst h n l hor k r := by
  have hc : isCallV o = false := by unfold isCallV; rw [ho]
  rcases intK_some hk with ⟨ka, a, hx, hk⟩ | hk
  · rcases intK_some hk with ⟨kb, b, hy, hk⟩ | hk
    · rw [rawF_eq (fs := fs)] at hx hy
      rcases bin_some hk with h1 | ⟨res, h1, h2, h3, h4⟩
      · exact fall_ref hc h1
      · have hp : opPure P (frOf fs T) o = some res := by
          obtain ⟨dst, op', type, pos, after, guard⟩ := o
          have ho : op' = .binOp op t x y yt := ho
          subst ho
          unfold opPure
          have e1 : plainAll (frOf fs T) (Op.operands (.binOp op t x y yt)).toList = true := by
            show plainAll (frOf fs T) [x, y] = true
            unfold plainAll; rw [hx]
            show plainAll (frOf fs T) [y] = true
            unfold plainAll; rw [hy]
            rfl
          have e2 : pureRun P (execOp (frOf fs T).raw (⟨dst, .binOp op t x y yt, type, pos, after, guard⟩ : Oper)) = some (.value res) := by
            simp only [execOp, hx, hy]
            have := h4 t
            have e3 : eqGuard op t x y (.int ka (Int.ofNat a)) (.int kb (Int.ofNat b)) = Sem.pure () := by
              unfold eqGuard
              cases op <;> rfl
            rw [e3, this]
            rfl
          show (match plainAll (frOf fs T) (Op.operands (.binOp op t x y yt)).toList with | true => _ | false => none) = _
          rw [e1]
          dsimp only
          rw [e2]
          dsimp only
          rw [h2]
          rfl
        refine still_ref ?_ h1
        unfold evOp
        rw [ho]; dsimp only; rw [raw_int hx, raw_int hy]; dsimp only
        by_cases hop : op = .eql ∨ op = .neq
        · obtain ⟨kk, hd⟩ := h3 hop
          have hu := descT_some hd
          rcases hop with rfl | rfl
          · dsimp only; unfold eqlM; rw [hu]; dsimp only; rw [hp]; rfl
          · dsimp only; unfold eqlM; rw [hu]; dsimp only; rw [hp]; rfl
        · cases op <;> first
            | exact absurd (.inl rfl) hop
            | exact absurd (.inr rfl) hop
            | (dsimp only; rw [hp]; rfl)
    · exact fall_ref hc hk
  · exact fall_ref hc hk

end
end Go.Proofs.YtkiakphfgdkdiaaGreat
