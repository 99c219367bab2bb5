/-
  VS, part 44: more of the operations, and calls on what is lent.
-/
import Derived.Test.YtkmcnmjjfgahpaaVtQ
namespace Go.VS

section
variable {C : Ctx} {q th : Bool} {s : Frm} {H : Heap} {K : AV → Heap → Prop} {L : List It}

theorem killB_n : killB none s = s := rfl
theorem cnd_t {a b : AC} {K : Ex → Frm → Heap → Prop} : cndK C (.bool true) a b s H K = wpC (ACall C) C a s H K := rfl
theorem cnd_f {a b : AC} {K : Ex → Frm → Heap → Prop} : cndK C (.bool false) a b s H K = wpC (ACall C) C b s H K := rfl

def andL (k : IntKind) (a b : Int) : Int := k.wrap (BitVec.ofInt k.bits a &&& BitVec.ofInt k.bits b).toNat
def orL (k : IntKind) (a b : Int) : Int := k.wrap (BitVec.ofInt k.bits a ||| BitVec.ofInt k.bits b).toNat
def xorL (k : IntKind) (a b : Int) : Int := k.wrap (BitVec.ofInt k.bits a ^^^ BitVec.ofInt k.bits b).toNat
def shlL (k : IntKind) (a b : Int) : Int := k.wrap (a * 2 ^ (min b.toNat k.bits))
def shrL (k : IntKind) (a b : Int) : Int := a.fdiv (2 ^ (min b.toNat k.bits))
theorem b_andL (E : TEnv) (t : TypeId) (k : IntKind) (a b : Int) : binA E .and t (.int k a) (.int k b) = some (.int k (andL k a b)) := b_and ..
theorem b_orL (E : TEnv) (t : TypeId) (k : IntKind) (a b : Int) : binA E .or t (.int k a) (.int k b) = some (.int k (orL k a b)) := b_or ..
theorem b_xorL (E : TEnv) (t : TypeId) (k : IntKind) (a b : Int) : binA E .xor t (.int k a) (.int k b) = some (.int k (xorL k a b)) := b_xor ..
theorem sl_lit (k : IntKind) (a b : Int) (h : decide (b < 0) = false) : sl k a b = some (shlL k a b) := by simp at h; simp [sl, shlL, Int.not_lt.2 h]
theorem sr_lit (k : IntKind) (a b : Int) (h : decide (b < 0) = false) : sr k a b = some (shrL k a b) := by simp at h; simp [sr, shrL, Int.not_lt.2 h]

/-! Conversions. -/
def convK (E : TEnv) (src dst : TypeId) (x : AV) (H : Heap) (K : AV → Heap → Prop) : Prop := resO (match E src, E dst, x with
    | some _, some td, .int _ n => match td.und with
      | .it k => some (.int k (k.wrap n), H)
      | _ => none
    | some _, some td, .str l => match td.und with
      | .str => some (.str l, H)
      | .sl e => match E e with
        | some te => match te.und with
          | .it .u8 => if te.sz = 1 ∧ te.bytes = 1 ∧ l.length ≤ 2 ^ 45 then some (.ref H.bs.length H.st 0 l.length, H.new 1 false (l.map fun b => .int .u8 b.toNat)) else none
          | _ => none
        | none => none
      | _ => none
    | some ts, some td, x => match ts.und, td.und with
      | .sl e, .str => match E e with
        | some te => match te.und with
          | .it .u8 => match elemsOf H x with
            | some xs => if te.sz = 1 then (match (bytesOf xs).map AV.str with | some v => some (v, H) | none => none) else none
            | none => none
          | _ => none
        | none => none
      | _, _ => none
    | _, _, _ => none) K
theorem o_conv (a b : TypeId) (x : Operand) : wpO (ACall C) C q th (.convert a b x) s H K = convK C.E a b (ev s x) H K := by
  rw [wpO_pure _ rfl]; rfl
def convI (ta tb : Option TI) (n : Int) (H : Heap) (K : AV → Heap → Prop) : Prop := match ta, tb with
  | some _, some td => match td.und with | .it k => K (.int k (k.wrap n)) H | _ => False
  | _, _ => False
theorem conv_i (E : TEnv) (a b : TypeId) (j : IntKind) (n : Int) : convK E a b (.int j n) H K = convI (E a) (E b) n H K := by
  simp only [convK, convI]
  cases E a with
  | none => rfl
  | some ta =>
    cases E b with
    | none => rfl
    | some tb => simp only; cases tb.und <;> rfl
def u8s (l : List UInt8) : List Int := l.map fun b => (b.toNat : Int)
def toStr (l : List Int) : List UInt8 := l.map fun n => UInt8.ofNat n.toNat
theorem bytesOf_ints (l : List Int) : bytesOf (l.map (AV.int .u8)) = some (toStr l) := by
  induction l with
  | nil => rfl
  | cons n l ih => simp only [List.map_cons, bytesOf, ih, toStr, Option.map_some]
def s2b (l : List UInt8) : Option (List Int) := if l.length ≤ 2 ^ 45 then some (u8s l) else none
/-- A text comes to be bytes. -/
theorem w_s2b {α : Type} {E : TEnv} {a b e : TypeId} {ta tb te : TI} {l : List UInt8} {f : List Int → Option α} {r : α} (hS : Own H L) (ha : E a = some ta) (hb : E b = some tb) (hu : tb.und = .sl e) (he : E e = some te) (hk : te.und = .it .u8) (h1 : te.sz = 1) (h2 : te.bytes = 1)
    (hh : (s2b l).bind f = some r) (h : ∀ v H' m, isSl v → s2b l = some m → f m = some r → Own H' (⟨v, 1, m.map (AV.int .u8)⟩ :: L) → K v H') : convK E a b (.str l) H K := by
  unfold s2b at hh h
  split at hh
  · rename_i hl
    simp only [convK, ha, hb, hu, he, hk, h1, h2, hl, and_self, if_true, resO]
    refine h _ _ _ (isSl_ref ..) (by rw [if_pos hl]) hh (hS.newSl (by simp only [u8s, List.map_map]; exact List.take_of_length_le (by simp)) (by simp [u8s]) ?_)
    simp [szAll, AV.cells, u8s]
  · simp at hh
/-- Bytes come to be a text. -/
theorem w_b2s {E : TEnv} {a b e : TypeId} {ta tb te : TI} {v : AV} {l : List Int} (ha : E a = some ta) (hb : E b = some tb) (hu : ta.und = .sl e) (hu' : tb.und = .str) (he : E e = some te) (hk : te.und = .it .u8) (h1 : te.sz = 1)
    (hv : elemsOf H v = some (l.map (AV.int .u8))) (hn : ∀ j, v ≠ .str j) (h : K (.str (toStr l)) H) : convK E a b v H K := by
  have hi : ∀ k n, v ≠ .int k n := by rintro k n rfl; simp [elemsOf] at hv
  simp only [convK, ha, hb]
  cases v with
  | int k n => exact absurd rfl (hi k n)
  | str j => exact absurd rfl (hn j)
  | _ => simp only [hu, hu', he, hk, h1, if_true, hv, bytesOf_ints, Option.map_some]; exact h

/-! Slicing. -/
def slc {α : Type} (l : List α) (lo hi : Int) : Option (List α) := if 0 ≤ lo ∧ lo ≤ hi ∧ hi ≤ l.length then some ((l.drop lo.toNat).take (hi.toNat - lo.toNat)) else none
def sl3 (E : TEnv) (t : TypeId) (x : AV) (lo hi mx : Option (Option Int)) (H : Heap) (K : AV → Heap → Prop) : Prop := match lo, hi, mx with
  | some lo, some hi, some mx => resV (sliceA E t x lo hi mx H) H K
  | _, _, _ => False
theorem o_slice (t : TypeId) (x : Operand) (lo hi mx : Option Operand) : wpO (ACall C) C q th (.slice t x lo hi mx) s H K = sl3 C.E t (ev s x) (intOp (lo.map (ev s))) (intOp (hi.map (ev s))) (intOp (mx.map (ev s))) H K := by
  rw [wpO_pure _ rfl]
  simp only [evalOp, sl3]
  generalize intOp (lo.map (ev s)) = a
  generalize intOp (hi.map (ev s)) = b
  generalize intOp (mx.map (ev s)) = c
  cases a <;> cases b <;> cases c <;> first | rfl | (simp only; rename_i lo hi mx; generalize sliceA C.E t (ev s x) lo hi mx H = z; cases z <;> rfl)
theorem intOp_n : intOp none = some none := rfl
theorem intOp_s (k : IntKind) (n : Int) : intOp (some (.int k n)) = some (some n) := rfl
theorem w_slS {α : Type} {E : TEnv} {t : TypeId} {ti : TI} {l : List UInt8} {lo hi : Option Int} {f : List UInt8 → Option α} {r : α} (ht : E t = some ti) (hu : ti.und = .str) (hh : (slc l (lo.getD 0) (hi.getD l.length)).bind f = some r)
    (h : ∀ m, slc l (lo.getD 0) (hi.getD l.length) = some m → f m = some r → K (.str m) H) : sl3 E t (.str l) (some lo) (some hi) (some none) H K := by
  cases hm : slc l (lo.getD 0) (hi.getD l.length) with
  | none => rw [hm] at hh; simp at hh
  | some m =>
    rw [hm] at hh
    have hk := h m hm hh
    unfold slc at hm
    split at hm
    · rename_i hc
      simp only [Option.some.injEq] at hm
      simp only [sl3, sliceA, ht, hu, if_pos hc, resV, hm]
      exact hk
    · simp at hm
theorem szAll_map {α : Type} {c : α → AV} {sz : Nat} (hc : ∀ x, (c x).cells.length = sz) (l : List α) : szAll sz (l.map c) = true := by
  simp [szAll, hc]
theorem w_slF {α β : Type} {E : TEnv} {t e : TypeId} {ti te : TI} {l : List α} {c : α → AV} {lo hi : Option Int} {f : List α → Option β} {r : β} (ht : E t = some ti) (hu : ti.und = .sl e) (he : E e = some te) (hc : ∀ x, (c x).cells.length = te.sz) (hh : (slc l (lo.getD 0) (hi.getD l.length)).bind f = some r)
    (h : ∀ m, slc l (lo.getD 0) (hi.getD l.length) = some m → f m = some r → K (.fz (m.map c)) H) : sl3 E t (.fz (l.map c)) (some lo) (some hi) (some none) H K := by
  cases hm : slc l (lo.getD 0) (hi.getD l.length) with
  | none => rw [hm] at hh; simp at hh
  | some m =>
    rw [hm] at hh
    have hk := h m hm hh
    unfold slc at hm
    split at hm
    · rename_i hcc
      simp only [Option.some.injEq] at hm
      simp only [sl3, sliceA, ht, hu, he, szAll_map hc, Bool.not_true, Bool.false_eq_true, if_false, List.length_map, if_pos hcc, resV]
      rw [← hm, List.map_take, List.map_drop] at hk
      exact hk
    · simp at hm
/-- A part of a slice that is owned takes its place. -/
theorem w_slO {α β : Type} {E : TEnv} {t e : TypeId} {ti te : TI} {v : AV} {l : List α} {c : α → AV} {lo hi : Option Int} {f : List α → Option β} {r : β} (j : Nat) (hS : Own H L) (hj : L[j]? = some ⟨v, te.sz, l.map c⟩) (hp : isSl v) (ht : E t = some ti) (hu : ti.und = .sl e) (he : E e = some te) (hh : (slc l (lo.getD 0) (hi.getD l.length)).bind f = some r)
    (h : ∀ v' m, isSl v' → slc l (lo.getD 0) (hi.getD l.length) = some m → f m = some r → Own H (L.set j ⟨v', te.sz, m.map c⟩) → K v' H) : sl3 E t v (some lo) (some hi) (some none) H K := by
  cases hm : slc l (lo.getD 0) (hi.getD l.length) with
  | none => rw [hm] at hh; simp at hh
  | some m =>
    rw [hm] at hh
    have hk := fun v' hv' => h v' m hv' hm hh
    unfold slc at hm
    split at hm
    · rename_i hc
      obtain ⟨hc1, hc2, hc3⟩ := hc
      simp only [Option.some.injEq] at hm
      have hok := hS.ok j _ hj
      obtain ⟨k0, hok⟩ := hok
      have hset : L.set j ⟨v, te.sz, l.map c⟩ = L := List.ext_getElem? fun k => by
        rw [List.getElem?_set]
        split
        · rename_i e; subst e
          have := (List.getElem?_eq_some_iff.1 hj).1
          simp only [this, if_true]; exact hj.symm
        · rfl
      have hmsz : szAll te.sz (m.map c) = true := by
        simp only [szAll, List.all_eq_true, List.mem_map] at k0 ⊢
        rintro z ⟨y, hy, rfl⟩
        rw [← hm] at hy
        exact k0 _ ⟨y, List.mem_of_mem_drop (List.mem_of_mem_take hy), rfl⟩
      have empty : l.map c = [] → m = [] ∧ l = [] ∧ lo.getD 0 = 0 ∧ hi.getD l.length = 0 := by
        intro e
        rw [List.map_eq_nil_iff] at e
        subst e
        have e0 : (([] : List α).length : Int) = 0 := rfl
        rw [e0] at hc3 hc2 ⊢
        exact ⟨by rw [← hm]; simp, rfl, by omega, by omega⟩
      simp only at hok k0
      split at hok
      · obtain ⟨rfl, rfl, e1, e2⟩ := empty hok
        have e2' : hi.getD 0 = 0 := by cases hi with | none => rfl | some x => simpa using e2
        simp only [sl3, sliceA, ht, hu, he]
        rw [if_pos ⟨e1, e2', rfl, by simp⟩]
        exact hk .nil isSl_nil (by rw [hset]; exact hS)
      · obtain ⟨rfl, rfl, e1, e2⟩ := empty hok
        have e2' : hi.getD 0 = 0 := by cases hi with | none => rfl | some x => simpa using e2
        simp only [sl3, sliceA, ht, hu, he]
        rw [if_pos ⟨e1, e2', rfl, by simp⟩]
        exact hk .e0 isSl_e0 (by rw [hset]; exact hS)
      · rename_i id ver off len
        obtain ⟨k1, b, hb, k2, k3, k4, k5⟩ := hok
        simp only [List.length_map] at k1
        subst k1
        simp only [sl3, sliceA, ht, hu, hb, he, k2, ne_eq, not_true_eq_false, if_false]
        rw [if_pos ⟨hc1, hc2, by omega⟩]
        have hml : (hi.getD (l.length : Int)).toNat - (lo.getD 0).toNat = m.length := by
          rw [← hm, List.length_take, List.length_drop]; omega
        refine hk _ (isSl_ref ..) (hS.upd hj rfl (fun _ _ _ _ => rfl) ⟨hmsz, ?_, b, hb, k2, k3, ?_, ?_⟩ (fun k hk => by simpa [idOf] using hk.symm))
        · simp only [List.length_map]; exact hml
        · omega
        · simp only [subL] at k5 ⊢
          rw [← hm, List.map_take, List.map_drop, ← k5, List.drop_take, List.drop_drop, List.take_take]
          congr 1
          omega
      · rename_i id ver ix off
        obtain ⟨rfl, rfl, _⟩ := hok
        exact absurd rfl (hp.ne id ver)
      · exact hok.elim
    · simp at hm

/-! Making. -/
def mkL {α : Type} (by_ : Nat) (n : Int) (d : α) : Option (List α) := if 0 ≤ n ∧ roomy n.toNat by_ then some (List.replicate n.toNat d) else none
theorem w_make {α β : Type} {t : TypeId} {x y : Operand} {te : TI} {z : AV} {n : Int} {c : α → AV} {d : α} {f : List α → Option β} {r : β} (hS : Own H L) (ht : elTI C.E t = some te) (hx : ev s x = .int .i64 n) (hy : ev s y = .int .i64 n) (hz : zeroE te = some z) (hd : c d = z) (h0 : (te.sz == 0) = false)
    (hh : (mkL te.bytes n d).bind f = some r) (h : ∀ v H' l, isSl v → mkL te.bytes n d = some l → f l = some r → Own H' (⟨v, te.sz, l.map c⟩ :: L) → K v H') : wpO (ACall C) C q th (.makeSlice t x y) s H K := by
  refine w_mk hS ht hx hy hz hd (by simpa using h0) hh fun v H' hv h1 h2 h3 h4 => h v H' _ hv (by unfold mkL; rw [if_pos ⟨h1, h2⟩]) h3 h4
theorem w_appV {α β : Type} {E : TEnv} {t u : TypeId} {te tu : TI} {e : TypeId} {v x : AV} {l m : List α} {c : α → AV} {f : List α → Option β} {r : β} (j : Nat) (hS : Own H L) (hj : L[j]? = some ⟨v, te.sz, l.map c⟩) (hp : isSl v) (ht : elTI E t = some te) (hu : E u = some tu) (hi : tu.und = .sl e)
    (hx : elemsOf H x = some (m.map c)) (hsz : ∀ x, (c x).cells.length = te.sz) (h0 : (te.sz == 0) = false) (hh : (app te.bytes l m).bind f = some r) (h : ∀ v' H' lm, isSl v' → app te.bytes l m = some lm → f lm = some r → Own H' (L.set j ⟨v', te.sz, lm.map c⟩) → K v' H') :
    resO (evalBuiltin E .append #[t, u] [v, x] H) K :=
  w_app j hS hj hp ht hu hi hx (szAll_map hsz m) h0 hh fun v' H' h1 h2 h3 h4 => h v' H' _ h1 h2 h3 h4

/-! The order of what is owned; what is nowhere. -/
theorem Own.perm {L' : List It} (h : Own H L) (hp : L.Perm L') : Own H L' := by
  have nd : ∀ {L : List It}, Own H L ↔ (∀ it ∈ L, ItOK H it) ∧ (L.filterMap (fun it => idOf it.v)).Nodup := by
    intro L
    constructor
    · intro h
      refine ⟨fun it hi => ?_, ?_⟩
      · obtain ⟨i, hi'⟩ := List.mem_iff_getElem?.1 hi
        exact h.ok i it hi'
      · induction L with
        | nil => simp
        | cons a L ih =>
          have ih := ih h.tl
          rw [List.filterMap_cons]
          cases ha : idOf a.v with
          | none => exact ih
          | some id =>
            refine List.nodup_cons.2 ⟨fun hm => ?_, ih⟩
            obtain ⟨b, hb, hid⟩ := List.mem_filterMap.1 hm
            obtain ⟨j, hj⟩ := List.mem_iff_getElem?.1 hb
            have := h.dis 0 (j + 1) a b id rfl hj ha hid
            omega
    · rintro ⟨h1, h2⟩
      refine ⟨fun i it hi => h1 it (List.mem_of_getElem? hi), ?_⟩
      clear h1
      induction L with
      | nil => intro i j a b id h; simp at h
      | cons a L ih =>
        have h2' : (L.filterMap (fun it => idOf it.v)).Nodup := by
          rw [List.filterMap_cons] at h2
          split at h2
          · exact h2
          · exact (List.nodup_cons.1 h2).2
        have no : ∀ (j : Nat) (b : It) (id : Nat), L[j]? = some b → idOf a.v = some id → idOf b.v ≠ some id := by
          intro j b id hj ha hb
          rw [List.filterMap_cons, ha] at h2
          exact (List.nodup_cons.1 h2).1 (List.mem_filterMap.2 ⟨b, List.mem_of_getElem? hj, hb⟩)
        intro i j x y id hi hj hx hy
        cases i with
        | zero =>
          simp at hi; subst hi
          cases j with
          | zero => rfl
          | succ j => exact absurd hy (no j y id (by simpa using hj) hx)
        | succ i =>
          cases j with
          | zero => simp at hj; subst hj; exact absurd hx (no i x id (by simpa using hi) hy)
          | succ j => have := ih h2' i j x y id (by simpa using hi) (by simpa using hj) hx hy; omega
  rw [nd] at h ⊢
  exact ⟨fun it hi => h.1 it (hp.mem_iff.2 hi), (hp.filterMap _).nodup_iff.1 h.2⟩
theorem Own.front (h : Own H L) (j : Nat) {it : It} (hj : L[j]? = some it) : Own H (it :: L.eraseIdx j) := by
  refine h.perm ?_
  have hlt := (List.getElem?_eq_some_iff.1 hj).1
  have he := (List.getElem?_eq_some_iff.1 hj).2
  have : L = L.take j ++ it :: L.drop (j + 1) := by
    rw [← he, List.getElem_cons_drop, List.take_append_drop]
  rw [List.eraseIdx_eq_take_drop_succ]
  conv => lhs; rw [this]
  exact List.perm_middle
theorem Own.nil_ (h : Own H L) (sz : Nat) : Own H (⟨.nil, sz, []⟩ :: L) :=
  h.new (fun _ _ _ => rfl) ⟨rfl, rfl⟩ (fun k hk => by simp [idOf] at hk)
theorem Own.e0_ (h : Own H L) (sz : Nat) : Own H (⟨.e0, sz, []⟩ :: L) :=
  h.new (fun _ _ _ => rfl) ⟨rfl, rfl⟩ (fun k hk => by simp [idOf] at hk)
theorem Own.drop (h : Own H L) (j : Nat) : Own H (L.eraseIdx j) := by
  cases hj : L[j]? with
  | none =>
    rw [List.eraseIdx_of_length_le (List.getElem?_eq_none_iff.1 hj)]; exact h
  | some it => exact (h.front j hj).tl
/-- A variable that is only read. -/
theorem Own.varm (hS : Own H L) {id ver sz : Nat} {a : AV} (hm : ⟨.ptr id ver 0 0, sz, [a]⟩ ∈ L) : H.blk id ver = some ⟨ver, sz, false, [a]⟩ := by
  obtain ⟨j, hj⟩ := List.mem_iff_getElem?.1 hm
  exact hS.var j hj

/-! Calls that are shown on deep values. -/
theorem w_callQ {α β : Type} {g : FuncId} {caps args ys : List AV} {lent : Bool} {o : Option α} {f : α → Option β} {r : β} {rsh : List (List Sh)} (h : o.bind f = some r) (hr : (C.pol g).rsh = rsh) (hp : prepVal [] (args ++ caps) H = some (ys, lent))
    (hk : ∀ x, o = some x → f x = some r → ∃ y, ACall C g ys ⟨0, []⟩ (fun v L => ∃ rs zs L2, v = oneOrTup rs ∧ takeVals rsh rs L = some (zs, L2) ∧ y = oneOrTup zs) ∧ (lent = false ∨ noFz y = true) ∧ if th || lent then K (thawV y H).1 (thawV y H).2 else K (frzV y) H) : callK C q th (.fn g caps) args H K := by
  cases ho : o with
  | none => rw [ho] at h; simp at h
  | some x =>
    rw [ho] at h
    have hq : wpCallQ (ACall C) C g (args ++ caps) th H K := by
      unfold wpCallQ
      rw [hp, hr]
      exact hk x ho h
    cases q with
    | true => exact hq
    | false => exact .inr hq
end
end Go.VS
