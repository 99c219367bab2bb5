/-
  VS, part 38: a region whose order is open ends as in the text's order.
-/
import Derived.Test.YtkmcnmjjfgahpaaVtK
namespace Go.VS

section draw
variable {P : Program} {C : Ctx} {X : CallRel} {ops : Array Oper} {louds : List Nat} {th : List Nat} {K : Frm → Heap → Prop} {s : Nat → Frm} {H : Nat → Heap} {v : Nat → AV} {act : Nat → Bool}
variable {w0 : World} {φ0 : Phi} {A0 : Avoid} {listed : Array Bool} {a : Act} {w : World} {b c : Nat} {φ : Phi} {A : Avoid}

theorem Inv.past (inv : Inv ops louds s H v w0 φ0 A0 listed a w b c φ A) (dk : DOK ops louds) {i : Nat} {o : Oper} (ho : ops[i]? = some o) (ha : ∀ e ∈ o.after, Region.binds .any e = true → listed.getD e.on false = true) : i ≤ c := by
  rcases Nat.lt_or_ge c i with h | h
  · exfalso
    have hi : i < ops.size := (Array.getElem?_eq_some_iff.1 ho).1
    rcases inv.cl with hc | hc
    · omega
    · have hco := Array.getElem?_eq_getElem (xs := ops) (show c < ops.size by omega)
      have hb := dk.after c i _ o hco ho hc h
      have hL := bef_listed inv.shut dk.back i o ho ha c hb
      have := (inv.loud c hc (by omega)).1 hL
      have := inv.bc
      omega
  · exact h

theorem Inv.stepL (inv : Inv ops louds s H v w0 φ0 A0 listed a w b c φ A) (hst0 : St w0 (H 0) φ0 A0) (dk : DOK ops louds) (t : TrD X C ops louds th K s H v act) {o : Oper} (ho : ops[c]? = some o) (hl : c ∈ louds) (ha : ∀ e ∈ o.after, Region.binds .any e = true → listed.getD e.on false = true)
    {u : Value} {w' : World} {φ1 : Phi} {A1 : Avoid} (hout : Out w (H c) φ A w' (H (c + 1)) φ1 A1) (hr : R w' (H (c + 1)) φ1 A1 (v c) u) : ∃ c', Inv ops louds s H v w0 φ0 A0 (listed.setIfInBounds c true) (a.put o.dst u) w' (c + 1) c' φ1 A1 := by
  have hi : c < ops.size := (Array.getElem?_eq_some_iff.1 ho).1
  have hsz : c < listed.size := by rw [inv.size]; exact hi
  have hiff := getD_set_iff hsz
  have hfalse : ∀ k, (listed.setIfInBounds c true).getD k false = false → k ≠ c ∧ listed.getD k false = false := fun k hk => by
    have := (not_congr (hiff k)).1 (by rw [hk]; simp)
    refine ⟨fun h => this (.inl h), ?_⟩
    cases hq : listed.getD k false with
    | false => rfl
    | true => exact absurd (.inr hq) this
  obtain ⟨c', k1, k2, k3, k4⟩ := next_loud louds ops.size (ops.size - (c + 1)) (c + 1) rfl (by omega)
  have hqg := qgs t (c' - (c + 1)) (c + 1) (by omega) (fun k h1 h2 => k4 k h1 (by omega))
  rw [show c + 1 + (c' - (c + 1)) = c' by omega] at hqg
  have hex := extOut hout.st hqg.1.1 hqg.2
  have hevo := hout.evo.trans hex.evo (fun k hk => by rw [(hout.post.trans hex.post).bsz k (Ow.lt inv.out.st hk)])
  refine ⟨c', by simp [inv.size], fun k r hk hLk e he hb => ?_, k1, k2, k3, k4, fun k hk hkn => ?_, .inr ⟨by simpa using hl, Nat.succ_pos _⟩, (inv.out.trans hst0 hout).trans hst0 hex, fun k h1 h2 h3 id h4 h5 => ?_, ?_, ?_, fun k r d u' hk hr' hLk hu' => ?_, fun x u' hno hu' => ?_⟩
  · by_cases hkc : k = c
    · subst hkc
      rw [ho] at hk
      simp only [Option.some.injEq] at hk; subst hk
      exact (hiff _).2 (.inr (ha e he hb))
    · exact (hiff _).2 (.inr (inv.shut k r hk (((hiff k).1 hLk).resolve_left hkc) e he hb))
  · rw [hiff, inv.loud k hk hkn]
    have hbc := inv.bc
    constructor
    · rintro (h | h) <;> omega
    · intro h
      by_cases hkc : k = c
      · exact .inl hkc
      · right
        rcases Nat.lt_or_ge k b with h' | h'
        · exact h'
        · exact absurd hk (inv.nol k h' (by omega))
  · refine hout.st.new ?_
    have := (qgs t (k - (c + 1)) (c + 1) (by omega) (fun j j1 j2 => k4 j j1 (by omega))).1.2
    rw [show c + 1 + (k - (c + 1)) = k by omega] at this
    omega
  · cases hd : o.dst <;> simp [Act.put, inv.dfr]
  · cases hd : o.dst <;> simp [Act.put, inv.len]
  · by_cases hki : k = c
    · subst hki
      rw [ho] at hk
      simp only [Option.some.injEq] at hk; subst hk
      rw [hr'] at hu'
      simp only [Act.put, Array.getElem?_setIfInBounds] at hu'
      simp only [if_true] at hu'
      split at hu'
      · rename_i hlt
        simp only [Option.some.injEq] at hu'; subst hu'
        exact hr.mono hex.evo
      · simp at hu'
    · have hLk := ((hiff k).1 hLk).resolve_left hki
      have hne : o.dst ≠ some d := dk.uniq c k o r d (fun h => hki h.symm) ho hk hr'
      have : a.tmps[d]? = some u' := by
        cases hd : o.dst with
        | none => rw [hd] at hu'; exact hu'
        | some d' =>
          rw [hd] at hu'
          simp only [Act.put, Array.getElem?_setIfInBounds] at hu'
          rw [if_neg (by rintro rfl; exact hne hd)] at hu'
          exact hu'
      exact (inv.wr k r d u' hk hr' hLk this).mono hevo
  · have hne : o.dst ≠ some x := fun hd => by have := hno c o ho hd; have h2 := (hiff c).2 (.inl rfl); rw [this] at h2; simp at h2
    have : a.tmps[x]? = some u' := by
      cases hd : o.dst with
      | none => rw [hd] at hu'; exact hu'
      | some d' =>
        rw [hd] at hu'
        simp only [Act.put, Array.getElem?_setIfInBounds] at hu'
        rw [if_neg (by rintro rfl; exact hne hd)] at hu'
        exact hu'
    exact (inv.un x u' (fun k r hk hr' => (hfalse k (hno k r hk hr')).2) this).mono hevo

theorem late_quiet {op : Op} (h : lateOp op = true) : quietOp op = true := by
  cases op <;> first | rfl | (simp [lateOp] at h)

/-- How much is left. -/
def left (ops : Array Oper) (listed : Array Bool) : Nat := ((List.range ops.size).filter fun k => !listed.getD k false).length

theorem left_set {ops : Array Oper} {listed : Array Bool} {i : Nat} (hs : listed.size = ops.size) (hi : i < ops.size) (hu : listed.getD i false = false) : left ops (listed.setIfInBounds i true) < left ops listed := by
  have hiff := getD_set_iff (listed := listed) (i := i) (by omega)
  have he : ((List.range ops.size).filter fun k => !(listed.setIfInBounds i true).getD k false) = (((List.range ops.size).filter fun k => !listed.getD k false).filter fun k => !(listed.setIfInBounds i true).getD k false) := by
    rw [List.filter_filter]
    refine List.filter_congr fun k _ => ?_
    cases hq : (listed.setIfInBounds i true).getD k false with
    | true => simp
    | false =>
      have : listed.getD k false = false := by
        cases hq2 : listed.getD k false with
        | false => rfl
        | true => rw [(hiff k).2 (.inr hq2)] at hq; simp at hq
      simp only [this, Bool.not_false, Bool.and_self]
  unfold left
  rw [he]
  refine List.length_filter_lt_length_iff_exists.2 ⟨i, List.mem_filter.2 ⟨List.mem_range.2 hi, by rw [hu]; rfl⟩, ?_⟩
  rw [(hiff i).2 (.inl rfl)]
  simp

theorem draw_key (hE : ∀ t ti, C.E t = some ti → TyOK P t ti) (hX : ∀ f ys H K, X f ys H K → Sim P f ys H K) (dk : DOK ops louds) (t : TrD X C ops louds th K s H v act) (hst0 : St w0 (H 0) φ0 A0) {Q : Exit → Act → World → Prop}
    (hq : ∀ s' H' φ' A' a' w', Out w0 (H 0) φ0 A0 w' H' φ' A' → SF w' H' φ' A' s' a' → K s' H' → Q .normal a' w') :
    ∀ (fuel : Nat) (listed : Array Bool) (a : Act) (w : World) (b c : Nat) (φ : Phi) (A : Avoid), Inv ops louds s H v w0 φ0 A0 listed a w b c φ A → left ops listed ≤ fuel → wpAny P .any ops Q fuel listed a w := by
  have done : ∀ (listed : Array Bool) (a : Act) (w : World) (b c : Nat) (φ : Phi) (A : Avoid), Inv ops louds s H v w0 φ0 A0 listed a w b c φ A → Region.ready .any ops listed = [] → Q .normal a w := by
    intro listed a w b c φ A inv hr
    have all : ∀ k, k < ops.size → listed.getD k false = true := by
      intro k
      induction k using Nat.strongRecOn with
      | _ k ih =>
        intro hk
        cases hq : listed.getD k false with
        | true => rfl
        | false =>
          exfalso
          have ho := Array.getElem?_eq_getElem (xs := ops) hk
          have : k ∈ Region.ready .any ops listed := mem_ready.2 ⟨getD_in (by rw [inv.size]; exact hk) hq, _, ho, fun e he hb => by
            have hlt := dk.back k _ ho e he hb
            exact ih e.on hlt (by omega)⟩
          rw [hr] at this
          cases this
    have hcn : c = ops.size := by
      rcases inv.cl with h | h
      · exact h
      · rcases Nat.lt_or_ge c ops.size with h' | h'
        · have := (inv.loud c h h').1 (all c h')
          have := inv.bc
          omega
        · have := inv.cn; omega
    obtain ⟨hl, hg⟩ := sget dk t ops.size (Nat.le_refl _)
    have hfin := t.fin
    rw [Array.length_toList] at hfin
    have hout := inv.out
    rw [hcn] at hout
    refine hq (s ops.size) (H ops.size) φ A a w hout ⟨by rw [hl, inv.len], fun x y u hx hu => ?_, inv.dfr⟩ hfin
    have hxl : x < (s 0).length := by rw [← hl]; exact (List.getElem?_eq_some_iff.1 hx).1
    have hy : (s ops.size).getD x .undef = y := by simp [List.getD, hx]
    by_cases hw : ∃ (k : Nat) (r : Oper), ops[k]? = some r ∧ r.dst = some x
    · obtain ⟨k, r, hk, hr⟩ := hw
      have hkl : k < ops.size := (Array.getElem?_eq_some_iff.1 hk).1
      rw [(hg x hxl).1 k r hkl hk hr] at hy
      subst hy
      have := inv.wr k r x u hk hr (all k hkl) hu
      rw [hcn] at this; exact this
    · rw [(hg x hxl).2 (fun k' o' _ hok' hd' => hw ⟨k', o', hok', hd'⟩)] at hy
      subst hy
      have := inv.un x u (fun k' o' hok' hd' => absurd ⟨k', o', hok', hd'⟩ hw) hu
      rw [hcn] at this; exact this
  intro fuel
  induction fuel with
  | zero =>
    intro listed a w b c φ A inv hle
    have hr : Region.ready .any ops listed = [] := by
      cases hq : Region.ready .any ops listed with
      | nil => rfl
      | cons i rs =>
        exfalso
        have hm : i ∈ Region.ready .any ops listed := by rw [hq]; simp
        obtain ⟨hu, o, ho, _⟩ := mem_ready.1 hm
        have hi : i < ops.size := (Array.getElem?_eq_some_iff.1 ho).1
        have : i ∈ ((List.range ops.size).filter fun k => !listed.getD k false) := List.mem_filter.2 ⟨List.mem_range.2 hi, by rw [getD_both hu]; rfl⟩
        have := List.length_pos_of_mem this
        unfold left at hle
        omega
    exact ⟨hr, done listed a w b c φ A inv hr⟩
  | succ fuel ih =>
    intro listed a w b c φ A inv hle
    refine ⟨done listed a w b c φ A inv, fun i hi => ?_⟩
    obtain ⟨hu1, o, ho, ha⟩ := mem_ready.1 hi
    have hu := getD_both hu1
    have hin : i < ops.size := (Array.getElem?_eq_some_iff.1 ho).1
    have hleft := left_set inv.size hin hu
    have hpast := inv.past dk ho ha
    obtain ⟨st1, st2, st3, st4, st5⟩ := t.step i o (by rw [Array.getElem?_toList]; exact ho)
    rw [Nat.zero_add] at st3
    unfold Go.wpOp
    rw [ho]
    simp only
    by_cases hloud : i ∈ louds
    · -- a loud one
      have hic : i = c := by
        rcases Nat.lt_or_ge i c with h | h
        · exfalso
          have hb : ¬ i < b := fun h => by have := (inv.loud i hloud hin).2 h; rw [hu] at this; simp at this
          exact inv.nol i (by omega) h hloud
        · omega
      subst hic
      have hop := inv.opnd dk t ho hu ha (m := i) (by omega) (Nat.le_refl _) (.inl rfl)
      have hw := guard_wanted (H := H i) (φ := φ) (A := A) (w := w) (s := s i) (a := a) (fun j want x hg hx => inv.look dk t ho hu ha (m := i) (by omega) (Nat.le_refl _) (.inl rfl) (by
        unfold Oper.looksAt
        refine List.mem_append.2 (.inr ?_)
        rw [hg]; simp only; rw [hx]; simp)) st2
      cases hact : act i with
      | true =>
        rw [hact] at hw
        rw [if_pos hw]
        have h3 := st3 hact
        rw [show (!louds.contains i) = false by simpa using hloud] at h3
        refine .inl (opSim hE hX inv.out.st hop h3 fun x u w' H' φ' A' k1 k2 k3 => ?_)
        obtain ⟨rfl, rfl⟩ := k3
        obtain ⟨c', inv'⟩ := inv.stepL hst0 dk t ho hloud ha k1 k2
        exact ih _ _ _ _ _ _ _ inv' (by omega)
      | false =>
        rw [hact] at hw
        rw [if_neg (by rw [hw]; simp)]
        obtain ⟨h4, h5⟩ := st4 hact
        obtain ⟨c', inv'⟩ := inv.stepL hst0 dk t ho hloud ha (u := undef) (w' := w) (φ1 := φ) (A1 := A) (by rw [h5]; exact .refl inv.out.st) (by rw [h4]; exact .fr _ _ (.tup [] #[] rfl (by simp)))
        exact ih _ _ _ _ _ _ _ inv' (by omega)
    · have hic : i < c := by
        rcases Nat.lt_or_ge i c with h | h
        · exact h
        · have : i = c := by omega
          subst this
          rcases inv.cl with h' | h'
          · omega
          · exact absurd h' hloud
      have hcn := inv.cn
      rcases Nat.lt_or_ge i b with hib | hib
      · -- late
        obtain ⟨hb1, hb2⟩ : b - 1 ∈ louds ∧ 0 < b := by
          rcases inv.base with h | h
          · omega
          · exact h
        have hbc := inv.bc
        have hbo := Array.getElem?_eq_getElem (xs := ops) (show b - 1 < ops.size by omega)
        have hLb := (inv.loud (b - 1) hb1 (by omega)).2 (by omega)
        have hib' : i < b - 1 := by
          rcases Nat.lt_or_ge i (b - 1) with h | h
          · exact h
          · have : i = b - 1 := by omega
            subst this
            exact absurd hb1 hloud
        have hbef : ((bef ops.toList).getD (b - 1) 0).testBit i = false := by
          cases hq : ((bef ops.toList).getD (b - 1) 0).testBit i with
          | false => rfl
          | true =>
            have := bef_listed inv.shut dk.back (b - 1) _ hbo (inv.shut (b - 1) _ hbo hLb) i hq
            rw [hu] at this; simp at this
        obtain ⟨_, hg, hlo, ⟨d, hd⟩, hlk⟩ := dk.late (b - 1) i _ o hbo ho hb1 hib' hbef
        obtain ⟨_, _, _, _, hch⟩ := t.step (b - 1) _ (by rw [Array.getElem?_toList]; exact hbo)
        rw [Nat.zero_add, show b - 1 + 1 = b by omega] at hch
        have hchk := hch i (by
          unfold lateOf
          rw [if_pos (by simpa using hb1)]
          exact List.mem_filter.2 ⟨List.mem_range.2 hib', by rw [hbef]; rfl⟩)
        unfold lateChk at hchk
        rw [ho] at hchk
        simp only [hd] at hchk
        have hop := inv.opnd dk t ho hu ha (m := b) (by omega) (by omega) (.inr hlk)
        have hqg := qgs t (c - b) b (by omega) (fun k h1 h2 => inv.nol k h1 (by omega))
        rw [show b + (c - b) = c by omega] at hqg
        have hw : Region.wanted o (yielded ops a.tmps) = true := by simp [Region.wanted, hg]
        rw [if_pos hw]
        refine .inl ((simQuiet hE inv.out.st hqg.1.1 hqg.1.1 (fun h => absurd h (Nat.lt_irrefl _)) (late_quiet hlo) hop hchk).upon fun u w' φ' A' k1 k2 k3 => ?_)
        refine ih _ _ _ _ _ _ _ (inv.stepQ hst0 dk t ho hloud ha k1 (fun d' hd' hlt => ?_) (fun id loc h => ?_)) (by omega)
        · rw [hd] at hd'
          simp only [Option.some.injEq] at hd'; subst hd'
          rw [← ((sget dk t b (by omega)).2 d (by rw [inv.len]; exact hlt)).1 i o hib ho hd]
          exact k2
        · rcases k3 id loc h with h | ⟨h1, h2⟩
          · exact .inl h
          · omega
      · -- in time
        have hop := inv.opnd dk t ho hu ha (m := i) (by omega) (Nat.le_refl _) (.inl rfl)
        have hw := guard_wanted (H := H c) (φ := φ) (A := A) (w := w) (s := s i) (a := a) (fun j want x hg hx => inv.look dk t ho hu ha (m := i) (by omega) (Nat.le_refl _) (.inl rfl) (by
          unfold Oper.looksAt
          refine List.mem_append.2 (.inr ?_)
          rw [hg]; simp only; rw [hx]; simp)) st2
        cases hact : act i with
        | true =>
          rw [hact] at hw
          rw [if_pos hw]
          have h3 := st3 hact
          have hnl : (!louds.contains i) = true := by simpa using hloud
          rw [hnl] at h3
          have hq1 := qgs t (c - i) i (by omega) (fun k h1 h2 => inv.nol k (by omega) (by omega))
          rw [show i + (c - i) = c by omega] at hq1
          have hq2 := qgs t (c - (i + 1)) (i + 1) (by omega) (fun k h1 h2 => inv.nol k (by omega) (by omega))
          rw [show i + 1 + (c - (i + 1)) = c by omega] at hq2
          refine .inl (VS.stepQ hE hX inv.out.st hop hq1.1.1 ⟨hq2.1.1, fun id h1 h2 => inv.none i hib hic hu id h1 h2⟩ h3 fun u w' φ' A' k1 k2 k3 => ?_)
          refine ih _ _ _ _ _ _ _ (inv.stepQ hst0 dk t ho hloud ha k1 (fun d' _ _ => k2) (fun id loc h => ?_)) (by omega)
          rcases k3 id loc h with h | h
          · exact .inl h
          · exact .inr ⟨hib, hic, h⟩
        | false =>
          rw [hact] at hw
          rw [if_neg (by rw [hw]; simp)]
          obtain ⟨h4, h5⟩ := st4 hact
          refine ih _ _ _ _ _ _ _ (inv.stepQ hst0 dk t ho hloud ha (.refl inv.out.st) (fun d' _ _ => by rw [h4]; exact .fr _ _ (.tup [] #[] rfl (by simp))) (fun id loc h => .inl h)) (by omega)

theorem drawSim (hXe : Exact X) (hm : P.follows .mixedOrders = true) (hE : ∀ t ti, C.E t = some ti → TyOK P t ti) (hX : ∀ f ys H K, X f ys H K → Sim P f ys H K) : DrawSim P C X := by
  intro id ops louds th s0 H0 K Q w φ A a hd h hst hs hq
  have dk := dok_of hd
  obtain ⟨s, H, v, act, rfl, rfl, t⟩ := tr_of hXe ops.toList 0 s0 H0 h
  refine wp_region_any hm ?_
  have hevo : Evo w (H 0) φ A { w with drawn := w.drawn + 1 } (H 0) φ A := ⟨fun c arr T fr hc hn => ⟨⟨fr, hc⟩, hn⟩, Nat.le_refl _, fun id b h _ => ⟨b, h, rfl, rfl, rfl, rfl, fun _ h => h⟩, fun _ _ => rfl⟩
  have hst1 : St { w with drawn := w.drawn + 1 } (H 0) φ A := by
    refine ⟨hst.inj, hst.own, hst.bnd, fun id loc hl => ?_⟩
    obtain ⟨b, hb, hok⟩ := hst.blk id loc hl
    refine ⟨b, hb, hok.ver, hok.sized, hok.virt, fun c b0 he => ?_⟩
    obtain ⟨arr, T, fr, k1, k2, k3, k4⟩ := hok.here c b0 he
    exact ⟨arr, T, fr, k1, k2, k3, fun i x j y v hx hy hv => ⟨(k4 i x j y v hx hy hv).1.mono hevo, (k4 i x j y v hx hy hv).2⟩⟩
  have ho1 : Out w (H 0) φ A { w with drawn := w.drawn + 1 } (H 0) φ A := ⟨hst1, ⟨rfl, rfl, rfl, Nat.le_refl _, fun _ _ _ => rfl, fun _ _ => rfl, fun _ h => .inl h⟩, hevo, fun _ h _ => h⟩
  obtain ⟨c, k1, k2, k3, k4⟩ := next_loud louds ops.size (ops.size - 0) 0 rfl (Nat.zero_le _)
  have hqg := qgs t c 0 (by omega) (fun k h1 h2 => k4 k h1 (by omega))
  rw [Nat.zero_add] at hqg
  have hex := extOut hst1 hqg.1.1 hqg.2
  refine draw_key hE hX dk t hst hq ops.size _ a _ 0 c φ A ⟨by simp, fun i o ho hl => by have hl' : (Array.replicate ops.size false).getD i false = true := hl; rw [getD_replicate_false] at hl'; simp at hl', k1, k2, k3, k4, fun i _ _ => by rw [getD_replicate_false]; simp, .inl rfl, ho1.trans hst hex, fun i _ _ _ id h4 h5 => ?_, hs.dfr, hs.len, fun k o d u _ _ hl => by rw [getD_replicate_false] at hl; simp at hl, fun x u _ hu => ?_⟩ ?_
  · refine hst.new ?_
    rename_i h1 h2 h3
    have := (qgs t i 0 (by omega) (fun k h1 h2 => k4 k h1 (by omega))).1.2
    rw [Nat.zero_add] at this
    omega
  · have hx := (hs.mono (ho1.evo.trans hex.evo (fun _ _ => rfl))).ev (.tmp x)
    simp only [ev, Act.eval] at hx
    rw [Array.getD_eq_getD_getElem?, hu] at hx
    exact hx
  · unfold left
    exact Nat.le_trans (List.length_filter_le _ _) (by simp)
end draw

end Go.VS
