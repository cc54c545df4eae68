/-
  A region that draws its order: reads may be taken first where every operation ahead of place L keeps what they read, and L waits for them; the operations behind L come one behind the other.
-/
import Derived.OrdersHeld
import Derived.StillTail
namespace Go.Proofs.Ytblbgbgnifdohaa

section
variable {P : Program} {ops : Array Oper} {Q : Exit → Act → World → Prop} {md : Region.Mode} {S : World → Prop} {L : Nat}

/-- whatever order is picked; S holds behind every operation ahead of L. -/
def anyX (P : Program) (md : Region.Mode) (ops : Array Oper) (Q : Exit → Act → World → Prop) (S : World → Prop) (L : Nat) : Nat → Array Bool → Act → World → Prop
  | 0, listed, a, w => Region.ready md ops listed = [] ∧ Q .normal a w
  | fuel + 1, listed, a, w =>
    (Region.ready md ops listed = [] → Q .normal a w) ∧
    ∀ i ∈ Region.ready md ops listed, wpOp P ops Q i (fun a' w' => (i < L → S w → S w') ∧ anyX P md ops Q S L fuel (listed.setIfInBounds i true) a' w') a w

theorem any_of_anyX : ∀ (fuel : Nat) (listed : Array Bool) (a : Act) (w : World), anyX P md ops Q S L fuel listed a w → wpAny P md ops Q fuel listed a w
  | 0, _, _, _, h => h
  | fuel + 1, _, _, _, h => ⟨h.1, fun i hi => wpOp_mono (fun a' w' h' => any_of_anyX fuel _ a' w' h'.2) (h.2 i hi)⟩

/-- what is listed has what it waits for listed. -/
def Shut (md : Region.Mode) (ops : Array Oper) (listed : Array Bool) : Prop :=
  listed.size = ops.size ∧ ∀ j oj, ops[j]? = some oj → listed.getD j false = true → ∀ e ∈ oj.after, Region.binds md e = true → listed.getD e.on false = true
theorem Shut.set {listed : Array Bool} {i : Nat} (inv : Shut md ops listed) (hi : i ∈ Region.ready md ops listed) : Shut md ops (listed.setIfInBounds i true) := by
  obtain ⟨_, oi, hoi, hall⟩ := mem_ready.1 hi
  refine ⟨by simp [inv.1], fun j oj hj hl e he hb => ?_⟩
  by_cases hij : i = j
  · subst hij
    have : oj = oi := Option.some.inj (hj.symm.trans hoi)
    subst this
    exact getD_set_true (hall e he hb)
  · rw [getD_set_ne false hij] at hl
    exact getD_set_true (inv.2 j oj hj hl e he hb)

/-- L waits for i, by way of others. -/
def ancB (md : Region.Mode) (ops : Array Oper) (L : Nat) : Nat → Nat → Bool
  | 0, i => i == L
  | f + 1, i => i == L || (List.range (L + 1)).any fun j => Region.waitsFor md ops j i && ancB md ops L f j
theorem anc_listed {listed : Array Bool} (inv : Shut md ops listed) : ∀ (f i : Nat), ancB md ops L f i = true → listed.getD L false = true → listed.getD i false = true
  | 0, i, h, hl => by simp only [ancB, beq_iff_eq] at h; subst h; exact hl
  | f + 1, i, h, hl => by
    simp only [ancB, Bool.or_eq_true, beq_iff_eq] at h
    rcases h with rfl | h
    · exact hl
    · obtain ⟨j, _, hj⟩ := List.any_eq_true.1 h
      simp only [Bool.and_eq_true] at hj
      obtain ⟨oj, hoj, e, he, hb, rfl⟩ := Region.waitsFor_spec hj.1
      exact inv.2 j oj hoj (anc_listed inv f j hj.2 hl) e he hb
/-- each operation behind L waits for L, or for one between. -/
def descB (md : Region.Mode) (ops : Array Oper) (L : Nat) : Bool :=
  (List.range ops.size).all fun t => decide (t ≤ L) || (List.range t).any fun j => decide (L ≤ j) && Region.waitsFor md ops t j
theorem desc_listed {listed : Array Bool} (inv : Shut md ops listed) (hc : descB md ops L = true) : ∀ (N t : Nat), t ≤ N → L ≤ t → t < ops.size → listed.getD t false = true → listed.getD L false = true
  | N, t, hN, hL, hs, hl => by
    have h1 := List.all_eq_true.1 hc t (List.mem_range.2 hs)
    simp only [Bool.or_eq_true, decide_eq_true_eq] at h1
    rcases h1 with h1 | h1
    · rw [show L = t by omega]; exact hl
    · obtain ⟨j, hj, hw⟩ := List.any_eq_true.1 h1
      simp only [Bool.and_eq_true, decide_eq_true_eq] at hw
      have hjt := List.mem_range.1 hj
      obtain ⟨o, ho, e, he, hb, hon⟩ := Region.waitsFor_spec hw.2
      have := inv.2 t o ho hl e he hb
      rw [hon] at this
      cases N with
      | zero => omega
      | succ N => exact desc_listed inv hc N j (by omega) hw.1 (by omega) this
/-- while i is not listed nothing from L on may come up. -/
theorem not_yet {listed : Array Bool} {i f : Nat} (inv : Shut md ops listed) (hc : descB md ops L = true) (ha : ancB md ops L f i = true) (hiL : i < L) (hun : listed.getD i true = false) {t : Nat} (ht : L ≤ t) : t ∉ Region.ready md ops listed := by
  intro hr
  have inv' := inv.set hr
  obtain ⟨_, ot, hot, _⟩ := mem_ready.1 hr
  have hts : t < ops.size := (Array.getElem?_eq_some_iff.1 hot).1
  have hl : (listed.setIfInBounds t true).getD t false = true := by
    have : t < listed.size := by rw [inv.1]; exact hts
    simp [this]
  have h1 := anc_listed inv' f i ha (desc_listed inv' hc t t (Nat.le_refl _) ht hts hl)
  rw [getD_set_ne false (by omega)] at h1
  rw [getD_both hun] at h1
  cases h1

theorem anyX_first {T : World → Prop} {i : Nat} {oi : Oper} {v : Value} (hi : ops[i]? = some oi) (hsel : ∀ (j : Nat) (o : Oper) cs b, ops[j]? = some o → o.op ≠ .select cs b) (hc : descB md ops L = true)
    (hT : (∀ w, T w) ∨ (T = S ∧ i < L ∧ ∃ f, ancB md ops L f i = true)) (hQ : ∀ c a w, Q (.panic c) (a.put oi.dst v) w → Q (.panic c) a w) :
    ∀ (fuel : Nat) (listed : Array Bool) (a : Act) (w : World), Shut md ops listed →
      (∀ j oj, ops[j]? = some oj → j ≠ i → listed.getD j true = false → (∀ e ∈ oj.after, Region.binds md e = true → e.on ≠ i) → oi.apart ops oj = true) →
      i ∈ Region.ready md ops listed → YieldsIf P ops T oi v a → T w →
      anyX P md ops Q S L fuel (listed.setIfInBounds i true) (a.put oi.dst v) w → anyX P md ops Q S L (fuel + 1) listed a w := by
  intro fuel
  induction fuel with
  | zero =>
    intro listed a w _ _ hr hy hS H
    refine ⟨fun h => (by rw [h] at hr; cases hr), fun j hj => ?_⟩
    by_cases hji : j = i
    · subst hji; exact hy.wpOp hi hS ⟨fun _ h => h, H⟩
    · have := ready_mono hj hji
      rw [H.1] at this
      cases this
  | succ fuel ih =>
    intro listed a w inv hfree hr hy hS H
    have hun := (mem_ready.1 hr).1
    refine ⟨fun h => (by rw [h] at hr; cases hr), fun j hj => ?_⟩
    by_cases hji : j = i
    · subst hji; exact hy.wpOp hi hS ⟨fun _ h => h, H⟩
    · have h1 := H.2 j (ready_mono hj hji)
      obtain ⟨hjun, oj, hoj, hall⟩ := mem_ready.1 hj
      have hnot : ∀ e ∈ oj.after, Region.binds md e = true → e.on ≠ i := fun e he hb heq => by
        have h1 := hall e he hb
        rw [heq, getD_both hun] at h1
        cases h1
      have h2 := wpOp_putIf hoj (hfree j oj hoj hji hjun hnot) (fun cs b => hsel i oi cs b hi) (fun cs b => hsel j oj cs b hoj) hQ hy h1
      have hfree' : ∀ k ok, ops[k]? = some ok → k ≠ i → (listed.setIfInBounds j true).getD k true = false →
          (∀ e ∈ ok.after, Region.binds md e = true → e.on ≠ i) → oi.apart ops ok = true := fun k ok hk hki hun hno => by
        refine hfree k ok hk hki ?_ hno
        by_cases hjk : j = k
        · subst hjk; exact hjun
        · rw [getD_set_ne true hjk] at hun; exact hun
      have hTw : ∀ w', (j < L → S w → S w') → T w' := fun w' hk => by
        rcases hT with h | ⟨rfl, hiL, f, ha⟩
        · exact h w'
        · have hjL : j < L := by
            rcases Nat.lt_or_ge j L with h | h
            · exact h
            · exact absurd hj (not_yet inv hc ha hiL hun h)
          exact hk hjL hS
      refine wpOp_mono (fun a' w' h3 => ⟨h3.2.1, ih (listed.setIfInBounds j true) a' w' (inv.set hj) hfree' (ready_mono hr (Ne.symm hji)) h3.1 (hTw w' h3.2.1) ?_⟩) h2
      rw [Array.setIfInBounds_comm _ _ hji]
      exact h3.2.2

/-- the order in which the walk takes them: (i, 2): a read that leans on S; (i, 1): what yields in whatever world; (i, 0): the only one that may come up. -/
def ordB (md : Region.Mode) (ops : Array Oper) (L : Nat) : List (Nat × Nat) → Array Bool → Bool
  | [], listed => (Region.ready md ops listed).isEmpty
  | (i, q) :: r, listed => (match q with
    | 0 => decide (Region.ready md ops listed = [i])
    | 1 => (Region.ready md ops listed).contains i && Region.free md ops listed i
    | _ => (Region.ready md ops listed).contains i && Region.free md ops listed i && decide (i < L) && ancB md ops L ops.size i) && ordB md ops L r (listed.setIfInBounds i true)
def wpOrd (P : Program) (ops : Array Oper) (Q : Exit → Act → World → Prop) (S : World → Prop) (L : Nat) : List (Nat × Nat) → Act → World → Prop
  | [], a, w => Q .normal a w
  | (i, q) :: r, a, w => match q with
    | 0 => wpOp P ops Q i (fun a' w' => (i < L → S w → S w') ∧ wpOrd P ops Q S L r a' w') a w
    | 1 => ∃ o v, ops[i]? = some o ∧ YieldsIf P ops (fun _ => True) o v a ∧ (∀ c a w, Q (.panic c) (a.put o.dst v) w → Q (.panic c) a w) ∧ wpOrd P ops Q S L r (a.put o.dst v) w
    | _ => ∃ o v, ops[i]? = some o ∧ YieldsIf P ops S o v a ∧ S w ∧ (∀ c a w, Q (.panic c) (a.put o.dst v) w → Q (.panic c) a w) ∧ wpOrd P ops Q S L r (a.put o.dst v) w

theorem anyX_of_ord (hsel : Region.noSelect ops = true) (hc : descB md ops L = true) : ∀ (l : List (Nat × Nat)) (listed : Array Bool) (a : Act) (w : World), Shut md ops listed →
    ordB md ops L l listed = true → wpOrd P ops Q S L l a w → anyX P md ops Q S L l.length listed a w
  | [], listed, a, w, _, hB, h => ⟨by simpa [ordB] using hB, h⟩
  | (i, 0) :: r, listed, a, w, inv, hB, h => by
    simp only [ordB, Bool.and_eq_true, decide_eq_true_eq] at hB
    obtain ⟨hr, hB'⟩ := hB
    simp only [wpOrd] at h
    refine ⟨fun h0 => (by rw [hr] at h0; cases h0), fun j hj => ?_⟩
    have hji : j = i := by rw [hr] at hj; simpa using hj
    subst hji
    exact wpOp_mono (fun a' w' h' => ⟨h'.1, anyX_of_ord hsel hc r _ a' w' (inv.set hj) hB' h'.2⟩) h
  | (i, 1) :: r, listed, a, w, inv, hB, h => by
    simp only [ordB, Bool.and_eq_true] at hB
    obtain ⟨⟨hr, hf⟩, hB'⟩ := hB
    have hr' : i ∈ Region.ready md ops listed := by simpa using hr
    simp only [wpOrd] at h
    obtain ⟨o, v, ho, hy, hQ, hK⟩ := h
    exact anyX_first (T := fun _ => True) ho (Region.noSelect_spec hsel) hc (.inl (fun _ => trivial)) hQ r.length listed a w inv (Region.free_spec ho hf) hr' hy trivial (anyX_of_ord hsel hc r _ _ _ (inv.set hr') hB' hK)
  | (i, q + 2) :: r, listed, a, w, inv, hB, h => by
    simp only [ordB, Bool.and_eq_true, decide_eq_true_eq] at hB
    obtain ⟨⟨⟨⟨hr, hf⟩, hiL⟩, ha⟩, hB'⟩ := hB
    have hr' : i ∈ Region.ready md ops listed := by simpa using hr
    simp only [wpOrd] at h
    obtain ⟨o, v, ho, hy, hS, hQ, hK⟩ := h
    exact anyX_first (T := S) ho (Region.noSelect_spec hsel) hc (.inr ⟨rfl, hiL, _, ha⟩) hQ r.length listed a w inv (Region.free_spec ho hf) hr' hy hS (anyX_of_ord hsel hc r _ _ _ (inv.set hr') hB' hK)

/-- all that is asked of the region, as one Bool. -/
def ordAll (md : Region.Mode) (ops : Array Oper) (L : Nat) (l : List (Nat × Nat)) : Bool :=
  Region.noSelect ops && descB md ops L && decide (l.length = ops.size) && ordB md ops L l (Array.replicate ops.size false)

theorem region_ord {id : Nat} {a : Act} {w : World} {os : List Oper} (L : Nat) (l : List (Nat × Nat)) (S : World → Prop) (hm : P.follows .mixedOrders = true) (hB : ordAll .any os.toArray L l = true)
    (h : wpOrd P os.toArray Q S L l a { w with drawn := w.drawn + 1 }) : (Code.region id os.toArray true).wp P Q a w := by
  simp only [ordAll, Bool.and_eq_true, decide_eq_true_eq] at hB
  obtain ⟨⟨⟨hsel, hc⟩, hl⟩, hB⟩ := hB
  refine wp_region_any hm ?_
  have inv0 : Shut .any os.toArray (Array.replicate os.toArray.size false) := ⟨by simp, fun j oj _ hl => (by rw [getD_replicate_false] at hl; cases hl)⟩
  have := any_of_anyX _ _ _ _ (anyX_of_ord (Q := Q) (S := S) hsel hc l _ a _ inv0 hB h)
  rwa [hl] at this

theorem wanted_none {o : Oper} (hg : o.guard = none) (y : Nat → Option Bool) : Region.wanted o y = true := by simp [Region.wanted, hg]
theorem ord1 {i : Nat} {o : Oper} {v : Value} {r : List (Nat × Nat)} {a : Act} {w : World} (ho : ops[i]? = some o) (hg : o.guard = none) (hv : ∀ w, (execOp a.eval o).run P w = .ok (.value v) w)
    (hQ : ∀ c a w, Q (.panic c) (a.put o.dst v) w → Q (.panic c) a w) (h : wpOrd P ops Q S L r (a.put o.dst v) w) : wpOrd P ops Q S L ((i, 1) :: r) a w :=
  ⟨o, v, ho, .inl ⟨wanted_none hg _, fun w _ => hv w⟩, hQ, h⟩
theorem ord2 {i : Nat} {o : Oper} {v : Value} {r : List (Nat × Nat)} {a : Act} {w : World} (ho : ops[i]? = some o) (hg : o.guard = none) (hv : ∀ w, S w → (execOp a.eval o).run P w = .ok (.value v) w) (hS : S w)
    (hQ : ∀ c a w, Q (.panic c) (a.put o.dst v) w → Q (.panic c) a w) (h : wpOrd P ops Q S L r (a.put o.dst v) w) : wpOrd P ops Q S L ((i, 2) :: r) a w :=
  ⟨o, v, ho, .inl ⟨wanted_none hg _, hv⟩, hS, hQ, h⟩
theorem ord0 {i : Nat} {o : Oper} {r : List (Nat × Nat)} {a : Act} {w : World} (ho : ops[i]? = some o) (hg : o.guard = none)
    (h : o.wp P a w (fun a' w' => (i < L → S w → S w') ∧ wpOrd P ops Q S L r a' w') Q) : wpOrd P ops Q S L ((i, 0) :: r) a w := by
  simp only [wpOrd, wpOp, ho, wanted_none hg, if_true]
  exact .inl h
/-- the only one that may come up is a call. -/
theorem ord_call {i : Nat} {o : Oper} {r : List (Nat × Nat)} {a : Act} {w w' : World} {f : FuncId} {args : Array Value} {R : Ending → World → Prop} (ho : ops[i]? = some o) (hg : o.guard = none)
    (he : (execOp a.eval o).run P w = .ok (.enter f args) w') (hc : Calls P f args w' R)
    (h : ∀ e w'', R e w'' → ∃ v, e = .returned v ∧ (i < L → S w → S w'') ∧ wpOrd P ops Q S L r (a.put o.dst v) w'') : wpOrd P ops Q S L ((i, 0) :: r) a w := by
  refine ord0 ho hg ?_
  unfold Oper.wp
  rw [he]
  refine hc.mono ?_
  intro e w'' hr
  obtain ⟨v, rfl, h1, h2⟩ := h e w'' hr
  exact ⟨h1, h2⟩
/-- the only one that may come up has a value. -/
theorem ord_val {i : Nat} {o : Oper} {r : List (Nat × Nat)} {a : Act} {w w' : World} {v : Value} (ho : ops[i]? = some o) (hg : o.guard = none)
    (he : (execOp a.eval o).run P w = .ok (.value v) w') (hs : i < L → S w → S w') (h : wpOrd P ops Q S L r (a.put o.dst v) w') : wpOrd P ops Q S L ((i, 0) :: r) a w := by
  refine ord0 ho hg ?_
  unfold Oper.wp
  rw [he]
  exact ⟨hs, h⟩
/-- the only one that may come up stores. -/
theorem ord_skip {i : Nat} {o : Oper} {r : List (Nat × Nat)} {a : Act} {w w' : World} (ho : ops[i]? = some o) (hg : o.guard = none)
    (he : (execOp a.eval o).run P w = .ok .skip w') (hs : i < L → S w → S w') (h : wpOrd P ops Q S L r (a.put o.dst undef) w') : wpOrd P ops Q S L ((i, 0) :: r) a w := by
  refine ord0 ho hg ?_
  unfold Oper.wp
  rw [he]
  exact ⟨hs, h⟩
end
end Go.Proofs.Ytblbgbgnifdohaa
