/-
  The plain law: where no knot has Many, the marks that are reached are those of knots, and no other ones.
-/
import Derived.Test.YtblbgbgnifdohaaSpec
namespace Go.Proofs.Ytblbgbgnifdohaa
namespace Cv
open Tx

/-! ### what grow keeps -/
theorem raise_len : ∀ (x m : List Int), x.length = m.length → (raiseV x m).length = m.length
  | [], [], _ => rfl
  | _ :: x, _ :: m, h => by have := raise_len x m (by simpa using h); simp [raiseV] at this ⊢; exact this
theorem raise_same : ∀ (x m : List Int), x.length = m.length → ¬ (-1 : Int) ∈ raiseV x m → raiseV x m = m
  | [], [], _, _ => rfl
  | a :: x, b :: m, h, hn => by
    have hn' : ¬ (-1 : Int) = (if b ≠ -1 ∧ a < b ∧ a ≠ -1 then -1 else b) ∧ ¬ (-1 : Int) ∈ raiseV x m := by
      simpa [raiseV, not_or] using hn
    have ih := raise_same x m (by simpa using h) hn'.2
    have : raiseV (a :: x) (b :: m) = (if b ≠ -1 ∧ a < b ∧ a ≠ -1 then -1 else b) :: raiseV x m := by simp [raiseV]
    rw [this, ih]
    split
    · rename_i hc; exact absurd (by rw [if_pos hc]) hn'.1
    · rfl
theorem raise_many : ∀ (x m : List Int), x.length = m.length → (-1 : Int) ∈ m → (-1 : Int) ∈ raiseV x m
  | [], [], _, h => by cases h
  | a :: x, b :: m, h, hm => by
    have : raiseV (a :: x) (b :: m) = (if b ≠ -1 ∧ a < b ∧ a ≠ -1 then -1 else b) :: raiseV x m := by simp [raiseV]
    rw [this]
    rcases List.mem_cons.1 hm with rfl | h'
    · simp
    · exact List.mem_cons_of_mem _ (raise_many x m (by simpa using h) h')

/-- what grow leaves is what came, or has Many; and it is as long. -/
def Kept (m m' : List Int) : Prop := m'.length = m.length ∧ ((-1 : Int) ∈ m → (-1 : Int) ∈ m') ∧ (¬ (-1 : Int) ∈ m' → m' = m)
theorem Kept.refl (m : List Int) : Kept m m := ⟨rfl, id, fun _ => rfl⟩
theorem Kept.trans {a b c : List Int} (h : Kept a b) (k : Kept b c) : Kept a c :=
  ⟨k.1.trans h.1, fun x => k.2.1 (h.2.1 x), fun hn => by
    have e := k.2.2 hn
    subst e
    exact h.2.2 hn⟩
theorem kept_step (s : List Int × Bool) (x : List Int) (h : x.length = s.1.length) : Kept s.1 (growStep s x).1 := by
  unfold growStep
  split
  · exact ⟨raise_len _ _ h, raise_many _ _ h, raise_same _ _ h⟩
  · exact Kept.refl _
theorem kept_fold : ∀ (xs : List (List Int)) (s : List Int × Bool), (∀ x ∈ xs, x.length = s.1.length) → Kept s.1 (xs.foldl growStep s).1
  | [], s, _ => Kept.refl _
  | x :: xs, s, h => by
    have h1 := kept_step s x (h x (by simp))
    have h2 := kept_fold xs (growStep s x) (fun y hy => by rw [h1.1]; exact h y (by simp [hy]))
    exact h1.trans h2
theorem kept_growF (xs : List (List Int)) : ∀ (f : Nat) (m : List Int), (∀ x ∈ xs, x.length = m.length) → Kept m (growF xs f m)
  | 0, m, _ => Kept.refl _
  | f + 1, m, h => by
    have h1 := kept_fold xs (m, false) h
    unfold growF
    split
    · exact h1.trans (kept_growF xs f _ (fun x hx => by rw [h1.1]; exact h x hx))
    · exact h1
theorem kept_grow (xs : List (List Int)) (m : List Int) (h : ∀ x ∈ xs, x.length = m.length) : Kept m (growV xs m) := kept_growF xs _ m h

/-! ### below and fire where nothing is Many -/
theorem below_covers : ∀ (a b : List Int), (∀ x ∈ a, 0 ≤ x) → ¬ (-1 : Int) ∈ b → belowV a b = coversV b a
  | [], b, _, _ => by cases b <;> rfl
  | _ :: _, [], _, _ => rfl
  | x :: a, y :: b, ha, hb => by
    have ih := below_covers a b (fun z hz => ha z (by simp [hz])) (fun h => hb (by simp [h]))
    have hx := ha x (by simp)
    have hy : y ≠ -1 := fun e => hb (by simp [e])
    have e1 : belowV (x :: a) (y :: b) = (!(y != -1 && (x == -1 || decide (y < x))) && belowV a b) := rfl
    have e2 : coversV (y :: b) (x :: a) = (decide (x ≤ y) && coversV b a) := rfl
    rw [e1, e2, ih]
    congr 1
    have h1 : (y != -1) = true := by simpa using hy
    have h2 : (x == -1) = false := by simp; omega
    rw [h1, h2]
    by_cases h : y < x
    · simp [h, Int.not_le.2 h]
    · simp [h, Int.not_lt.1 h]
theorem fire_same : ∀ (t : Tr) (m : List Int), t.pre.length = m.length → t.post.length = m.length → ¬ (-1 : Int) ∈ m → fireV t m = fireR t m := by
  intro t
  obtain ⟨l, pre, post⟩ := t
  intro m
  induction m generalizing pre post with
  | nil => intro _ _ _; rfl
  | cons x m ih =>
    intro h1 h2 h
    cases pre with
    | nil => simp at h1
    | cons q pre =>
      cases post with
      | nil => simp at h2
      | cons r post =>
        have := ih pre post (by simpa using h1) (by simpa using h2) (fun hm => h (by simp [hm]))
        have hx : x ≠ -1 := fun e => h (by simp [e])
        have e1 : fireV ⟨l, q :: pre, r :: post⟩ (x :: m) = (if x = -1 then -1 else x + (r - q)) :: fireV ⟨l, pre, post⟩ m := rfl
        have e2 : fireR ⟨l, q :: pre, r :: post⟩ (x :: m) = (x - q + r) :: fireR ⟨l, pre, post⟩ m := rfl
        rw [e1, e2, this, if_neg hx]
        congr 1
        omega
theorem fireV_len (t : Tr) (m : List Int) (h1 : t.pre.length = m.length) (h2 : t.post.length = m.length) : (fireV t m).length = m.length := by
  simp [fireV, h1, h2]
theorem fireR_len (t : Tr) (m : List Int) (h1 : t.pre.length = m.length) (h2 : t.post.length = m.length) : (fireR t m).length = m.length := by
  simp [fireR, h1, h2]

/-! ### what the tree's knots are -/
structure TrOk (p : Nat) (t : Tr) : Prop where
  pre : t.pre.length = p
  post : t.post.length = p
  nn : ∀ x ∈ t.pre, 0 ≤ x

theorem path_mem (ks : List Kn) (hup : ∀ (i : Nat) (kn : Kn), ks[i]? = some kn → kn.up < i) : ∀ (f : Nat) (k : Int) (x : List Int), x ∈ pathF ks f k → ∃ (i : Nat) (kn : Kn), (i : Int) ≤ k ∧ ks[i]? = some kn ∧ kn.mark = x
  | 0, k, x, h => by cases h
  | f + 1, k, x, h => by
    unfold pathF at h
    split at h
    · cases h
    · rename_i hk
      cases hg : ks[k.toNat]? with
      | none => rw [hg] at h; cases h
      | some kn =>
        rw [hg] at h
        rcases List.mem_cons.1 h with rfl | h'
        · exact ⟨k.toNat, kn, by omega, hg, rfl⟩
        · obtain ⟨i, k2, h1, h2, h3⟩ := path_mem ks hup f kn.up x h'
          have := hup _ _ hg
          exact ⟨i, k2, by omega, h2, h3⟩

/-- what is known of the knots while the tree grows: those ahead of k are done. -/
structure Grown (p most : Nat) (ts : List Tr) (m0 : List Int) (k : Nat) (ks : List Kn) : Prop where
  up : ∀ (i : Nat) (kn : Kn), ks[i]? = some kn → kn.up < i
  len : ∀ kn ∈ ks, kn.mark.length = p
  root : ∃ kn : Kn, ks[0]? = some kn ∧ kn.mark = m0
  most : ks.length ≤ most
  come : ∀ (i : Nat) (kn : Kn), ks[i]? = some kn → 0 < i → ∃ (u : Nat) (ku : Kn) (t : Tr), u < i ∧ ks[u]? = some ku ∧ t ∈ ts ∧ belowV t.pre ku.mark = true ∧ Kept (fireV t ku.mark) kn.mark
  done : ∀ (i : Nat) (kn : Kn), i < k → ks[i]? = some kn → (∃ (j : Nat) (kj : Kn), j < i ∧ ks[j]? = some kj ∧ kj.mark = kn.mark) ∨
    ∀ t ∈ ts, belowV t.pre kn.mark = true → ∃ kx ∈ ks, Kept (fireV t kn.mark) kx.mark

theorem get_snoc {α : Type} {l : List α} {a b : α} {i : Nat} (h : (l ++ [a])[i]? = some b) : l[i]? = some b ∨ (i = l.length ∧ b = a) := by
  rw [List.getElem?_append] at h
  split at h
  · exact .inl h
  · rename_i hi
    right
    have : i - l.length = 0 := by
      by_cases h0 : i - l.length = 0
      · exact h0
      · exfalso
        obtain ⟨j, hj⟩ := Nat.exists_eq_succ_of_ne_zero h0
        rw [hj] at h
        simp at h
    rw [this] at h
    simp at h
    exact ⟨by omega, h.symm⟩

theorem get_more {α : Type} {l : List α} {a b : α} {i : Nat} (h : l[i]? = some b) : (l ++ [a])[i]? = some b := by
  rw [List.getElem?_append_left (List.getElem?_eq_some_iff.1 h).1]; exact h

theorem Grown.snoc {p most : Nat} {ts : List Tr} {m0 : List Int} {k : Nat} {ks : List Kn} (h : Grown p most ts m0 k ks) (hts : ∀ t ∈ ts, TrOk p t) {kn : Kn} (hk : ks[k]? = some kn) {t : Tr} (ht : t ∈ ts)
    (hb : belowV t.pre kn.mark = true) (hne : ks.length ≠ most) (i : Nat) : Grown p most ts m0 k (ks ++ [⟨k, i, growV (pathV ks k) (fireV t kn.mark)⟩]) ∧ Kept (fireV t kn.mark) (growV (pathV ks k) (fireV t kn.mark)) := by
  have hkl := (List.getElem?_eq_some_iff.1 hk).1
  have hml := h.len kn (List.mem_of_getElem? hk)
  have hto := hts t ht
  have hfl : (fireV t kn.mark).length = p := by rw [fireV_len _ _ (by rw [hto.pre, hml]) (by rw [hto.post, hml]), hml]
  have hke : Kept (fireV t kn.mark) (growV (pathV ks k) (fireV t kn.mark)) := kept_grow _ _ (fun x hx => by
    obtain ⟨j, kj, _, hj, rfl⟩ := path_mem ks h.up _ _ _ hx
    rw [h.len kj (List.mem_of_getElem? hj), hfl])
  refine ⟨⟨?_, ?_, ?_, ?_, ?_, ?_⟩, hke⟩
  · intro j kj hj
    rcases get_snoc hj with hj | ⟨rfl, rfl⟩
    · exact h.up j kj hj
    · simp; omega
  · intro kj hj
    rcases List.mem_append.1 hj with hj | hj
    · exact h.len kj hj
    · simp at hj; subst hj
      simp only
      rw [hke.1, hfl]
  · obtain ⟨kr, hr, e⟩ := h.root
    exact ⟨kr, get_more hr, e⟩
  · have := h.most
    simp; omega
  · intro j kj hj h0
    rcases get_snoc hj with hj | ⟨rfl, rfl⟩
    · obtain ⟨u, ku, t', h1, h2, h3, h4, h5⟩ := h.come j kj hj h0
      exact ⟨u, ku, t', h1, get_more h2, h3, h4, h5⟩
    · exact ⟨k, kn, t, hkl, get_more hk, ht, hb, hke⟩
  · intro j kj hjk hj
    rcases get_snoc hj with hj | ⟨rfl, _⟩
    · rcases h.done j kj hjk hj with ⟨a, ka, h1, h2, h3⟩ | hd
      · exact .inl ⟨a, ka, h1, get_more h2, h3⟩
      · exact .inr fun t' ht' hb' => by
          obtain ⟨kx, hx, hkx⟩ := hd t' ht' hb'
          exact ⟨kx, List.mem_append_left _ hx, hkx⟩
    · omega

theorem roundT_grown {p most : Nat} {ts : List Tr} {m0 : List Int} {k : Nat} (hts : ∀ t ∈ ts, TrOk p t) : ∀ (is : List Nat) (ks : List Kn) (kn : Kn) (ks' : List Kn), Grown p most ts m0 k ks → ks[k]? = some kn →
    roundT most ts k kn.mark is ks = some ks' → Grown p most ts m0 k ks' ∧ ks'[k]? = some kn ∧ (∀ kx ∈ ks, kx ∈ ks') ∧ ∀ i ∈ is, ∀ t, ts[i]? = some t → belowV t.pre kn.mark = true → ∃ kx ∈ ks', Kept (fireV t kn.mark) kx.mark
  | [], ks, kn, ks', h, hk, e => by
    simp only [roundT, Option.some.injEq] at e
    subst e
    exact ⟨h, hk, fun _ hx => hx, fun i hi => by cases hi⟩
  | i :: is, ks, kn, ks', h, hk, e => by
    unfold roundT stepT at e
    cases ht : ts[i]? with
    | none => rw [ht] at e; simp at e
    | some t =>
      rw [ht] at e
      simp only at e
      by_cases hb : belowV t.pre kn.mark = false
      · rw [if_pos hb] at e
        simp only at e
        obtain ⟨h1, h2, h3, h4⟩ := roundT_grown hts is ks kn ks' h hk e
        refine ⟨h1, h2, h3, fun j hj t' ht' hb' => ?_⟩
        rcases List.mem_cons.1 hj with rfl | hj
        · rw [ht] at ht'; cases ht'; rw [hb] at hb'; cases hb'
        · exact h4 j hj t' ht' hb'
      · rw [if_neg hb] at e
        have hb1 : belowV t.pre kn.mark = true := by simpa using hb
        by_cases hm : ks.length = most
        · rw [if_pos hm] at e; simp at e
        · rw [if_neg hm] at e
          simp only at e
          obtain ⟨g, hke⟩ := h.snoc hts hk (List.mem_of_getElem? ht) hb1 hm i
          obtain ⟨h1, h2, h3, h4⟩ := roundT_grown hts is _ kn ks' g (get_more hk) e
          refine ⟨h1, h2, fun kx hx => h3 kx (List.mem_append_left _ hx), fun j hj t' ht' hb' => ?_⟩
          rcases List.mem_cons.1 hj with rfl | hj
          · rw [ht] at ht'; cases ht'
            exact ⟨_, h3 _ (List.mem_append_right _ (List.mem_singleton.2 rfl)), hke⟩
          · exact h4 j hj t' ht' hb'

theorem treeF_grown {p most : Nat} {ts : List Tr} {m0 : List Int} (hts : ∀ t ∈ ts, TrOk p t) : ∀ (f k : Nat) (ks ks' : List Kn), Grown p most ts m0 k ks → treeF most ts f k ks = some ks' → Grown p most ts m0 ks'.length ks'
  | 0, _, _, _, _, e => by simp [treeF] at e
  | f + 1, k, ks, ks', h, e => by
    unfold treeF at e
    cases hk : ks[k]? with
    | none =>
      rw [hk] at e
      simp only [Option.some.injEq] at e
      subst e
      have hkl : ks.length ≤ k := List.getElem?_eq_none_iff.1 hk
      exact ⟨h.up, h.len, h.root, h.most, h.come, fun i kn hi => h.done i kn (by omega)⟩
    | some kn =>
      rw [hk] at e
      simp only at e
      by_cases ha : againV ks k = true
      · rw [if_pos ha] at e
        refine treeF_grown hts f (k + 1) ks ks' ⟨h.up, h.len, h.root, h.most, h.come, fun i ki hi hki => ?_⟩ e
        by_cases hik : i < k
        · exact h.done i ki hik hki
        · obtain rfl : i = k := by omega
          rw [hk] at hki
          cases hki
          left
          unfold againV at ha
          rw [hk] at ha
          simp only [List.any_eq_true] at ha
          obtain ⟨x, hx, hxe⟩ := ha
          obtain ⟨j, kj, h1, h2, h3⟩ := path_mem ks h.up _ _ _ hx
          have := h.up _ _ hk
          exact ⟨j, kj, by omega, h2, h3.trans (by simpa using hxe)⟩
      · rw [if_neg ha] at e
        cases hr : roundT most ts k kn.mark (List.range ts.length) ks with
        | none => rw [hr] at e; simp at e
        | some k2 =>
          rw [hr] at e
          simp only at e
          obtain ⟨h1, h2, _, h4⟩ := roundT_grown hts _ ks kn k2 h hk hr
          refine treeF_grown hts f (k + 1) k2 ks' ⟨h1.up, h1.len, h1.root, h1.most, h1.come, fun i ki hi hki => ?_⟩ e
          by_cases hik : i < k
          · exact h1.done i ki hik hki
          · obtain rfl : i = k := by omega
            rw [h2] at hki
            cases hki
            right
            intro t ht hb
            obtain ⟨j, hj, hje⟩ := List.getElem_of_mem ht
            exact h4 j (List.mem_range.2 hj) t (List.getElem?_eq_some_iff.2 ⟨hj, hje⟩) hb

/-! ### the marks that are reached -/
theorem nodup_len {α : Type} [DecidableEq α] : ∀ (l l' : List α), l.Nodup → (∀ x ∈ l, x ∈ l') → l.length ≤ l'.length
  | [], _, _, _ => Nat.zero_le _
  | a :: l, l', h, hs => by
    have ha := hs a (by simp)
    have := nodup_len l (l'.erase a) (List.nodup_cons.1 h).2 (fun x hx => by
      have hne : x ≠ a := fun e => (List.nodup_cons.1 h).1 (e ▸ hx)
      exact (List.mem_erase_of_ne hne).2 (hs x (by simp [hx])))
    rw [List.length_erase_of_mem ha] at this
    have := List.length_pos_of_mem ha
    simp; omega

theorem enabled_mem {ts : List Tr} {m : List Int} {k : Nat} (h : k ∈ enabledI ts m) : ∃ t, ts[k]? = some t ∧ coversV m t.pre = true := by
  have h2 := (List.mem_filter.1 h).2
  cases ht : ts[k]? with
  | none => rw [ht] at h2; cases h2
  | some t => rw [ht] at h2; exact ⟨t, rfl, h2⟩

section
variable {ts : List Tr} {K : List (List Int)} (hcl : ∀ m ∈ K, ∀ t ∈ ts, coversV m t.pre = true → fireR t m ∈ K)
include hcl

/-- what is known of the marks while they are found. -/
structure Found (K : List (List Int)) (m0 : List Int) (ms : List (List Int)) : Prop where
  sub : ∀ x ∈ ms, x ∈ K
  nodup : ms.Nodup
  start : m0 ∈ ms

theorem roundM_found {most : Nat} (hK : K.length ≤ most) {m m0 : List Int} (hm : m ∈ K) : ∀ (is : List Nat) (ms : List (List Int)), (∀ k ∈ is, ∃ t, ts[k]? = some t ∧ coversV m t.pre = true) → Found K m0 ms →
    (roundM most ts m is ms = none → ∃ x ∈ K, x.any (fun x => decide (1000000 < x)) = true) ∧
    ∀ ms', roundM most ts m is ms = some ms' → Found K m0 ms' ∧ ms <+: ms' ∧ ∀ k ∈ is, ∀ t, ts[k]? = some t → fireR t m ∈ ms'
  | [], ms, _, h => ⟨fun e => by simp [roundM] at e, fun ms' e => by
      simp only [roundM, Option.some.injEq] at e
      subst e
      exact ⟨h, List.prefix_refl _, fun k hk => by cases hk⟩⟩
  | k :: is, ms, hen, h => by
    obtain ⟨t, ht, hc⟩ := hen k (by simp)
    have hx : fireR t m ∈ K := hcl m hm t (List.mem_of_getElem? ht) hc
    have hen' : ∀ k ∈ is, ∃ t, ts[k]? = some t ∧ coversV m t.pre = true := fun j hj => hen j (by simp [hj])
    unfold roundM stepM
    rw [ht]
    simp only
    by_cases hbad : (fireR t m).any (fun x => decide (1000000 < x)) = true
    · rw [if_pos hbad]
      exact ⟨fun _ => ⟨_, hx, hbad⟩, fun ms' e => by simp at e⟩
    · rw [if_neg hbad]
      by_cases hin : ms.contains (fireR t m) = true
      · rw [if_pos hin]
        obtain ⟨g1, g2⟩ := roundM_found hK hm is ms hen' h
        refine ⟨g1, fun ms' e => ?_⟩
        obtain ⟨a, b, c⟩ := g2 ms' e
        refine ⟨a, b, fun j hj t' ht' => ?_⟩
        rcases List.mem_cons.1 hj with rfl | hj
        · rw [ht] at ht'; cases ht'
          exact b.subset (by simpa using hin)
        · exact c j hj t' ht'
      · rw [if_neg hin]
        have hnin : ¬ fireR t m ∈ ms := by simpa using hin
        by_cases hfull : ms.length = most
        · exfalso
          have := nodup_len (fireR t m :: ms) K (List.nodup_cons.2 ⟨hnin, h.nodup⟩) (fun x hx' => by
            rcases List.mem_cons.1 hx' with rfl | hx'
            · exact hx
            · exact h.sub x hx')
          simp at this
          omega
        · rw [if_neg hfull]
          have h' : Found K m0 (ms ++ [fireR t m]) := ⟨fun x hx' => by
            rcases List.mem_append.1 hx' with hx' | hx'
            · exact h.sub x hx'
            · simp at hx'; subst hx'; exact hx, by
            rw [List.nodup_append]
            exact ⟨h.nodup, by simp, fun a ha b hb => by simp at hb; subst hb; exact fun e => hnin (e ▸ ha)⟩, List.mem_append_left _ h.start⟩
          obtain ⟨g1, g2⟩ := roundM_found hK hm is (ms ++ [fireR t m]) hen' h'
          refine ⟨g1, fun ms' e => ?_⟩
          obtain ⟨a, b, c⟩ := g2 ms' e
          refine ⟨a, (List.prefix_append _ _).trans b, fun j hj t' ht' => ?_⟩
          rcases List.mem_cons.1 hj with rfl | hj
          · rw [ht] at ht'; cases ht'
            exact b.subset (by simp)
          · exact c j hj t' ht'

theorem exploreF_found {most : Nat} (hK : K.length ≤ most) {m0 : List Int} : ∀ (f k : Nat) (ms : List (List Int)), most < f + k → k ≤ ms.length → Found K m0 ms →
    (∀ i, i < k → ∀ m, ms[i]? = some m → ∀ t ∈ ts, coversV m t.pre = true → fireR t m ∈ ms) →
    (exploreF most ts f k ms = none → ∃ x ∈ K, x.any (fun x => decide (1000000 < x)) = true) ∧
    ∀ ms', exploreF most ts f k ms = some ms' → Found K m0 ms' ∧ ∀ m ∈ ms', ∀ t ∈ ts, coversV m t.pre = true → fireR t m ∈ ms'
  | 0, k, ms, hf, hkm, h, hd => by
    exact ⟨fun _ => by exfalso; have := nodup_len ms K h.nodup h.sub; omega, fun ms' e => by simp [exploreF] at e⟩
  | f + 1, k, ms, hf, hkm, h, hd => by
    unfold exploreF
    cases hk : ms[k]? with
    | none =>
      have hkl : ms.length ≤ k := List.getElem?_eq_none_iff.1 hk
      refine ⟨fun e => by simp at e, fun ms' e => ?_⟩
      simp only [Option.some.injEq] at e
      subst e
      refine ⟨h, fun m hm t ht hc => ?_⟩
      obtain ⟨i, hi, hie⟩ := List.getElem_of_mem hm
      exact hd i (by omega) m (List.getElem?_eq_some_iff.2 ⟨hi, hie⟩) t ht hc
    | some m =>
      simp only
      have hm := h.sub m (List.mem_of_getElem? hk)
      obtain ⟨g1, g2⟩ := roundM_found hcl hK hm (m0 := m0) (enabledI ts m) ms (fun j hj => enabled_mem hj) h
      cases hr : roundM most ts m (enabledI ts m) ms with
      | none => exact ⟨fun _ => g1 hr, fun ms' e => by simp at e⟩
      | some m2 =>
        simp only
        obtain ⟨a, b, c⟩ := g2 m2 hr
        refine exploreF_found hK f (k + 1) m2 (by omega) (by have := b.length_le; have := (List.getElem?_eq_some_iff.1 hk).1; omega) a (fun i hi mi hmi t ht hc => ?_)
        have hkl := (List.getElem?_eq_some_iff.1 hk).1
        have hpre : ∀ j x, ms[j]? = some x → m2[j]? = some x := fun j x hj => by
          obtain ⟨r, rfl⟩ := b
          rw [List.getElem?_append_left (List.getElem?_eq_some_iff.1 hj).1]; exact hj
        by_cases hik : i < k
        · have hi' : ms[i]? = some ms[i] := List.getElem?_eq_getElem (by omega)
          have e := hpre i _ hi'
          rw [hmi] at e
          cases e
          exact b.subset (hd i hik _ hi' t ht hc)
        · obtain rfl : i = k := by omega
          have e := hpre i _ hk
          rw [hmi] at e
          cases e
          obtain ⟨j, hj, hje⟩ := List.getElem_of_mem ht
          have hjt : ts[j]? = some t := List.getElem?_eq_some_iff.2 ⟨hj, hje⟩
          exact c j (List.mem_filter.2 ⟨List.mem_range.2 hj, by rw [hjt]; exact hc⟩) t hjt
end

theorem fit_parts {n : Nt} {m : List Int} (h : fitV n m = true) : (m.length : Int) = n.places ∧ rightV m = true ∧ n.trans.length ≤ 24 ∧ m.length ≤ 16 ∧ ∀ t ∈ n.trans, t.pre.length = m.length ∧ t.post.length = m.length ∧ (∀ x ∈ t.pre, 0 ≤ x ∧ x ≤ 9) ∧ (∀ x ∈ t.post, 0 ≤ x ∧ x ≤ 9) := by
  simp only [fitV, ntWrong, Bool.and_eq_true, Bool.not_eq_true', Bool.or_eq_false_iff, decide_eq_false_iff_not, beq_iff_eq] at h
  obtain ⟨⟨⟨⟨⟨h1, h2⟩, h3⟩, h4⟩, h5⟩, h6⟩ := h
  refine ⟨h5, h6, by omega, by omega, fun t ht => ?_⟩
  have h7 := List.any_eq_false.1 h4 t ht
  simp only [trWrong, Bool.not_eq_true, Bool.or_eq_false_iff, decide_eq_false_iff_not, bne_eq_false_iff_eq] at h7
  obtain ⟨⟨⟨⟨_, ha⟩, hb⟩, hc⟩, hd⟩ := h7
  have w : ∀ l : List Int, l.any badW = false → ∀ x ∈ l, 0 ≤ x ∧ x ≤ 9 := fun l hl x hx => by
    have := List.any_eq_false.1 hl x hx
    simp only [badW, Bool.not_eq_true, Bool.or_eq_false_iff, decide_eq_false_iff_not] at this
    omega
  exact ⟨by omega, by omega, w _ hc, w _ hd⟩

theorem no_many {ks : List Kn} (h : hasMany ks = false) : ∀ kn ∈ ks, ¬ (-1 : Int) ∈ kn.mark := fun kn hk => by
  have := List.any_eq_false.1 h kn hk
  simpa using this

/-- ████ THE PLAIN LAW ████ -/
theorem law (n : Nt) (m : List Int) (most : Nat) (ks : List Kn) (hfit : fitV n m = true) (h1 : 1 ≤ most) (h2 : most ≤ 300) (ht : treeV n m most = some ks) (hm : hasMany ks = false) : boundedV ks (graphF n m) = true := by
  obtain ⟨hl, hr, htl, _, hts⟩ := fit_parts hfit
  have hto : ∀ t ∈ n.trans, TrOk m.length t := fun t h => ⟨(hts t h).1, (hts t h).2.1, fun x hx => ((hts t h).2.2.1 x hx).1⟩
  have g : Grown m.length most n.trans m ks.length ks := by
    refine treeF_grown hto (most + 1) 0 _ ks ⟨?_, ?_, ?_, ?_, ?_, ?_⟩ ht
    · intro i kn hi
      obtain ⟨hi', _⟩ := List.getElem?_eq_some_iff.1 hi
      have : i = 0 := by simpa using hi'
      subst this
      simp at hi; subst hi; simp
    · intro kn hk; simp at hk; subst hk; rfl
    · exact ⟨_, rfl, rfl⟩
    · simpa using h1
    · intro i kn hi h0
      obtain ⟨hi', _⟩ := List.getElem?_eq_some_iff.1 hi
      simp at hi'; omega
    · intro i kn hi; omega
  have hno := no_many hm
  -- the knots' marks are closed under firing
  obtain ⟨K, hK⟩ : ∃ K, K = ks.map (·.mark) := ⟨_, rfl⟩
  have kin : ∀ kn ∈ ks, kn.mark ∈ K := fun kn h => by rw [hK]; exact List.mem_map.2 ⟨kn, h, rfl⟩
  have kout : ∀ x ∈ K, ∃ kn ∈ ks, kn.mark = x := fun x h => by rw [hK] at h; obtain ⟨kn, a, b⟩ := List.mem_map.1 h; exact ⟨kn, a, b⟩
  have lens : ∀ kn ∈ ks, ∀ t ∈ n.trans, t.pre.length = kn.mark.length ∧ t.post.length = kn.mark.length := fun kn h t ht => by
    rw [g.len kn h]; exact ⟨(hto t ht).pre, (hto t ht).post⟩
  have hcl0 : ∀ (i : Nat) (kn : Kn), ks[i]? = some kn → ∀ t ∈ n.trans, coversV kn.mark t.pre = true → fireR t kn.mark ∈ K := by
    intro i
    induction i using Nat.strongRecOn with
    | _ i ih =>
      intro kn hi t ht' hc
      have hmem := List.mem_of_getElem? hi
      rcases g.done i kn (List.getElem?_eq_some_iff.1 hi).1 hi with ⟨j, kj, hj, hkj, e⟩ | hd
      · rw [← e] at hc ⊢
        exact ih j hj kj hkj t ht' hc
      · rw [← below_covers t.pre kn.mark (hto t ht').nn (hno kn hmem)] at hc
        obtain ⟨kx, hx, hke⟩ := hd t ht' hc
        rw [← fire_same t kn.mark (lens kn hmem t ht').1 (lens kn hmem t ht').2 (hno kn hmem), ← hke.2.2 (hno kx hx)]
        exact kin kx hx
  have hcl : ∀ x ∈ K, ∀ t ∈ n.trans, coversV x t.pre = true → fireR t x ∈ K := fun x hx t ht' hc => by
    obtain ⟨kn, hkn, rfl⟩ := kout x hx
    obtain ⟨i, hi, hie⟩ := List.getElem_of_mem hkn
    exact hcl0 i kn (List.getElem?_eq_some_iff.2 ⟨hi, hie⟩) t ht' hc
  have hKl : K.length ≤ 300 := by have := g.most; rw [hK, List.length_map]; omega
  obtain ⟨kr, hr0, hrm⟩ := g.root
  have hm0 : m ∈ K := hrm ▸ kin kr (List.mem_of_getElem? hr0)
  obtain ⟨e1, e2⟩ := exploreF_found hcl hKl (m0 := m) 301 0 [m] (by omega) (by simp) ⟨fun x hx => by simp at hx; subst hx; exact hm0, by simp, by simp⟩ (fun i hi => by omega)
  unfold boundedV graphF
  cases he : exploreF 300 n.trans 301 0 [m] with
  | none =>
    obtain ⟨x, hx, hb⟩ := e1 he
    obtain ⟨kn, hkn, rfl⟩ := kout x hx
    exact List.any_eq_true.2 ⟨kn, hkn, hb⟩
  | some ms =>
    obtain ⟨hf, hclo⟩ := e2 ms he
    have hup : ∀ (i : Nat) (kn : Kn), ks[i]? = some kn → kn.mark ∈ ms := by
      intro i
      induction i using Nat.strongRecOn with
      | _ i ih =>
        intro kn hi
        by_cases h0 : 0 < i
        · obtain ⟨u, ku, t, hu, hku, ht', hb, hke⟩ := g.come i kn hi h0
          have hmu := List.mem_of_getElem? hku
          rw [below_covers t.pre ku.mark (hto t ht').nn (hno ku hmu)] at hb
          have := hclo ku.mark (ih u hu ku hku) t ht' hb
          rw [hke.2.2 (hno kn (List.mem_of_getElem? hi)), fire_same t ku.mark (lens ku hmu t ht').1 (lens ku hmu t ht').2 (hno ku hmu)]
          exact this
        · obtain rfl : i = 0 := by omega
          rw [hr0] at hi
          cases hi
          rw [hrm]; exact hf.start
    simp only [Bool.and_eq_true, List.all_eq_true, List.any_eq_true, beq_iff_eq]
    refine ⟨fun x hx => ?_, fun kn hkn => ?_⟩
    · obtain ⟨kn, a, b⟩ := kout x (hf.sub x hx)
      exact ⟨kn, a, b⟩
    · obtain ⟨i, hi, hie⟩ := List.getElem_of_mem hkn
      exact ⟨_, hup i kn (List.getElem?_eq_some_iff.2 ⟨hi, hie⟩), rfl⟩
end Cv
end Go.Proofs.Ytblbgbgnifdohaa
