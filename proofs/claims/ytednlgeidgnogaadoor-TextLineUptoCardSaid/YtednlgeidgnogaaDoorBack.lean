/-
  A net is read as it was written.
-/
import Derived.Test.YtednlgeidgnogaaDoorLaws
import Derived.Shelf.Strings.FieldsAny
namespace Go.Proofs.YtednlgeidgnogaaDoor
namespace Tx
open Go.Lib

/-- small numerals, written out. -/
def smallN (p : Nat) : List UInt8 := if p < 10 then [UInt8.ofNat (48 + p)] else [UInt8.ofNat (48 + p / 10), UInt8.ofNat (48 + p % 10)]
theorem itoa_smallN {p : Nat} (h : p < 100) : itoa (p : Int) = smallN p := by
  unfold itoa smallN
  rw [if_neg (by omega), Int.toNat_natCast]
  by_cases h1 : p < 10
  · rw [if_pos h1, decDigits_one h1]
  · rw [if_neg h1, decDigits_two h1 h]
theorem smallN_digits {p : Nat} (h : p < 100) : ∀ b ∈ smallN p, 48 ≤ b.toNat ∧ b.toNat ≤ 57 := by
  have : ∀ p : Fin 100, ∀ b ∈ smallN p.val, 48 ≤ b.toNat ∧ b.toNat ≤ 57 := by decide +kernel
  exact this ⟨p, h⟩
theorem smallN_ne (p : Nat) : smallN p ≠ [] := by unfold smallN; split <;> simp

theorem headS_small {p : Int} (h0 : 0 ≤ p) (h1 : p ≤ 16) : headS (netB ++ itoa p) = some p := by
  obtain ⟨n, rfl⟩ := Int.eq_ofNat_of_zero_le h0
  rw [itoa_smallN (by omega)]
  have h : ∀ n : Fin 17, atoiAll (trimPrefix (netB ++ smallN n.val) netB) = .ok (n.val : Int) := by decide +kernel
  have := h ⟨n, by omega⟩
  unfold headS
  rw [this]
  simp only
  rw [if_pos ⟨by omega, by omega, by rw [itoa_smallN (by omega)]⟩]

/-- what a place has, as a word. -/
def tok (p : Nat) (n : Int) : List UInt8 := if 1 < n then smallN n.toNat ++ 42 :: smallN p else smallN p
theorem num_tok {p : Nat} {n : Int} (hp : p < 100) (h1 : 1 ≤ n) (h9 : n ≤ 9) : num p n = 32 :: tok p n := by
  unfold num tok
  rw [if_neg (by omega), itoa_smallN hp]
  have e : n = ((n.toNat : Nat) : Int) := by omega
  by_cases h : 1 < n
  · rw [if_pos h, if_pos h, e, itoa_smallN (by omega), Int.toNat_natCast]
  · rw [if_neg h, if_neg h]
theorem tok_bytes {p : Nat} {n : Int} (hp : p < 100) (h1 : 1 ≤ n) (h9 : n ≤ 9) : ∀ b ∈ tok p n, b.toNat = 42 ∨ (48 ≤ b.toNat ∧ b.toNat ≤ 57) := by
  intro b hb
  unfold tok at hb
  split at hb
  · rcases List.mem_append.1 hb with h | h
    · exact .inr (smallN_digits (by omega) b h)
    · rcases List.mem_cons.1 h with h | h
      · left; subst h; rfl
      · exact .inr (smallN_digits hp b h)
  · exact .inr (smallN_digits hp b hb)
theorem tok_ne (p : Nat) (n : Int) : tok p n ≠ [] := by unfold tok; split <;> simp [smallN_ne]

def toksFrom : Nat → List Int → List (List UInt8)
  | _, [] => []
  | p, n :: r => if n = 0 then toksFrom (p + 1) r else tok p n :: toksFrom (p + 1) r

def Nine (w : List Int) : Prop := ∀ x ∈ w, 0 ≤ x ∧ x ≤ 9
theorem Nine.head {n : Int} {r : List Int} (h : Nine (n :: r)) : 0 ≤ n ∧ n ≤ 9 := h n (by simp)
theorem Nine.tail {n : Int} {r : List Int} (h : Nine (n :: r)) : Nine r := fun x hx => h x (by simp [hx])

theorem sideFrom_toks : ∀ (w : List Int) (p : Nat), p + w.length ≤ 100 → Nine w → sideFrom p w = ((toksFrom p w).map (32 :: ·)).flatten
  | [], _, _, _ => rfl
  | n :: r, p, hp, h => by
    have ih := sideFrom_toks r (p + 1) (by simp at hp; omega) h.tail
    have hn := h.head
    unfold sideFrom toksFrom
    rw [ih]
    by_cases h0 : n = 0
    · simp [num, h0]
    · rw [if_neg h0, num_tok (by simp at hp; omega) (by omega) (by omega)]
      simp
theorem toksFrom_mem : ∀ (w : List Int) (p : Nat), p + w.length ≤ 100 → Nine w → ∀ t ∈ toksFrom p w, t ≠ [] ∧ ∀ b ∈ t, b.toNat = 42 ∨ (48 ≤ b.toNat ∧ b.toNat ≤ 57)
  | [], _, _, _, t, ht => by simp [toksFrom] at ht
  | n :: r, p, hp, h, t, ht => by
    have ih := toksFrom_mem r (p + 1) (by simp at hp; omega) h.tail
    have hn := h.head
    unfold toksFrom at ht
    split at ht
    · exact ih t ht
    · rcases List.mem_cons.1 ht with e | e
      · subst e; exact ⟨tok_ne _ _, tok_bytes (by simp at hp; omega) (by omega) (by omega)⟩
      · exact ih t e

theorem isSp_no {b : UInt8} (h : b.toNat = 42 ∨ (48 ≤ b.toNat ∧ b.toNat ≤ 57)) : isSp b = false := by
  have : ∀ i : Fin 256, (i.val = 42 ∨ (48 ≤ i.val ∧ i.val ≤ 57)) → isSp (UInt8.ofNat i.val) = false := by decide +kernel
  have hb := this ⟨b.toNat, b.toNat_lt⟩ h
  simpa using hb
theorem fieldsGo_word : ∀ (t cur l : List UInt8), (∀ b ∈ t, isSp b = false) → fieldsGo cur (t ++ l) = fieldsGo (cur ++ t) l
  | [], cur, l, _ => by simp
  | b :: t, cur, l, h => by
    have hb := h b (by simp)
    rw [List.cons_append, fieldsGo, hb]
    rw [if_neg (by simp), fieldsGo_word t (cur ++ [b]) l (fun x hx => h x (by simp [hx]))]
    simp
theorem fieldsGo_toks : ∀ (ts : List (List UInt8)) (cur : List UInt8), (∀ t ∈ ts, t ≠ [] ∧ ∀ b ∈ t, isSp b = false) →
    fieldsGo cur ((ts.map (32 :: ·)).flatten) = (if cur = [] then [] else [cur]) ++ ts
  | [], cur, _ => by cases cur <;> simp [fieldsGo]
  | t :: ts, cur, h => by
    have ht := h t (by simp)
    have ih := fieldsGo_toks ts t (fun x hx => h x (by simp [hx]))
    rw [if_neg ht.1] at ih
    simp only [List.map_cons, List.flatten_cons, List.cons_append]
    rw [fieldsGo, show isSp 32 = true by decide, if_pos rfl, fieldsGo_word t [] _ ht.2, List.nil_append, ih]
    cases cur <;> simp

theorem fields_side {w : List Int} (hw : w.length ≤ 16) (h : Nine w) : fieldsD (side w) = toksFrom 0 w := by
  have hm := toksFrom_mem w 0 (by omega) h
  unfold side
  rw [sideFrom_toks w 0 (by omega) h]
  rw [fieldsD_ascii]
  · have := fieldsGo_toks (toksFrom 0 w) [] (fun t ht => ⟨(hm t ht).1, fun b hb => isSp_no ((hm t ht).2 b hb)⟩)
    simpa [fields] using this
  · intro b hb
    rw [List.mem_flatten] at hb
    obtain ⟨l, hl, hb⟩ := hb
    obtain ⟨t, ht, rfl⟩ := List.mem_map.1 hl
    rcases List.mem_cons.1 hb with e | e
    · subst e; decide
    · have := (hm t ht).2 b e; omega

theorem tok_reads : ∀ p : Fin 16, ∀ n : Fin 10, 1 ≤ n.val →
    atoiAll (if (cut (tok p.val n.val) [42]).2.2 then (cut (tok p.val n.val) [42]).1 else [49]) = .ok (n.val : Int) ∧
    atoiAll (if (cut (tok p.val n.val) [42]).2.2 then (cut (tok p.val n.val) [42]).2.1 else tok p.val n.val) = .ok (p.val : Int) := by decide +kernel
theorem fieldW_tok {places p : Nat} {n : Int} (hp : p < places) (h16 : p < 16) (h1 : 1 ≤ n) (h9 : n ≤ 9) : fieldW places (tok p n) = some (p, n) := by
  have e : n = ((n.toNat : Nat) : Int) := by omega
  have h := tok_reads ⟨p, h16⟩ ⟨n.toNat, by omega⟩ (by show 1 ≤ n.toNat; omega)
  dsimp only at h
  rw [← e] at h
  unfold fieldW
  dsimp only
  rw [h.1, h.2]
  simp only
  rw [if_pos ⟨by omega, by omega, h1, h9⟩]
  simp
theorem weightsGo_toks (places : Nat) (h16 : places ≤ 16) : ∀ (w done : List Int), done.length + w.length = places → Nine w →
    weightsGo places (toksFrom done.length w) (done ++ List.replicate w.length 0) = some (done ++ w)
  | [], done, _, _ => by simp [toksFrom, weightsGo]
  | n :: r, done, hl, h => by
    have hn := h.head
    have ih := weightsGo_toks places h16 r (done ++ [n]) (by simp at hl ⊢; omega) h.tail
    simp only [List.length_append, List.length_cons, List.length_nil, Nat.zero_add, List.append_assoc, List.cons_append, List.nil_append] at ih
    by_cases h0 : n = 0
    · unfold toksFrom
      rw [if_pos h0]
      subst h0
      simpa [List.replicate_succ] using ih
    · unfold toksFrom
      rw [if_neg h0, weightsGo, fieldW_tok (by simp at hl; omega) (by simp at hl; omega) (by omega) (by omega)]
      simp only
      have e : (done ++ List.replicate (n :: r).length 0).set done.length n = done ++ n :: List.replicate r.length 0 := by
        simp [List.replicate_succ]
      rw [e]
      exact ih
theorem weightsS_side {places : Nat} {w : List Int} (h16 : places ≤ 16) (hl : w.length = places) (h : Nine w) : weightsS places (side w) = some w := by
  unfold weightsS
  rw [fields_side (by omega) h]
  have := weightsGo_toks places h16 w [] (by simpa using hl) h
  simpa [hl] using this

theorem side_bytes {w : List Int} (hw : w.length ≤ 16) (h : Nine w) : ∀ b ∈ side w, b.toNat = 32 ∨ b.toNat = 42 ∨ (48 ≤ b.toNat ∧ b.toNat ≤ 57) := by
  have hm := toksFrom_mem w 0 (by omega) h
  intro b hb
  unfold side at hb
  rw [sideFrom_toks w 0 (by omega) h, List.mem_flatten] at hb
  obtain ⟨l, hl, hb⟩ := hb
  obtain ⟨t, ht, rfl⟩ := List.mem_map.1 hl
  rcases List.mem_cons.1 hb with e | e
  · left; subst e; rfl
  · right; exact (hm t ht).2 b e
theorem side_no {w : List Int} (hw : w.length ≤ 16) (h : Nine w) {c : UInt8} (hc : c.toNat ≠ 32 ∧ c.toNat ≠ 42 ∧ (c.toNat < 48 ∨ 57 < c.toNat)) : c ∉ side w := fun hm => by
  have := side_bytes hw h c hm
  omega

theorem index_two (c d : UInt8) : ∀ x y : List UInt8, c ≠ d → d ∉ x → index (x ++ c :: d :: y) [c, d] = x.length
  | [], y, _, _ => by simp [index]
  | b :: x, y, hcd, h => by
    have h2 : d ∉ x := fun e => h (by simp [e])
    have ih := index_two c d x y hcd h2
    have hp : [c, d].isPrefixOf (b :: (x ++ c :: d :: y)) = false := by
      cases x with
      | nil => simp [List.isPrefixOf]; exact fun _ => hcd.symm
      | cons a x =>
        have : d ≠ a := fun e => h2 (by simp [e])
        simp [List.isPrefixOf, this]
    rw [List.cons_append, index, hp, ih]
    rw [if_neg (by simp)]
    have : ¬ ((x.length : Int) == -1) = true := fun e => by have := beq_iff_eq.1 e; omega
    rw [if_neg this]; simp
theorem cut_two (c d : UInt8) (x y : List UInt8) (hcd : c ≠ d) (h : d ∉ x) : cut (x ++ c :: d :: y) [c, d] = (x, y, true) := by
  unfold cut
  rw [index_two c d x y hcd h, if_pos (by omega)]
  simp only [Int.toNat_natCast, List.take_left', Prod.mk.injEq, and_true, true_and, List.length_cons, List.length_nil]
  have : x ++ c :: d :: y = (x ++ [c, d]) ++ y := by simp
  rw [this]
  have e : x.length + (0 + 1 + 1) = (x ++ [c, d]).length := by simp
  rw [e, List.drop_left]

theorem label_cases : ∀ i : Fin 27, (labelS (i.val : Int)).length = 1 ∧ labelOf (labelS (i.val : Int)) = i.val ∧ (58 : UInt8) ∉ labelS (i.val : Int) ∧ (10 : UInt8) ∉ labelS (i.val : Int) := by decide +kernel
theorem label_ok {l : Int} (h0 : 0 ≤ l) (h1 : l ≤ 26) : (labelS l).length = 1 ∧ labelOf (labelS l) = l ∧ (58 : UInt8) ∉ labelS l ∧ (10 : UInt8) ∉ labelS l := by
  obtain ⟨n, rfl⟩ := Int.eq_ofNat_of_zero_le h0
  exact label_cases ⟨n, by omega⟩

/-- what is right of a transition. -/
structure TrOk (p : Nat) (t : Tr) : Prop where
  l0 : 0 ≤ t.label
  l1 : t.label ≤ 26
  pre : t.pre.length = p
  post : t.post.length = p
  pre9 : Nine t.pre
  post9 : Nine t.post
theorem nine_of {w : List Int} (h : w.any badW = false) : Nine w := fun x hx => by
  have := List.any_eq_false.1 h x hx
  simp [badW] at this
  omega
theorem trOk_of {p : Nat} {t : Tr} (h : trWrong p t = false) : TrOk p t := by
  simp only [trWrong, Bool.or_eq_false_iff, decide_eq_false_iff_not, bne_eq_false_iff_eq] at h
  obtain ⟨⟨⟨⟨⟨h1, h2⟩, h3⟩, h4⟩, h5⟩, h6⟩ := h
  exact ⟨by omega, by omega, by omega, by omega, nine_of h5, nine_of h6⟩

theorem tranS_line {p : Nat} (h16 : p ≤ 16) {t : Tr} (h : TrOk p t) : tranS p (lineS t) = some t := by
  have hl := label_ok h.l0 h.l1
  have h1 := h.pre; have h2 := h.post
  unfold tranS
  dsimp only
  have e1 : cut (lineS t) [32, 58] = (labelS t.label, side t.pre ++ 32 :: 62 :: side t.post, true) := cut_two 32 58 (labelS t.label) _ (by decide) hl.2.2.1
  have e2 : cut (side t.pre ++ 32 :: 62 :: side t.post) [32, 62] = (side t.pre, side t.post, true) := cut_two 32 62 _ _ (by decide) (side_no (by omega) h.pre9 (by decide))
  rw [e1, e2]
  dsimp only
  rw [if_pos ⟨rfl, rfl, hl.1⟩, weightsS_side h16 h.pre h.pre9, weightsS_side h16 h.post h.post9]
  dsimp only
  rw [if_pos ⟨by rw [hl.2.1]; exact h.l0, by rw [hl.2.1]; exact h.l1, by rw [hl.2.1]⟩, hl.2.1]
theorem line_no {p : Nat} (h16 : p ≤ 16) {t : Tr} (h : TrOk p t) : 10 ∉ lineS t := by
  have hl := label_ok h.l0 h.l1
  have h1 := h.pre; have h2 := h.post
  unfold lineS
  simp only [List.mem_append, not_or]
  exact ⟨hl.2.2.2, by decide, side_no (by omega) h.pre9 (by decide), by decide, side_no (by omega) h.post9 (by decide)⟩

theorem parseGo_lines {p : Nat} (h16 : p ≤ 16) : ∀ (us ts : List Tr) (k : Nat), 0 < k → k + us.length ≤ 25 → (∀ t ∈ us, TrOk p t) →
    parseGo k ⟨p, ts⟩ (us.map (fun t => lineS t ++ [10]) ++ [[]]) = ⟨⟨p, ts ++ us⟩, 0, true⟩
  | [], ts, k, hk, _, _ => by simp [parseGo, hk]
  | t :: us, ts, k, hk, h25, h => by
    have ht := h t (by simp)
    have ih := parseGo_lines h16 us (ts ++ [t]) (k + 1) (by omega) (by simp at h25; omega) (fun x hx => h x (by simp [hx]))
    rw [List.map_cons, List.cons_append, parseGo, if_neg (by simp), if_neg (by rw [suffix_nl]; simp at h25 ⊢; omega), if_neg (by omega), trim_nl]
    simp only [Int.toNat_natCast]
    rw [tranS_line h16 ht]
    simp only
    rw [ih]
    simp
theorem good_lines {p : Nat} (h16 : p ≤ 16) : ∀ us : List Tr, (∀ t ∈ us, TrOk p t) → Good (us.map (fun t => lineS t ++ [10]) ++ [[]])
  | [], _ => by simp [Good]
  | t :: us, h => by
    rw [List.map_cons, List.cons_append]
    exact Good.cons (line_no h16 (h t (by simp))) (good_lines h16 us (fun x hx => h x (by simp [hx])))

theorem small_no {p : Nat} (h : p < 100) : (10 : UInt8) ∉ netB ++ smallN p := by
  intro hm
  rcases List.mem_append.1 hm with e | e
  · exact absurd e (by decide)
  · have := smallN_digits h 10 e
    exact absurd this (by decide)

/-- A NET IS READ AS IT WAS WRITTEN. -/
theorem back_ok {n : Nt} (h : ntWrong n = false) : parseS (printS n) = ⟨n, 0, true⟩ := by
  obtain ⟨p, ts⟩ := n
  simp only [ntWrong, Bool.or_eq_false_iff, decide_eq_false_iff_not] at h
  obtain ⟨⟨⟨h1, h2⟩, h3⟩, h4⟩ := h
  obtain ⟨q, rfl⟩ := Int.eq_ofNat_of_zero_le (by omega : 0 ≤ p)
  have hok : ∀ t ∈ ts, TrOk q t := fun t ht => trOk_of (by simpa using List.any_eq_false.1 h4 t ht)
  have hgood : Good ((netB ++ itoa q ++ [10]) :: (ts.map (fun t => lineS t ++ [10]) ++ [[]])) :=
    Good.cons (by rw [itoa_smallN (by omega)]; exact small_no (by omega)) (good_lines (by omega) ts hok)
  have hfl : ((netB ++ itoa q ++ [10]) :: (ts.map (fun t => lineS t ++ [10]) ++ [[]])).flatten = printS ⟨q, ts⟩ := by simp [printS]
  have hlines := hgood.lines
  rw [hfl] at hlines
  unfold parseS
  rw [hlines, parseGo, if_neg (by simp), if_neg (by rw [suffix_nl]; simp), if_pos rfl, trim_nl, headS_small (by omega) (by omega)]
  simp only
  rw [parseGo_lines (by omega) ts [] 1 (by omega) (by omega) hok]
  simp

end Tx
end Go.Proofs.YtednlgeidgnogaaDoor
