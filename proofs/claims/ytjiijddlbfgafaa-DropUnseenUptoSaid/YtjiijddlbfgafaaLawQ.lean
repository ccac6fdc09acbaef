/- ikey.Newest as the first of the sorted entries. Plain laws. -/
import Derived.Test.YtjiijddlbfgafaaNew
import Derived.Test.YtjiijddlbfgafaaSeen
import Derived.Test.YtjiijddlbfgafaaLawP
set_option linter.unusedVariables false
set_option linter.unusedSimpArgs false
namespace Go.Proofs.Ytjiijddlbfgafaa
/-- Is an entry looked at? -/
def looks (key : ByteArray) (q : Int) (e : Ent) : Bool := decide (e.key = key) && decide (e.seq ≤ q)
theorem looks_iff {key : ByteArray} {q : Int} {e : Ent} : looks key q e = true ↔ e.key = key ∧ e.seq ≤ q := by simp [looks]
theorem elt_cmp (a b : Ent) : cmpE a b < 0 ↔ eltB a b = true := by unfold eltB ltOf; simp
theorem eqv_iff (x y : Ent) : eqv (ltOf cmpE) x y = true ↔ x.key = y.key ∧ x.seq = y.seq ∧ x.kind = y.kind := by
  have h1 := eltB_false_iff x y
  have h2 := eltB_false_iff y x
  unfold eltB at h1 h2
  simp only [eqv, Bool.and_eq_true, Bool.not_eq_true', h1, h2]
  constructor
  · rintro ⟨⟨a1, a2⟩, b1, b2⟩
    have hk : x.key = y.key := by
      rcases klt_total x.key y.key with c | c | c
      · rw [a1] at c; simp at c
      · exact c
      · rw [b1] at c; simp at c
    obtain ⟨s1, k1⟩ := a2 hk
    obtain ⟨s2, k2⟩ := b2 hk.symm
    have hs : x.seq = y.seq := by omega
    exact ⟨hk, hs, by have := k1 hs.symm; have := k2 hs; omega⟩
  · rintro ⟨hk, hs, hd⟩
    rw [hk, hs, hd]
    refine ⟨⟨klt_irrefl _, fun _ => ⟨Int.le_refl _, fun _ => Int.le_refl _⟩⟩, klt_irrefl _, fun _ => ⟨Int.le_refl _, fun _ => Int.le_refl _⟩⟩
theorem elt_trans {a b c : Ent} (h1 : eltB a b = true) (h2 : eltB b c = true) : eltB a c = true := swo_elt.trans _ _ _ h1 h2
theorem elt_irrefl (a : Ent) : eltB a a = false := swo_elt.irrefl a
theorem elt_congr {a a' b : Ent} (h : a.key = a'.key ∧ a.seq = a'.seq ∧ a.kind = a'.kind) : eltB a b = eltB a' b := by
  rw [Bool.eq_iff_iff, eltB_iff, eltB_iff, h.1, h.2.1, h.2.2]
/-- What the newest one is, by its marks. -/
def IsNew (key : ByteArray) (q : Int) (l : List Ent) : Option Ent → Prop
  | none => ∀ e ∈ l, looks key q e = false
  | some x => looks key q x = true ∧ (∀ e ∈ l, looks key q e = true → eltB e x = false) ∧ (l.filter (eqv (ltOf cmpE) x)).head? = some x
theorem isNew_snoc {key : ByteArray} {q : Int} {l : List Ent} {o : Option Ent} {e : Ent} (h : IsNew key q l o) : IsNew key q (l ++ [e]) (newStep key q o e) := by
  have looksEq : ∀ {a b : Ent}, eqv (ltOf cmpE) a b = true → looks key q a = true → looks key q b = true := fun hab ha => by
    obtain ⟨h1, h2, _⟩ := (eqv_iff _ _).1 hab
    rw [looks_iff] at ha ⊢
    rw [← h1, ← h2]
    exact ha
  unfold newStep
  by_cases hc : e.key = key ∧ e.seq ≤ q ∧ (∀ b, o = some b → cmpE e b < 0)
  · rw [if_pos hc]
    obtain ⟨h1, h2, h3⟩ := hc
    have hle : looks key q e = true := looks_iff.2 ⟨h1, h2⟩
    have hmin : ∀ e' ∈ l, looks key q e' = true → eltB e' e = false ∧ eqv (ltOf cmpE) e e' = false := fun e' he' hl' => by
      cases o with
      | none => have := h e' he'; rw [hl'] at this; cases this
      | some b =>
        have hb := h.2.1 e' he' hl'
        have heb := (elt_cmp _ _).1 (h3 b rfl)
        constructor
        · cases hx : eltB e' e with
          | false => rfl
          | true => rw [elt_trans hx heb] at hb; cases hb
        · cases hx : eqv (ltOf cmpE) e e' with
          | false => rfl
          | true => rw [elt_congr ((eqv_iff _ _).1 hx), hb] at heb; cases heb
    refine ⟨hle, ?_, ?_⟩
    · intro e' he' hl'
      rcases List.mem_append.1 he' with he' | he'
      · exact (hmin e' he' hl').1
      · obtain rfl := List.mem_singleton.1 he'
        exact elt_irrefl _
    · have hnil : l.filter (eqv (ltOf cmpE) e) = [] := List.filter_eq_nil_iff.2 fun e' he' hx => by
        rw [(hmin e' he' (looksEq hx hle)).2] at hx
        cases hx
      rw [List.filter_append, hnil]
      simp [eqv_self swo_elt]
  · rw [if_neg hc]
    cases o with
    | none =>
      intro e' he'
      rcases List.mem_append.1 he' with he' | he'
      · exact h e' he'
      · obtain rfl := List.mem_singleton.1 he'
        rw [Bool.eq_false_iff]
        intro hl
        obtain ⟨h1, h2⟩ := looks_iff.1 hl
        exact hc ⟨h1, h2, fun b hb => by cases hb⟩
    | some b =>
      obtain ⟨g1, g2, g3⟩ := h
      refine ⟨g1, ?_, ?_⟩
      · intro e' he' hl'
        rcases List.mem_append.1 he' with he' | he'
        · exact g2 e' he' hl'
        · obtain rfl := List.mem_singleton.1 he'
          rw [Bool.eq_false_iff]
          intro hx
          obtain ⟨h1, h2⟩ := looks_iff.1 hl'
          exact hc ⟨h1, h2, fun b' hb' => by cases hb'; exact (elt_cmp _ _).2 hx⟩
      · rw [List.filter_append, List.head?_append, g3]
        rfl
theorem isNew_newest (key : ByteArray) (q : Int) (l : List Ent) : IsNew key q l (newestS l key q) := by
  have : ∀ n, IsNew key q (l.take n) ((l.take n).foldl (newStep key q) none) := fun n => by
    induction n with
    | zero => simp [IsNew]
    | succ n ih =>
      rw [List.take_add_one]
      cases hx : l[n]? with
      | none => simpa using ih
      | some e =>
        simp only [Option.toList_some, List.foldl_append, List.foldl_cons, List.foldl_nil]
        exact isNew_snoc ih
  have h := this l.length
  rw [List.take_length] at h
  exact h
theorem isNew_unique {key : ByteArray} {q : Int} {l l' : List Ent} {o o' : Option Ent} (hm : ∀ e, e ∈ l ↔ e ∈ l') (hf : ∀ x, l.filter (eqv (ltOf cmpE) x) = l'.filter (eqv (ltOf cmpE) x)) (h : IsNew key q l o) (h' : IsNew key q l' o') : o = o' := by
  have memOf : ∀ {m : List Ent} {x : Ent}, (m.filter (eqv (ltOf cmpE) x)).head? = some x → x ∈ m := fun hh => (List.mem_filter.1 (List.mem_of_mem_head? hh)).1
  cases o with
  | none =>
    cases o' with
    | none => rfl
    | some y =>
      have := h y ((hm y).2 (memOf h'.2.2))
      rw [h'.1] at this
      cases this
  | some x =>
    cases o' with
    | none =>
      have := h' x ((hm x).1 (memOf h.2.2))
      rw [h.1] at this
      cases this
    | some y =>
      have h1 := h.2.1 y ((hm y).2 (memOf h'.2.2)) h'.1
      have h2 := h'.2.1 x ((hm x).1 (memOf h.2.2)) h.1
      have he : eqv (ltOf cmpE) x y = true := by
        unfold eltB at h1 h2
        simp [eqv, h1, h2]
      have hfx : l.filter (eqv (ltOf cmpE) x) = l.filter (eqv (ltOf cmpE) y) := by
        congr 1
        funext z
        obtain ⟨a, b, c⟩ := (eqv_iff _ _).1 he
        rw [Bool.eq_iff_iff, eqv_iff, eqv_iff, a, b, c]
      have e1 := h.2.2
      have e2 := h'.2.2
      rw [hfx, hf y, e2] at e1
      exact e1.symm
/-- On sorted entries the first one that is looked at is the newest. -/
theorem isNew_find {key : ByteArray} {q : Int} {sl : List Ent} (hs : sl.Pairwise fun a b => eltB b a = false) : IsNew key q sl (sl.find? (looks key q)) := by
  cases hf : sl.find? (looks key q) with
  | none => exact fun e he => by simpa using List.find?_eq_none.1 hf e he
  | some x =>
    obtain ⟨hx, i, hi, hix, hbef⟩ := List.find?_eq_some_iff_getElem.1 hf
    have hxi : sl[i]? = some x := by rw [List.getElem?_eq_getElem hi, hix]
    have hno : ∀ j, j < i → ∀ z, sl[j]? = some z → looks key q z = false := fun j hj z hz => by
      have := hbef j hj
      rw [List.getElem?_eq_getElem (by omega)] at hz
      cases hz
      simpa using this
    refine ⟨hx, ?_, ?_⟩
    · intro e he hl
      obtain ⟨j, hj, hje⟩ := List.getElem_of_mem he
      have hej : sl[j]? = some e := by rw [List.getElem?_eq_getElem hj, hje]
      rcases Nat.lt_trichotomy j i with c | c | c
      · rw [hno j c e hej] at hl; cases hl
      · subst c
        rw [hxi] at hej
        cases hej
        exact elt_irrefl _
      · exact pair_get hs c hxi hej
    · have hsp : sl = sl.take i ++ sl.drop i := (List.take_append_drop i sl).symm
      have hnil : (sl.take i).filter (eqv (ltOf cmpE) x) = [] := List.filter_eq_nil_iff.2 fun z hz he => by
        obtain ⟨j, hj, hjz⟩ := List.getElem_of_mem hz
        have hji : j < i := by simp at hj; omega
        have hzj : sl[j]? = some z := by
          rw [← hjz, List.getElem_take]
          exact List.getElem?_eq_getElem _
        have := hno j hji z hzj
        obtain ⟨a, b, _⟩ := (eqv_iff _ _).1 he
        obtain ⟨c1, c2⟩ := looks_iff.1 hx
        rw [looks_iff.2 ⟨a.symm.trans c1, by omega⟩] at this
        cases this
      rw [hsp, List.filter_append, hnil, List.drop_eq_getElem_cons hi, hix]
      simp [eqv_self swo_elt]
theorem newest_find (l : List Ent) (key : ByteArray) (q : Int) : newestS l key q = (sortedE l).find? (looks key q) :=
  isNew_unique (fun e => ((sortedE_stable l).mem swo_elt).symm) (fun x => ((sortedE_stable l).same x).symm) (isNew_newest key q l) (isNew_find (sortedE_sorted l))
end Go.Proofs.Ytjiijddlbfgafaa
