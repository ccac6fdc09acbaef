/- The plain law of DropUnseen. -/
import Derived.Test.YtjiijddlbfgafaaLawQ
import Derived.Test.YtjiijddlbfgafaaOpen
set_option linter.unusedVariables false
set_option linter.unusedSimpArgs false
set_option linter.unusedSectionVars false
namespace Go.Proofs.Ytjiijddlbfgafaa
/-- The number above all. -/
abbrev maxU' : Int := 18446744073709551615
/-- A tomb covers a key at a number. -/
def Cov (d : Tomb) (key : ByteArray) (q : Int) : Prop := validB d = true ∧ d.seq ≤ q ∧ kle d.b key = true ∧ klt key d.e = true
/-- A tomb with a greater number covers it. -/
def CovP (T : List Tomb) (key : ByteArray) (q s : Int) : Prop := ∃ d ∈ T, Cov d key q ∧ s < d.seq
theorem cover_fold (key : ByteArray) (q s : Int) : ∀ (T : List Tomb) (acc : Int × Bool), ((T.foldl (coverStep key q) acc).2 = true ↔ acc.2 = true ∨ ∃ d ∈ T, Cov d key q) ∧ (s < (T.foldl (coverStep key q) acc).1 ↔ s < acc.1 ∨ CovP T key q s)
  | [], acc => by simp [CovP]
  | d :: T, acc => by
    simp only [List.foldl_cons]
    by_cases hc : Cov d key q
    · rw [coverStep_yes hc]
      have ih := cover_fold key q s T (max acc.1 d.seq, true)
      constructor
      · rw [ih.1]
        constructor
        · intro _; exact .inr ⟨d, by simp, hc⟩
        · intro _; exact .inl rfl
      · rw [ih.2]
        simp only
        constructor
        · rintro (h | ⟨d', hd', h⟩)
          · rcases Int.le_total acc.1 d.seq with g | g
            · rw [Int.max_eq_right g] at h
              exact .inr ⟨d, by simp, hc, h⟩
            · rw [Int.max_eq_left g] at h
              exact .inl h
          · exact .inr ⟨d', by simp [hd'], h⟩
        · rintro (h | ⟨d', hd', h⟩)
          · exact .inl (by omega)
          · rcases List.mem_cons.1 hd' with rfl | hd'
            · exact .inl (by have := h.2; omega)
            · exact .inr ⟨d', hd', h⟩
    · rw [coverStep_no hc]
      have ih := cover_fold key q s T acc
      constructor
      · rw [ih.1]
        constructor
        · rintro (h | ⟨d', hd', h⟩)
          · exact .inl h
          · exact .inr ⟨d', by simp [hd'], h⟩
        · rintro (h | ⟨d', hd', h⟩)
          · exact .inl h
          · rcases List.mem_cons.1 hd' with rfl | hd'
            · exact absurd h hc
            · exact .inr ⟨d', hd', h⟩
      · rw [ih.2]
        constructor
        · rintro (h | ⟨d', hd', h⟩)
          · exact .inl h
          · exact .inr ⟨d', by simp [hd'], h⟩
        · rintro (h | ⟨d', hd', h⟩)
          · exact .inl h
          · rcases List.mem_cons.1 hd' with rfl | hd'
            · exact absurd h.1 hc
            · exact .inr ⟨d', hd', h⟩
theorem cov_iff {T : List Tomb} {key : ByteArray} {q s : Int} (hs : 0 ≤ s) : ((coverS T key q).2 && decide ((coverS T key q).1 > s)) = true ↔ CovP T key q s := by
  have h := cover_fold key q s T (0, false)
  unfold coverS
  rw [Bool.and_eq_true, decide_eq_true_eq, h.1]
  constructor
  · rintro ⟨_, h2⟩
    rcases h.2.1 h2 with g | g
    · simp only at g; omega
    · exact g
  · intro g
    refine ⟨?_, h.2.2 (.inr g)⟩
    obtain ⟨d, hd, hc, _⟩ := g
    exact .inr ⟨d, hd, hc⟩
theorem seen_none {L : List Ent} {T : List Tomb} {key : ByteArray} {q : Int} (h : newestS L key q = none) : seenS L T key q = (ByteArray.empty, false) := by unfold seenS; rw [h]
theorem seen_hid {L : List Ent} {T : List Tomb} {key : ByteArray} {q : Int} {e : Ent} (h : newestS L key q = some e) (hs : 0 ≤ e.seq) (hc : e.kind ≠ 1 ∨ CovP T key q e.seq) : seenS L T key q = (ByteArray.empty, false) := by
  unfold seenS
  rw [h]
  simp only
  rw [if_neg]
  rintro ⟨h1, h2⟩
  rcases hc with hc | hc
  · exact hc h1
  · rw [(cov_iff hs).2 hc] at h2; cases h2
theorem seen_same {L L' : List Ent} {T T' : List Tomb} {key : ByteArray} {q : Int} {e : Ent} (h : newestS L key q = some e) (h' : newestS L' key q = some e) (hs : 0 ≤ e.seq) (hc : CovP T key q e.seq ↔ CovP T' key q e.seq) : seenS L T key q = seenS L' T' key q := by
  unfold seenS
  rw [h, h']
  simp only
  have : ((coverS T key q).2 && decide ((coverS T key q).1 > e.seq)) = ((coverS T' key q).2 && decide ((coverS T' key q).1 > e.seq)) := by
    rw [Bool.eq_iff_iff, cov_iff hs, cov_iff hs, hc]
  rw [this]
theorem newest_mem {L : List Ent} {key : ByteArray} {q : Int} {e : Ent} (h : newestS L key q = some e) : e ∈ L ∧ e.key = key ∧ e.seq ≤ q := by
  have hi := isNew_newest key q L
  rw [h] at hi
  obtain ⟨h1, _, h3⟩ := hi
  exact ⟨(List.mem_filter.1 (List.mem_of_mem_head? h3)).1, looks_iff.1 h1⟩
theorem newest_none {L : List Ent} {key : ByteArray} {q : Int} : newestS L key q = none ↔ ∀ e ∈ L, looks key q e = false := by
  constructor
  · intro h
    have hi := isNew_newest key q L
    rw [h] at hi
    exact hi
  · intro h
    cases ho : newestS L key q with
    | none => rfl
    | some e =>
      obtain ⟨h1, h2⟩ := newest_mem ho
      have := h e h1
      rw [looks_iff.2 h2] at this
      cases this
theorem fold_stays {key : ByteArray} {q : Int} {e : Ent} : ∀ {b : List Ent}, (∀ x ∈ b, x.key = key → eltB x e = false) → b.foldl (newStep key q) (some e) = some e
  | [], _ => rfl
  | x :: b, h => by
    have hx : newStep key q (some e) x = some e := by
      unfold newStep
      rw [if_neg]
      rintro ⟨h1, _, h3⟩
      have := (elt_cmp _ _).1 (h3 e rfl)
      rw [h x (by simp) h1] at this
      cases this
    simp only [List.foldl_cons, hx]
    exact fold_stays fun y hy => h y (by simp [hy])
theorem newest_app {l b : List Ent} {key : ByteArray} {q : Int} (h : ∀ e ∈ b, ∀ a ∈ l, e.seq < a.seq) : newestS (l ++ b) key q = (newestS l key q).or (newestS b key q) := by
  unfold newestS
  rw [List.foldl_append]
  cases ho : l.foldl (newStep key q) none with
  | none => rfl
  | some e =>
    obtain ⟨h1, h2, _⟩ := newest_mem (L := l) (key := key) (q := q) ho
    rw [fold_stays fun x hx hk => by
      rw [eltB_false_iff]
      refine ⟨by rw [hk, h2]; exact klt_irrefl _, fun _ => ?_⟩
      have := h x hx e h1
      exact ⟨by omega, fun g => by omega⟩]
    rfl
section
variable {S sn : List Int} {bl : List File} {t dead : List Tomb} {l below : List Ent} {key : ByteArray} {q : Int}
theorem str_apart (hS : Rising sn S) (hq : q ∈ sn ∨ q = maxU') {a b : Int} (hb : InU b) (h1 : a ≤ q) (h2 : q < b) : strN S a < strN S b := by
  rcases hq with hq | rfl
  · have hqS := (hS.2 q).2 hq
    have hsub : ((S.filter fun s => decide (s < a)) ++ [q]).length ≤ (S.filter fun s => decide (s < b)).length := by
      have hsplit : ∀ (S : List Int), q ∈ S → (S.filter fun s => decide (s < a)).length + 1 ≤ (S.filter fun s => decide (s < b)).length := fun S => by
        induction S with
        | nil => intro h; cases h
        | cons x S ih =>
          intro h
          have hmono := strN_mono S (show a ≤ b by omega)
          unfold strN at hmono
          simp only [List.filter_cons]
          rcases List.mem_cons.1 h with rfl | h
          · have e1 : decide (q < a) = false := decide_eq_false (by omega)
            have e2 : decide (q < b) = true := decide_eq_true h2
            rw [e1, e2]
            simp
            exact hmono
          · have := ih h
            by_cases c1 : x < a
            · have e1 : decide (x < a) = true := decide_eq_true c1
              have e2 : decide (x < b) = true := decide_eq_true (by omega)
              rw [e1, e2]
              simp
              omega
            · have e1 : decide (x < a) = false := decide_eq_false c1
              rw [e1]
              by_cases c2 : x < b
              · have e2 : decide (x < b) = true := decide_eq_true c2
                rw [e2]
                simp
                omega
              · have e2 : decide (x < b) = false := decide_eq_false c2
                rw [e2]
                simp
                omega
      have := hsplit S hqS
      simpa using this
    unfold strN
    simp at hsub
    omega
  · have := hb.2
    unfold maxU' at h2
    omega
/-- A tomb that covers a key on which a file bears touches that file. -/
theorem bears_touched {d : Tomb} (hc : Cov d key q) (hb : bearsS bl key = true) : touchedS bl d = true := by
  obtain ⟨f, hf, h⟩ := List.any_eq_true.1 hb
  rw [Bool.and_eq_true] at h
  refine List.any_eq_true.2 ⟨f, hf, ?_⟩
  obtain ⟨_, _, h3, h4⟩ := hc
  rw [Bool.and_eq_true, Bool.not_eq_true', kle_eq, Bool.not_eq_false']
  rw [kle_eq, Bool.not_eq_true'] at h3
  have h1 := h.1
  rw [kle_eq, Bool.not_eq_true'] at h1
  have h2 := h.2
  constructor
  · rcases klt_total f.least d.e with c | c | c
    · exact c
    · rw [c, h4] at h1
      cases h1
    · have := klt_trans h4 c
      rw [h1] at this
      cases this
  · rcases klt_total d.b f.limit with c | c | c
    · exact c
    · rw [← c] at h2
      rw [h2] at h3
      cases h3
    · have := klt_trans h2 c
      rw [h3] at this
      cases this
theorem mem_keptT {d : Tomb} : d ∈ keptT S bl t ↔ d ∈ t ∧ validB d = true ∧ tombKeep S bl d = true := by
  unfold keptT
  rw [List.mem_filter, List.mem_filter, and_assoc]
theorem keptE_sub {e : Ent} (h : e ∈ keptE S bl t l) : e ∈ l := ((sortedE_stable l).mem swo_elt).1 ((keptTo_sub _).subset h)
/-- P21.3: each key shows what it showed. -/
theorem unseen (hS : Rising sn S) (hl : ∀ x ∈ l, InU x.seq) (ht : ∀ x ∈ t, InU x.seq) (hb : ∀ e ∈ below, InU e.seq ∧ bearsS bl e.key = true) (hbl : ∀ e ∈ below, ∀ a ∈ l, e.seq < a.seq)
    (hd : ∀ d ∈ dead, ∀ a ∈ l, d.seq < a.seq) (hq : q ∈ sn ∨ q = maxU') : seenS (l ++ below) (t ++ dead) key q = seenS (keptE S bl t l ++ below) (keptT S bl t ++ dead) key q := by
  have hsort := sortedE_sorted l
  have hmemS : ∀ e, e ∈ sortedE l ↔ e ∈ l := fun e => (sortedE_stable l).mem swo_elt
  have napp := newest_app (key := key) (q := q) hbl
  have napp' := newest_app (l := keptE S bl t l) (b := below) (key := key) (q := q) (fun e he a ha => hbl e he a (keptE_sub ha))
  -- tombs that cover a key on which a file bears are all kept
  have hkeep : bearsS bl key = true → ∀ s, CovP (t ++ dead) key q s ↔ CovP (keptT S bl t ++ dead) key q s := fun hbe s => by
    constructor
    · rintro ⟨d, hm, hc, h⟩
      rcases List.mem_append.1 hm with hm | hm
      · refine ⟨d, List.mem_append.2 (.inl (mem_keptT.2 ⟨hm, hc.1, ?_⟩)), hc, h⟩
        simp [tombKeep, bears_touched hc hbe]
      · exact ⟨d, List.mem_append.2 (.inr hm), hc, h⟩
    · rintro ⟨d, hm, hc, h⟩
      rcases List.mem_append.1 hm with hm | hm
      · exact ⟨d, List.mem_append.2 (.inl (mem_keptT.1 hm).1), hc, h⟩
      · exact ⟨d, List.mem_append.2 (.inr hm), hc, h⟩
  cases ho : newestS l key q with
  | none =>
    have hx : newestS (keptE S bl t l) key q = none := newest_none.2 fun e he => newest_none.1 ho e (keptE_sub he)
    rw [ho] at napp
    rw [hx] at napp'
    simp only [Option.none_or] at napp napp'
    cases hob : newestS below key q with
    | none =>
      rw [hob] at napp napp'
      rw [seen_none napp, seen_none napp']
    | some e =>
      rw [hob] at napp napp'
      obtain ⟨he, hk, _⟩ := newest_mem hob
      exact seen_same napp napp' (hb e he).1.1 (hkeep (by rw [← hk]; exact (hb e he).2) _)
  | some e =>
    obtain ⟨hel, hek, heq⟩ := newest_mem ho
    have heu := hl e hel
    rw [ho] at napp
    simp only [Option.some_or] at napp
    rw [newest_find, List.find?_eq_some_iff_getElem] at ho
    obtain ⟨_, i, hi, hie, hbef⟩ := ho
    have hie' : (sortedE l)[i]? = some e := by rw [List.getElem?_eq_getElem hi, hie]
    have hbef' : ∀ j, j < i → ∀ z, (sortedE l)[j]? = some z → looks key q z = false := fun j hj z hz => by
      have := hbef j hj
      rw [List.getElem?_eq_getElem (by omega)] at hz
      cases hz
      simpa using this
    cases hp : keepAt S bl (rowsOf S t) (sortedE l) i e with
    | true =>
      have hx : newestS (keptE S bl t l) key q = some e := by
        rw [newest_find, sorted_keptE]
        have hpre : (keptTo (keepAt S bl (rowsOf S t) (sortedE l)) (sortedE l) (i + 1)) <+: keptE S bl t l := keptTo_prefix (by omega)
        obtain ⟨r, hr⟩ := hpre
        rw [← hr, keptTo_yes hie' hp, List.append_assoc, List.find?_append]
        have hnone : (keptTo (keepAt S bl (rowsOf S t) (sortedE l)) (sortedE l) i).find? (looks key q) = none := List.find?_eq_none.2 fun z hz => by
          obtain ⟨m, hm, hmz⟩ := List.getElem_of_mem hz
          have hz' : (keptTo (keepAt S bl (rowsOf S t) (sortedE l)) (sortedE l) i)[m]? = some z := by rw [List.getElem?_eq_getElem hm, hmz]
          obtain ⟨j, hj, hjz, _⟩ := keptTo_get _ _ _ hz'
          rw [hbef' j hj z hjz]
          simp
        rw [hnone]
        simp [looks_iff.2 ⟨hek, heq⟩]
      rw [hx] at napp'
      simp only [Option.some_or] at napp'
      refine seen_same napp napp' heu.1 ?_
      constructor
      · rintro ⟨d, hm, hc, h⟩
        rcases List.mem_append.1 hm with hm | hm
        · refine ⟨d, List.mem_append.2 (.inl (mem_keptT.2 ⟨hm, hc.1, ?_⟩)), hc, h⟩
          rw [Bool.eq_iff_iff]
          simp only [iff_true]
          cases htk : tombKeep S bl d with
          | true => rfl
          | false =>
            exfalso
            simp only [tombKeep, Bool.not_eq_false', Bool.and_eq_true, beq_iff_eq, decide_eq_true_eq] at htk
            obtain ⟨⟨hn0, hS0⟩, _⟩ := htk
            have hne : strN S e.seq = 0 := by have := strN_mono S (show e.seq ≤ d.seq by omega); omega
            unfold keepAt at hp
            rw [hne, if_neg (by omega)] at hp
            split at hp
            · cases hp
            split at hp
            · cases hp
            have hv := hc.1
            have hsq : d.seq ≤ 72057594037927935 := by
              unfold validB at hv
              simp only [Bool.and_eq_true, decide_eq_true_eq] at hv
              exact hv.2
            have : CovP (rowsOf S t 0) e.key 72057594037927935 e.seq := by
              refine ⟨d, ?_, ⟨hc.1, hsq, by rw [hek]; exact hc.2.2.1, by rw [hek]; exact hc.2.2.2⟩, h⟩
              unfold rowsOf
              rw [if_neg (by omega)]
              exact List.mem_filter.2 ⟨List.mem_filter.2 ⟨hm, hc.1⟩, by simp [hn0]⟩
            rw [(cov_iff heu.1).2 this] at hp
            cases hp
        · have := hd d hm e hel
          omega
      · rintro ⟨d, hm, hc, h⟩
        rcases List.mem_append.1 hm with hm | hm
        · exact ⟨d, List.mem_append.2 (.inl (mem_keptT.1 hm).1), hc, h⟩
        · exact ⟨d, List.mem_append.2 (.inr hm), hc, h⟩
    | false =>
      -- an older one of the same key and stripe is not kept either
      have holder : ∀ j z, i < j → (sortedE l)[j]? = some z → z.key = key → strN S z.seq = strN S e.seq → strN S e.seq ≠ S.length → keepAt S bl (rowsOf S t) (sortedE l) j z = false := fun j z hij hz hzk hzs hne => by
        have hjl := (List.getElem?_eq_some_iff.1 hz).1
        obtain ⟨u, hu⟩ : ∃ u, (sortedE l)[j - 1]? = some u := ⟨_, List.getElem?_eq_getElem (by omega)⟩
        have hbt := between (S := S) hsort (show i ≤ j - 1 by omega) (show j - 1 < j by omega) hie' hu hz (hek.trans hzk.symm) hzs.symm
        unfold keepAt
        rw [if_neg (by omega), if_pos ⟨by omega, u, hu, hbt.1, hbt.2⟩]
      -- what x shows at all is older
      have hxs : ∀ z, newestS (keptE S bl t l) key q = some z → ∃ j, i < j ∧ (sortedE l)[j]? = some z ∧ z.key = key ∧ keepAt S bl (rowsOf S t) (sortedE l) j z = true ∧ z ∈ l ∧ z.seq ≤ e.seq := fun z hz => by
        obtain ⟨hzm, hzk, hzq⟩ := newest_mem hz
        obtain ⟨m, hm, hmz⟩ := List.getElem_of_mem hzm
        have hz' : (keptE S bl t l)[m]? = some z := by rw [List.getElem?_eq_getElem hm, hmz]
        obtain ⟨j, hj, hjz, hpj, _⟩ := keptTo_get _ _ _ hz'
        have hij : i < j := by
          rcases Nat.lt_trichotomy j i with c | c | c
          · have := hbef' j c z hjz
            rw [looks_iff.2 ⟨hzk, hzq⟩] at this
            cases this
          · subst c
            rw [hie'] at hjz
            cases hjz
            rw [hp] at hpj
            cases hpj
          · exact c
        have hle := (((eltB_false_iff z e).1 (pair_get hsort hij hie' hjz)).2 (hzk.trans hek.symm)).1
        exact ⟨j, hij, hjz, hzk, hpj, keptE_sub hzm, hle⟩
      unfold keepAt at hp
      split at hp
      · cases hp
      rename_i hn
      split at hp
      · -- (a) the one ahead is of the same key and stripe
        rename_i hpr
        exfalso
        obtain ⟨hi0, u, hu, huk, hus⟩ := hpr
        have hul := hbef' (i - 1) (by omega) u hu
        have huq : q < u.seq := by
          rcases Int.lt_or_le q u.seq with c | c
          · exact c
          · rw [looks_iff.2 ⟨huk.trans hek, c⟩] at hul
            cases hul
        have := str_apart hS hq (hl u ((hmemS u).1 (List.mem_of_getElem? hu))) heq huq
        omega
      split at hp
      · -- (b) a delete of the oldest stripe, with nothing below
        rename_i hdl
        obtain ⟨hn0, hkd, hnb⟩ := hdl
        have hx : newestS (keptE S bl t l) key q = none := by
          cases hz : newestS (keptE S bl t l) key q with
          | none => rfl
          | some z =>
            exfalso
            obtain ⟨j, hij, hjz, hzk, hpj, hzl, hle⟩ := hxs z hz
            have hzs : strN S z.seq = strN S e.seq := by have := strN_mono S hle; omega
            rw [holder j z hij hjz hzk hzs hn] at hpj
            cases hpj
        have hbn : newestS below key q = none := newest_none.2 fun z hz => by
          rw [Bool.eq_false_iff]
          intro hlk
          have := (hb z hz).2
          rw [(looks_iff.1 hlk).1, ← hek, hnb] at this
          cases this
        rw [hx, hbn] at napp'
        rw [seen_hid napp heu.1 (.inl (by omega)), seen_none napp']
      · -- (c) covered within its stripe
        rename_i hdl
        have hp' := hp
        rw [Bool.not_eq_false', cov_iff heu.1] at hp'
        obtain ⟨d, hdm, hdc, hds⟩ := hp'
        have hdt : d ∈ t ∧ strN S d.seq = strN S e.seq := by
          have hle := strN_le S e.seq
          unfold rowsOf at hdm
          rw [if_neg (by omega)] at hdm
          obtain ⟨h1, h2⟩ := List.mem_filter.1 hdm
          exact ⟨(List.mem_filter.1 h1).1, by simpa using h2⟩
        have hdq : d.seq ≤ q := by
          rcases Int.lt_or_le q d.seq with c | c
          · have := str_apart hS hq (ht d hdt.1) heq c
            omega
          · exact c
        have hcq : Cov d key q := ⟨hdc.1, hdq, by rw [← hek]; exact hdc.2.2.1, by rw [← hek]; exact hdc.2.2.2⟩
        rw [seen_hid napp heu.1 (.inr ⟨d, List.mem_append.2 (.inl hdt.1), hcq, hds⟩)]
        cases hz : newestS (keptE S bl t l) key q with
        | some z =>
          obtain ⟨j, hij, hjz, hzk, hpj, hzl, hle⟩ := hxs z hz
          have hlt : strN S z.seq < strN S e.seq := by
            have := strN_mono S hle
            rcases Nat.lt_or_ge (strN S z.seq) (strN S e.seq) with c | c
            · exact c
            · rw [holder j z hij hjz hzk (by omega) hn] at hpj
              cases hpj
          rw [hz] at napp'
          simp only [Option.some_or] at napp'
          refine (seen_hid napp' (hl z hzl).1 (.inr ⟨d, List.mem_append.2 (.inl (mem_keptT.2 ⟨hdt.1, hdc.1, ?_⟩)), hcq, by omega⟩)).symm
          have : (strN S d.seq == 0) = false := by rw [beq_eq_false_iff_ne]; omega
          simp [tombKeep, this]
        | none =>
          rw [hz] at napp'
          simp only [Option.none_or] at napp'
          cases hob : newestS below key q with
          | none =>
            rw [hob] at napp'
            exact (seen_none napp').symm
          | some b =>
            rw [hob] at napp'
            obtain ⟨hbm, hbk, _⟩ := newest_mem hob
            have hbe : bearsS bl key = true := by rw [← hbk]; exact (hb b hbm).2
            have hbs := hbl b hbm e hel
            exact (seen_hid napp' (hb b hbm).1.1 (.inr ((hkeep hbe _).1 ⟨d, List.mem_append.2 (.inl hdt.1), hcq, by omega⟩))).symm
end
end Go.Proofs.Ytjiijddlbfgafaa
