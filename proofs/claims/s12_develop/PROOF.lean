import PyProof.Rows.All
import Wide.All
import OpenK.AllK
import Wide.FinOn
import PyProof.EqAt
import PyProof.EqKinds
import PyProof.TupleCall
import Open.SpecLaws
import KE.OsGo
import HandS.ForSpec
import HandS.Walk
import PySem.Challenge.RW_paintsheets_s12_develop
set_option Elab.async false
set_option linter.all false
set_option maxRecDepth 100000
set_option maxHeartbeats 4000000
namespace Pm
/-! ### numbers and bytes -/
def Byt (l : List Int) : Prop := ∀ z, z ∈ l → 0 ≤ z ∧ z ≤ 255
def u8 (z : Int) : UInt8 := UInt8.ofNat z.toNat
def un (c : UInt8) : Int := (c.toNat : Int)
theorem un_u8 {z : Int} (h : 0 ≤ z ∧ z ≤ 255) : un (u8 z) = z := by
  unfold un u8
  rw [UInt8.toNat_ofNat']
  have : z.toNat % 2 ^ 8 = z.toNat := Nat.mod_eq_of_lt (by omega)
  rw [this]
  omega
theorem u8_zero {z : Int} (h : 0 ≤ z ∧ z ≤ 255) : u8 z = 0 ↔ z = 0 := by
  constructor
  · intro e
    have q := un_u8 h
    rw [e] at q
    exact q.symm
  · intro e
    subst e
    rfl
theorem u8_toNat {z : Int} (h : 0 ≤ z ∧ z ≤ 255) : (u8 z).toNat = z.toNat := by
  have q := un_u8 h
  unfold un at q
  omega
theorem u8_inj {z y : Int} (h : 0 ≤ z ∧ z ≤ 255) (h' : 0 ≤ y ∧ y ≤ 255) : u8 z = u8 y ↔ z = y := by
  constructor
  · intro e
    rw [← un_u8 h, e, un_u8 h']
  · intro e
    rw [e]
theorem text_eq (l : List Int) : Neutral.text l = l.map u8 := rfl
theorem text_len (l : List Int) : (Neutral.text l).length = l.length := by rw [text_eq, List.length_map]
theorem un_text : ∀ {l : List Int}, Byt l → (Neutral.text l).map un = l
  | [], _ => rfl
  | z :: r, h => by
    show un (u8 z) :: (Neutral.text r).map un = z :: r
    rw [un_u8 (h z (List.mem_cons_self ..)), un_text fun y hy => h y (List.mem_cons_of_mem _ hy)]
theorem Byt.get {l : List Int} (h : Byt l) {i : Nat} {z : Int} (e : l[i]? = some z) : 0 ≤ z ∧ z ≤ 255 := h z (List.mem_of_getElem? e)
theorem Byt.getD {l : List Int} (h : Byt l) (i : Nat) : 0 ≤ l.getD i 0 ∧ l.getD i 0 ≤ 255 := by
  rw [List.getD_eq_getElem?_getD]
  cases e : l[i]? with
  | none => exact ⟨Int.le_refl 0, (by decide : (0 : Int) ≤ 255)⟩
  | some z => exact h.get e
theorem text_getD {l : List Int} (i : Nat) : (Neutral.text l).getD i 0 = u8 (l.getD i 0) := by
  rw [text_eq, List.getD_eq_getElem?_getD, List.getD_eq_getElem?_getD, List.getElem?_map]
  cases l[i]? <;> rfl
theorem arr_getD {α : Type} (l : List α) (i : Nat) (d : α) : l.toArray.getD i d = l.getD i d := by
  rw [Array.getD_eq_getD_getElem?, List.getD_eq_getElem?_getD]
  simp
theorem shown_bytes (b : CeSheet.Bytes) : Neutral.shown (.bytes b) = (b.length : Int) :: b.map un := rfl
/-! ### the questions -/
def side (n : Int) : Bool := decide (1 ≤ n) && decide (n ≤ 256)
def pts (w h : Int) (l : List Int) : Bool := side w && (side h && decide ((l.length : Int) = w * h))
theorem side_iff {n : Int} : side n = true ↔ 1 ≤ n ∧ n ≤ 256 := by
  unfold side
  rw [Bool.and_eq_true, decide_eq_true_iff, decide_eq_true_iff]
theorem pts_iff {w h : Int} {l : List Int} : pts w h l = true ↔ (1 ≤ w ∧ w ≤ 256) ∧ (1 ≤ h ∧ h ≤ 256) ∧ (l.length : Int) = w * h := by
  unfold pts
  rw [Bool.and_eq_true, Bool.and_eq_true, side_iff, side_iff, decide_eq_true_iff]
theorem size_iff {w h : Nat} : CeSheet.sizeOk w h = true ↔ (1 ≤ w ∧ w ≤ 256) ∧ (1 ≤ h ∧ h ≤ 256) := by
  unfold CeSheet.sizeOk CeSheet.SIDE
  simp only [Bool.and_eq_true, decide_eq_true_iff]
  omega
theorem mul_nat {w h : Int} (hw : 0 ≤ w) (hh : 0 ≤ h) : ((w.toNat * h.toNat : Nat) : Int) = w * h := by
  rw [Int.natCast_mul, Int.toNat_of_nonneg hw, Int.toNat_of_nonneg hh]
theorem pts_iff_spec {w h : Int} {l : List Int} : CeSheetSpec.pointsOk (Neutral.text l) w.toNat h.toNat = true ↔ pts w h l = true := by
  rw [pts_iff]
  unfold CeSheetSpec.pointsOk
  rw [Bool.and_eq_true, size_iff, text_len, beq_iff_eq]
  constructor
  · rintro ⟨⟨h1, h2⟩, h3⟩
    have hw : 0 ≤ w := by omega
    have hh : 0 ≤ h := by omega
    have := mul_nat hw hh
    refine ⟨by omega, by omega, ?_⟩
    rw [← this, h3]
  · rintro ⟨h1, h2, h3⟩
    have hw : 0 ≤ w := by omega
    have hh : 0 ≤ h := by omega
    have := mul_nat hw hh
    refine ⟨⟨by omega, by omega⟩, ?_⟩
    omega
theorem pts_spec {w h : Int} {l : List Int} : CeSheetSpec.pointsOk (Neutral.text l) w.toNat h.toNat = pts w h l := by
  cases e : pts w h l with
  | true => exact pts_iff_spec.mpr e
  | false =>
    cases e2 : CeSheetSpec.pointsOk (Neutral.text l) w.toNat h.toNat with
    | false => rfl
    | true =>
      rw [pts_iff_spec.mp e2] at e
      cases e
/-! ### over -/
def overL (up low : List Int) : List Int := List.zipWith (fun a b => if a = 0 then b else a) up low
theorem over_un : ∀ {up low : List Int}, Byt up → Byt low → (CeSheet.over (Neutral.text up) (Neutral.text low)).map un = overL up low
  | [], _, _, _ => rfl
  | _ :: _, [], _, _ => rfl
  | a :: r, b :: s, h1, h2 => by
    show un (CeSheet.overPaint (u8 a) (u8 b)) :: (CeSheet.over (Neutral.text r) (Neutral.text s)).map un = (if a = 0 then b else a) :: overL r s
    rw [over_un (fun y hy => h1 y (List.mem_cons_of_mem _ hy)) fun y hy => h2 y (List.mem_cons_of_mem _ hy)]
    have ha := h1 a (List.mem_cons_self ..)
    have hb := h2 b (List.mem_cons_self ..)
    unfold CeSheet.overPaint
    by_cases c : a = 0
    · rw [if_pos c, if_pos ((u8_zero ha).mpr c), un_u8 hb]
    · rw [if_neg c, if_neg (fun e => c ((u8_zero ha).mp e)), un_u8 ha]
def over (w h : Int) (up low : List Int) : List Int := if (pts w h up && pts w h low) = true then ((overL up low).length : Int) :: overL up low else [-1]
theorem over_is {w h : Int} {up low : List Int} (h1 : Byt up) (h2 : Byt low) : PyWqasbp.over w h up low = over w h up low := by
  show Neutral.shown (if CeSheetSpec.pointsOk (Neutral.text up) w.toNat h.toNat = true ∧ CeSheetSpec.pointsOk (Neutral.text low) w.toNat h.toNat = true then .bytes (CeSheet.over (Neutral.text up) (Neutral.text low)) else CeSheetSpec.no 1) = _
  unfold over
  rw [pts_spec, pts_spec]
  by_cases c : (pts w h up && pts w h low) = true
  · rw [if_pos c, if_pos (Bool.and_eq_true_iff.mp c), shown_bytes, over_un h1 h2]
    have e := congrArg List.length (over_un h1 h2)
    rw [List.length_map] at e
    rw [e]
  · rw [if_neg c, if_neg (fun q => c (Bool.and_eq_true_iff.mpr q))]
    rfl
/-! ### repaint -/
def repaintL (table a : List Int) : List Int := a.map fun p => if p = 0 then 0 else table.getD p.toNat 0
theorem repaint_un {table : List Int} (ht : Byt table) : ∀ {a : List Int}, Byt a → (CeSheet.repainted (Neutral.text table) (Neutral.text a)).map un = repaintL table a
  | [], _ => rfl
  | p :: r, h => by
    show un (if u8 p = 0 then 0 else (Neutral.text table).toArray.getD (u8 p).toNat 0) :: (CeSheet.repainted (Neutral.text table) (Neutral.text r)).map un = (if p = 0 then 0 else table.getD p.toNat 0) :: repaintL table r
    rw [repaint_un ht fun y hy => h y (List.mem_cons_of_mem _ hy)]
    have hp := h p (List.mem_cons_self ..)
    by_cases c : p = 0
    · rw [if_pos c, if_pos ((u8_zero hp).mpr c)]
      rfl
    · rw [if_neg c, if_neg (fun e => c ((u8_zero hp).mp e)), arr_getD, text_getD, u8_toNat hp, un_u8 (ht.getD _)]
def repaint (w h : Int) (a table : List Int) : List Int := if (pts w h a && decide (table.length = 256)) = true then ((repaintL table a).length : Int) :: repaintL table a else [-1]
theorem repaint_is {w h : Int} {a table : List Int} (h1 : Byt a) (h2 : Byt table) : PyWqasbp.repaint w h a table = repaint w h a table := by
  show Neutral.shown (if CeSheetSpec.pointsOk (Neutral.text a) w.toNat h.toNat = true ∧ (Neutral.text table).length = 256 then .bytes (CeSheet.repainted (Neutral.text table) (Neutral.text a)) else CeSheetSpec.no 1) = _
  unfold repaint
  rw [pts_spec, text_len]
  by_cases c : (pts w h a && decide (table.length = 256)) = true
  · have c' := Bool.and_eq_true_iff.mp c
    rw [if_pos c, if_pos ⟨c'.1, of_decide_eq_true c'.2⟩, shown_bytes, repaint_un h2 h1]
    have e := congrArg List.length (repaint_un h2 h1)
    rw [List.length_map] at e
    rw [e]
  · rw [if_neg c, if_neg (fun q => c (Bool.and_eq_true_iff.mpr ⟨q.1, decide_eq_true q.2⟩))]
    rfl
/-! ### count -/
theorem count_un {p : Int} (hp : 0 ≤ p) : ∀ {a : List Int}, Byt a → CeSheet.countOf (Neutral.text a) p.toNat = a.count p
  | [], _ => rfl
  | z :: r, h => by
    have ih := count_un hp (a := r) fun y hy => h y (List.mem_cons_of_mem _ hy)
    have hz := h z (List.mem_cons_self ..)
    unfold CeSheet.countOf at ih ⊢
    rw [text_eq] at ih ⊢
    rw [List.map_cons, List.countP_cons, ih, List.count_cons]
    have e : ((u8 z).toNat == p.toNat) = (z == p) := by
      rw [u8_toNat hz]
      by_cases c : z = p
      · subst c
        simp
      · have : ¬ z.toNat = p.toNat := by omega
        rw [beq_false_of_ne c, beq_false_of_ne this]
    rw [e]
def count (w h p : Int) (a : List Int) : List Int := if (pts w h a && decide (p ≤ 255)) = true then [((a.count p : Nat) : Int)] else [-1]
theorem count_is {w h p : Int} {a : List Int} (hp : 0 ≤ p) (h1 : Byt a) : PyWqasbp.count w h p a = count w h p a := by
  show Neutral.shown (if CeSheetSpec.pointsOk (Neutral.text a) w.toNat h.toNat = true ∧ p.toNat ≤ 255 then .nums [CeSheet.countOf (Neutral.text a) p.toNat] else CeSheetSpec.no 1) = _
  unfold count
  rw [pts_spec, count_un hp h1]
  by_cases c : (pts w h a && decide (p ≤ 255)) = true
  · have c' := Bool.and_eq_true_iff.mp c
    have c2 := of_decide_eq_true c'.2
    rw [if_pos c, if_pos ⟨c'.1, by omega⟩]
    rfl
  · rw [if_neg c, if_neg (fun q => c (Bool.and_eq_true_iff.mpr ⟨q.1, decide_eq_true (by omega)⟩))]
    rfl
end Pm
namespace Pm
/-! ### differ -/
/-- the first place at which two lists differ -/
def unlike : List Int → List Int → Nat → Option Nat
  | x :: r, y :: s, i => if x = y then unlike r s (i + 1) else some i
  | _, _, _ => none
theorem unlike_cons (x y : Int) (r s : List Int) (i : Nat) : unlike (x :: r) (y :: s) i = if x = y then unlike r s (i + 1) else some i := by rw [unlike]
theorem unlike_from : ∀ (a b : List Int) (i : Nat), unlike a b i = (unlike a b 0).map (· + i)
  | [], _, i => by simp [unlike]
  | _ :: _, [], i => by simp [unlike]
  | x :: r, y :: s, i => by
    unfold unlike
    by_cases c : x = y
    · rw [if_pos c, if_pos c, unlike_from r s (i + 1), unlike_from r s (0 + 1), Option.map_map]
      congr 1
      funext k
      show k + (i + 1) = k + (0 + 1) + i
      omega
    · rw [if_neg c, if_neg c]
      simp
theorem unlike_spec : ∀ {a b : List Int}, Byt a → Byt b → CeSheet.firstDiffer (Neutral.text a) (Neutral.text b) = unlike a b 0
  | [], b, _, _ => by
    unfold unlike
    rfl
  | _ :: _, [], _, _ => by
    unfold unlike
    rfl
  | x :: r, y :: s, h1, h2 => by
    have ih := unlike_spec (a := r) (b := s) (fun z hz => h1 z (List.mem_cons_of_mem _ hz)) fun z hz => h2 z (List.mem_cons_of_mem _ hz)
    have hx := h1 x (List.mem_cons_self ..)
    have hy := h2 y (List.mem_cons_self ..)
    unfold CeSheet.firstDiffer at ih ⊢
    show ((u8 x, u8 y) :: (Neutral.text r).zip (Neutral.text s)).findIdx? (fun x => x.1 != x.2) = _
    rw [List.findIdx?_cons, ih]
    rw [unlike_cons]
    by_cases c : x = y
    · have e : (u8 x != u8 y) = false := by
        rw [(u8_inj hx hy).mpr c]
        simp
      rw [if_pos c, unlike_from r s (0 + 1)]
      simp only [e]
      rfl
    · have e : (u8 x != u8 y) = true := by
        rw [bne_iff_ne]
        exact fun q => c ((u8_inj hx hy).mp q)
      rw [if_neg c]
      simp only [e]
      rfl
def differ (w h : Int) (a b : List Int) : List Int := if (pts w h a && pts w h b) = true then (match unlike a b 0 with
  | some i => [((i : Nat) : Int)]
  | none => [-3]) else [-1]
theorem differ_is {w h : Int} {a b : List Int} (h1 : Byt a) (h2 : Byt b) : PyWqasbp.differ w h a b = differ w h a b := by
  show Neutral.shown (if CeSheetSpec.pointsOk (Neutral.text a) w.toNat h.toNat = true ∧ CeSheetSpec.pointsOk (Neutral.text b) w.toNat h.toNat = true then (match CeSheet.firstDiffer (Neutral.text a) (Neutral.text b) with
    | some i => .nums [i]
    | none => CeSheetSpec.no 3) else CeSheetSpec.no 1) = _
  unfold differ
  rw [pts_spec, pts_spec, unlike_spec h1 h2]
  by_cases c : (pts w h a && pts w h b) = true
  · rw [if_pos c, if_pos (Bool.and_eq_true_iff.mp c)]
    cases unlike a b 0 <;> rfl
  · rw [if_neg c, if_neg (fun q => c (Bool.and_eq_true_iff.mpr q))]
    rfl
/-- what the loop knows: alike so far -/
theorem unlike_at : ∀ {a b : List Int} {i : Nat} {x y : Int}, (∀ j, j < i → a[j]? = b[j]?) → a[i]? = some x → b[i]? = some y → x ≠ y → unlike a b 0 = some i
  | [], _, _, _, _, _, h, _, _ => by simp at h
  | _ :: _, [], _, _, _, _, _, h, _ => by simp at h
  | p :: r, q :: s, 0, x, y, _, h1, h2, hn => by
    have e1 : p = x := Option.some.inj h1
    have e2 : q = y := Option.some.inj h2
    unfold unlike
    rw [if_neg (by rw [e1, e2]; exact hn)]
  | p :: r, q :: s, i + 1, x, y, ha, h1, h2, hn => by
    have e : p = q := Option.some.inj (ha 0 (by omega))
    unfold unlike
    rw [if_pos e, unlike_from, unlike_at (a := r) (b := s) (i := i) (fun j hj => ha (j + 1) (by omega)) h1 h2 hn]
    rfl
theorem unlike_none : ∀ {a b : List Int}, (∀ j : Nat, j < a.length → a[j]? = b[j]?) → unlike a b 0 = none
  | [], _, _ => by simp [unlike]
  | _ :: _, [], _ => by simp [unlike]
  | p :: r, q :: s, ha => by
    have e : p = q := Option.some.inj (ha 0 (by simp))
    unfold unlike
    rw [if_pos e, unlike_from, unlike_none (a := r) (b := s) fun j hj => ha (j + 1) (by simpa using hj)]
    rfl
/-! ### films -/
def Nn (l : List Int) : Prop := ∀ z, z ∈ l → 0 ≤ z
def film (w h : Int) (l : List Int) : Bool := side w && (side h && (decide ((l.length : Int) = 3 * w * h) && l.all fun n => decide (n ≤ 65535)))
theorem film_iff {w h : Int} {l : List Int} : film w h l = true ↔ (1 ≤ w ∧ w ≤ 256) ∧ (1 ≤ h ∧ h ≤ 256) ∧ (l.length : Int) = 3 * w * h ∧ ∀ z, z ∈ l → z ≤ 65535 := by
  unfold film
  simp only [Bool.and_eq_true, side_iff, decide_eq_true_iff, List.all_eq_true]
theorem nats_all : ∀ {l : List Int}, Nn l → ((Neutral.nats l).all fun n => decide (n ≤ CeSheet.FULL)) = l.all fun n => decide (n ≤ 65535)
  | [], _ => rfl
  | z :: r, h => by
    show (decide (z.toNat ≤ CeSheet.FULL) && (Neutral.nats r).all fun n => decide (n ≤ CeSheet.FULL)) = (decide (z ≤ 65535) && r.all fun n => decide (n ≤ 65535))
    rw [nats_all fun y hy => h y (List.mem_cons_of_mem _ hy)]
    have hz := h z (List.mem_cons_self ..)
    have e : decide (z.toNat ≤ CeSheet.FULL) = decide (z ≤ 65535) := by
      unfold CeSheet.FULL
      by_cases c : z ≤ 65535
      · rw [decide_eq_true c, decide_eq_true (by omega)]
      · rw [decide_eq_false c, decide_eq_false (by omega)]
    rw [e]
theorem film_iff_spec {w h : Int} {l : List Int} (hl : Nn l) : CeSheetSpec.filmOk (Neutral.nats l) w.toNat h.toNat = true ↔ film w h l = true := by
  unfold CeSheetSpec.filmOk film
  have el : (Neutral.nats l).length = l.length := by
    show (l.map Int.toNat).length = l.length
    rw [List.length_map]
  rw [nats_all hl, el]
  simp only [Bool.and_eq_true, size_iff, side_iff, beq_iff_eq, decide_eq_true_iff]
  constructor
  · rintro ⟨⟨h1, h2⟩, h3, h4⟩
    have hw : 0 ≤ w := by omega
    have hh : 0 ≤ h := by omega
    have := mul_nat hw hh
    refine ⟨by omega, by omega, ?_, h4⟩
    rw [Int.mul_assoc, ← this, h3, Int.natCast_mul]
    rfl
  · rintro ⟨h1, h2, h3, h4⟩
    have hw : 0 ≤ w := by omega
    have hh : 0 ≤ h := by omega
    have := mul_nat hw hh
    refine ⟨⟨by omega, by omega⟩, ?_, h4⟩
    rw [Int.mul_assoc] at h3
    omega
theorem film_spec {w h : Int} {l : List Int} (hl : Nn l) : CeSheetSpec.filmOk (Neutral.nats l) w.toNat h.toNat = film w h l := by
  cases e : film w h l with
  | true => exact (film_iff_spec hl).mpr e
  | false =>
    cases e2 : CeSheetSpec.filmOk (Neutral.nats l) w.toNat h.toNat with
    | false => rfl
    | true =>
      rw [(film_iff_spec hl).mp e2] at e
      cases e
/-! ### develop -/
def dev (n : Int) : Int := if (n + 32) / 64 < 255 then (n + 32) / 64 else 255
def developL (f : List Int) : List Int := f.map dev
theorem develop_un : ∀ {f : List Int}, Nn f → (CeSheet.developed (Neutral.nats f)).map un = developL f
  | [], _ => rfl
  | n :: r, h => by
    show un (UInt8.ofNat (min 255 ((n.toNat + 32) / 64))) :: (CeSheet.developed (Neutral.nats r)).map un = dev n :: developL r
    rw [develop_un fun y hy => h y (List.mem_cons_of_mem _ hy)]
    have hn := h n (List.mem_cons_self ..)
    have e : un (UInt8.ofNat (min 255 ((n.toNat + 32) / 64))) = dev n := by
      unfold un dev
      rw [UInt8.toNat_ofNat']
      have z : min 255 ((n.toNat + 32) / 64) % 2 ^ 8 = min 255 ((n.toNat + 32) / 64) := Nat.mod_eq_of_lt (by omega)
      rw [z]
      by_cases c : (n + 32) / 64 < 255
      · rw [if_pos c]
        omega
      · rw [if_neg c]
        omega
    rw [e]
def develop (w h : Int) (f : List Int) : List Int := if film w h f = true then ((developL f).length : Int) :: developL f else [-1]
theorem develop_is {w h : Int} {f : List Int} (h1 : Nn f) : PyWqasbp.develop w h f = develop w h f := by
  show Neutral.shown (if CeSheetSpec.filmOk (Neutral.nats f) w.toNat h.toNat = true then .bytes (CeSheet.developed (Neutral.nats f)) else CeSheetSpec.no 1) = _
  unfold develop
  rw [film_spec h1]
  by_cases c : film w h f = true
  · rw [if_pos c, if_pos c, shown_bytes, develop_un h1]
    have e := congrArg List.length (develop_un h1)
    rw [List.length_map] at e
    rw [e]
  · rw [if_neg c, if_neg c]
    rfl
/-! ### rows of rows -/
theorem grid {α : Type} (n : Nat) (g : Nat → Nat → α) : ∀ m : Nat, (List.range (m * n)).map (fun i => g (i / n) (i % n)) = (List.range m).flatMap fun c => (List.range n).map (g c)
  | 0 => by simp
  | m + 1 => by
    rw [Nat.succ_mul, List.range_add, List.map_append, grid n g m, List.range_succ, List.flatMap_append]
    congr 1
    rw [List.map_map, List.flatMap_singleton]
    refine List.map_congr_left fun x hx => ?_
    have hx' : x < n := List.mem_range.mp hx
    show g ((m * n + x) / n) ((m * n + x) % n) = g m x
    rw [Nat.mul_comm m n, Nat.mul_add_div (by omega), Nat.mul_add_mod, Nat.div_eq_of_lt hx', Nat.mod_eq_of_lt hx', Nat.add_zero]
/-! ### expose -/
def lightAt (model : List Int) (paint : Int) (c : Nat) : Int := model.getD (3 * paint + (c : Int)).toNat 0
def grow (n e l : Int) : Int := if n + e * l < 65535 then n + e * l else 65535
def exposeRow (film a model : List Int) (e : Int) (c : Nat) : List Int := (List.range a.length).map fun i => grow (film.getD (c * a.length + i) 0) e (lightAt model (a.getD i 0) c)
def exposeL (film a model : List Int) (e : Int) : List Int := (List.range 3).flatMap fun c => exposeRow film a model e c
theorem nats_getD (l : List Int) (i : Nat) : (Neutral.nats l).getD i 0 = (l.getD i 0).toNat := by
  show (l.map Int.toNat).getD i 0 = _
  rw [List.getD_eq_getElem?_getD, List.getD_eq_getElem?_getD, List.getElem?_map]
  cases l[i]? <;> rfl
theorem Nn.getD {l : List Int} (h : Nn l) (i : Nat) : 0 ≤ l.getD i 0 := by
  rw [List.getD_eq_getElem?_getD]
  cases e : l[i]? with
  | none => exact Int.le_refl 0
  | some z => exact h z (List.mem_of_getElem? e)
theorem expose_un {film a model : List Int} {e : Int} (he : 0 ≤ e) (hf : Nn film) (ha : Byt a) (hm : Byt model) :
    (CeSheet.exposed (Neutral.text model) (Neutral.text a) e.toNat (Neutral.nats film)).map (fun (n : Nat) => (n : Int)) = exposeL film a model e := by
  unfold CeSheet.exposed exposeL
  rw [text_len]
  have g := grid a.length (fun c i => grow (film.getD (c * a.length + i) 0) e (lightAt model (a.getD i 0) c)) 3
  show ((List.range (3 * a.length)).map _).map _ = _
  unfold exposeRow
  rw [← g, List.map_map]
  refine List.map_congr_left fun i hi => ?_
  have hi' : i < 3 * a.length := List.mem_range.mp hi
  have dm : i / a.length * a.length + i % a.length = i := by
    have := Nat.div_add_mod i a.length
    rw [Nat.mul_comm] at this
    exact this
  show ((CeSheet.grown ((Neutral.nats film).toArray.getD i 0) e.toNat ((Neutral.text model).toArray.getD (3 * ((Neutral.text a).toArray.getD (i % a.length) 0).toNat + i / a.length) 0).toNat : Nat) : Int) = _
  rw [arr_getD, arr_getD, arr_getD, nats_getD, text_getD, text_getD, u8_toNat (ha.getD _), u8_toNat (hm.getD _)]
  show _ = grow (film.getD (i / a.length * a.length + i % a.length) 0) e (lightAt model (a.getD (i % a.length) 0) (i / a.length))
  rw [dm]
  unfold lightAt
  have hp := ha.getD (i % a.length)
  generalize a.getD (i % a.length) 0 = p at hp
  generalize i / a.length = k
  have ep : (3 * p + (k : Int)).toNat = 3 * p.toNat + k := by omega
  rw [ep]
  have hl := hm.getD (3 * p.toNat + k)
  have hn := hf.getD i
  generalize model.getD (3 * p.toNat + k) 0 = l at hl
  generalize film.getD i 0 = n at hn
  unfold CeSheet.grown CeSheet.FULL grow
  have em : ((e.toNat * l.toNat : Nat) : Int) = e * l := mul_nat he hl.1
  generalize e.toNat * l.toNat = q at em
  rw [← em]
  by_cases c : n + (q : Int) < 65535
  · rw [if_pos c]
    omega
  · rw [if_neg c]
    omega
def expose (w h e : Int) (fl a model : List Int) : List Int := if (pts w h a && (film w h fl && (decide (model.length = 768) && decide (e ≤ 64)))) = true then exposeL fl a model e else [-1]
theorem expose_is {w h e : Int} {fl a model : List Int} (he : 0 ≤ e) (hf : Nn fl) (ha : Byt a) (hm : Byt model) : PyWqasbp.expose w h e fl a model = expose w h e fl a model := by
  show Neutral.shown (if CeSheetSpec.filmOk (Neutral.nats fl) w.toNat h.toNat = true ∧ CeSheetSpec.pointsOk (Neutral.text a) w.toNat h.toNat = true ∧ (Neutral.text model).length = 768 ∧ e.toNat ≤ 64 then
    .nums (CeSheet.exposed (Neutral.text model) (Neutral.text a) e.toNat (Neutral.nats fl)) else CeSheetSpec.no 1) = _
  unfold expose
  rw [pts_spec, film_spec hf, text_len]
  simp only [Bool.and_eq_true, decide_eq_true_iff]
  by_cases c : pts w h a = true ∧ film w h fl = true ∧ model.length = 768 ∧ e ≤ 64
  · rw [if_pos c, if_pos ⟨c.2.1, c.1, c.2.2.1, by omega⟩]
    exact expose_un he hf ha hm
  · rw [if_neg c, if_neg (fun q => c ⟨q.2.1, q.1, q.2.2.1, by omega⟩)]
    rfl
/-! ### move -/
def paintAt (w h : Int) (a : List Int) (x y : Int) : Int := if x < 0 ∨ x ≥ w ∨ y < 0 ∨ y ≥ h then 0 else a.getD (y * w + x).toNat 0
def moveRow (w h dx dy : Int) (a : List Int) (y : Nat) : List Int := (List.range w.toNat).map fun (x : Nat) => paintAt w h a ((x : Int) - dx) ((y : Int) - dy)
def moveL (w h dx dy : Int) (a : List Int) : List Int := (List.range h.toNat).flatMap fun y => moveRow w h dx dy a y
theorem move_un {w h dx dy : Int} {a : List Int} (hw : 0 ≤ w) (hh : 0 ≤ h) (ha : Byt a) : (CeSheet.Sheet.moved ⟨w.toNat, h.toNat, Neutral.text a⟩ dx dy).map un = moveL w h dx dy a := by
  unfold CeSheet.Sheet.moved moveL
  have g := grid w.toNat (fun (y x : Nat) => paintAt w h a ((x : Int) - dx) ((y : Int) - dy)) h.toNat
  unfold moveRow
  rw [← g, Nat.mul_comm h.toNat w.toNat]
  show ((List.range (w.toNat * h.toNat)).map _).map un = _
  rw [List.map_map]
  refine List.map_congr_left fun i hi => ?_
  show un (if 0 ≤ ((i % w.toNat : Nat) : Int) - dx ∧ ((i % w.toNat : Nat) : Int) - dx < (w.toNat : Int) ∧ 0 ≤ ((i / w.toNat : Nat) : Int) - dy ∧ ((i / w.toNat : Nat) : Int) - dy < (h.toNat : Int) then
    (Neutral.text a).toArray.getD ((((i / w.toNat : Nat) : Int) - dy).toNat * w.toNat + (((i % w.toNat : Nat) : Int) - dx).toNat) 0 else 0) = paintAt w h a (((i % w.toNat : Nat) : Int) - dx) (((i / w.toNat : Nat) : Int) - dy)
  generalize ((i % w.toNat : Nat) : Int) - dx = x
  generalize ((i / w.toNat : Nat) : Int) - dy = y
  unfold paintAt
  rw [Int.toNat_of_nonneg hw, Int.toNat_of_nonneg hh]
  by_cases c : x < 0 ∨ x ≥ w ∨ y < 0 ∨ y ≥ h
  · rw [if_pos c, if_neg (by omega)]
    rfl
  · rw [if_neg c, if_pos (by omega), arr_getD, text_getD, un_u8 (ha.getD _)]
    have e := mul_nat (w := y) (h := w) (by omega) hw
    congr 1
    omega
def move (w h dx dy : Int) (a : List Int) : List Int := if pts w h a = true then ((moveL w h dx dy a).length : Int) :: moveL w h dx dy a else [-1]
theorem move_is {w h dx dy : Int} {a : List Int} (h1 : Byt a) : PyWqasbp.move w h dx dy a = move w h dx dy a := by
  show Neutral.shown (if CeSheetSpec.pointsOk (Neutral.text a) w.toNat h.toNat = true then .bytes (CeSheet.Sheet.moved ⟨w.toNat, h.toNat, Neutral.text a⟩ dx dy) else CeSheetSpec.no 1) = _
  unfold move
  rw [pts_spec]
  by_cases c : pts w h a = true
  · have q := pts_iff.mp c
    have m := move_un (dx := dx) (dy := dy) (w := w) (h := h) (by omega) (by omega) h1
    rw [if_pos c, if_pos c, shown_bytes, m]
    have e := congrArg List.length m
    rw [List.length_map] at e
    rw [e]
  · rw [if_neg c, if_neg c]
    rfl
end Pm
namespace Wk
open PySem PySem.Spec PyProof.Rows L2
/-! ### the text: the i-th statement of the top -/
def topS (i : Nat) : Stmt := PySem.Challenge.pw_paintsheets_s12_develop.main.body.getD i (.Pass ⟨0, 0, 0, 0⟩)
abbrev sSide : Stmt := topS 9
theorem scSide : FnScope ["number"] ["number"] (defScope sSide) := ⟨rfl, rfl, rfl, by decide +kernel, rfl, by decide +kernel, by decide +kernel⟩
/-! ### small words -/
theorem same_upd {H : Hp} {p : Addr} {o : HO} (h : H p = none) : Same H (upd H p o) := fun b x e => by
  rw [upd_ne (ne_of_none e h)]
  exact e
theorem line_le {n m : Nat} (h : n ≤ m) (hm : m ≤ 16777216 := by decide) : n ≤ sizeLine := by
  rw [sizeLine_eq]
  omega
theorem line_lt {n m : Nat} (h : n ≤ m) (hm : m < 16777216 := by decide) : n < sizeLine := by
  rw [sizeLine_eq]
  omega
theorem int_at {ns : List Int} {i : Nat} {y : V} (h : (ns.map V.int)[i]? = some y) : ∃ z, ns[i]? = some z ∧ y = .int z := by
  rw [List.getElem?_map] at h
  cases e : ns[i]? with
  | none =>
    rw [e] at h
    cases h
  | some z =>
    rw [e] at h
    exact ⟨z, rfl, (Option.some.inj h).symm⟩
theorem at_int {ns : List Int} {i : Nat} {z : Int} (h : ns[i]? = some z) : (ns.map V.int)[i]? = some (.int z) := by
  rw [List.getElem?_map, h]
  rfl
theorem take_more {α : Type} {l : List α} {i : Nat} {x : α} (h : l[i]? = some x) : l.take (i + 1) = l.take i ++ [x] := by
  rw [List.take_add_one, h]
  rfl
theorem some_eq {l : List Int} {i : Nat} {z : Int} (h : l[i]? = some z) : l.getD i 0 = z := by
  rw [List.getD_eq_getElem?_getD, h]
  rfl
theorem eq_int {i j : Int} : decide (V.int i = V.int j) = decide (i = j) := by
  by_cases c : i = j
  · subst c
    simp
  · rw [decide_eq_false c, decide_eq_false (fun q => c (V.int.inj q))]
section
variable {P : Program} {w : World} {K : PySem.W.Frag} {mg : Str → Option Value} {base : Heap}
/-! ### is_side -/
def spSide : Sp := fun vs H Q _ => ∃ n : Int, vs = [.int n] ∧ Q (.bl (Pm.side n)) H
theorem ok_side {f : Addr} {fd : FuncData} {t : Tok} (F : Fun K "is_side" "is_side" sSide f fd) (mM : mg "MOST_SIDE" = some (.int 256 t)) : FnOk P w K mg base CX0 1 f fd ["number"] spSide := by
  refine F.ok scSide (fun vs H Q E h => ?_) (fun cdv A outer s H vs Q E hr h => ?_)
  · obtain ⟨n, rfl, _⟩ := h
    rfl
  · obtain ⟨n, rfl, q⟩ := h
    refine ⟨_, pss_one (ps_ret (pe_and (pe_cmpR op_le pe_int (pv 0) (nomark _)) (pe_one (pe_cmpR op_le (pv 0) (pe_glob (v := .int 256) (by rfl) mM ⟨_, rfl⟩) (nomark _))))), ?_⟩
    refine ⟨_, rfl, _, _, rfl, rfl, _, rfl, ite2 (fun c => ?_) (fun c => ?_)⟩
    · refine ⟨_, rfl, _, _, rfl, rfl, ?_⟩
      have e : Pm.side n = decide (n ≤ 256) := by
        unfold Pm.side
        rw [c, Bool.true_and]
      rw [e] at q
      exact q
    · have e : Pm.side n = false := by
        unfold Pm.side
        rw [Bool.eq_false_iff.mpr c, Bool.false_and]
      rw [e] at q
      exact q
end
end Wk
namespace Wk
open PySem PySem.Spec PyProof.Rows L2
abbrev sCtd : Stmt := topS 12
theorem scCtd : FnScope ["row"] ["row"] (defScope sCtd) := ⟨rfl, rfl, rfl, by decide +kernel, rfl, by decide +kernel, by decide +kernel⟩
section
variable {P : Program} {w : World} {K : PySem.W.Frag} {mg : Str → Option Value} {base : Heap}
/-! ### counted -/
def spCtd : Sp := fun vs H Q _ => ∃ (a : Addr) (xs : List V), vs = [.ref a] ∧ H a = some (.lst xs) ∧ xs.length ≤ 1000000 ∧ ∀ (H' : Hp) (p : Addr), H' p = some (.lst (V.int (xs.length : Nat) :: xs)) → Q (.ref p) H'
theorem ok_ctd {f : Addr} {fd : FuncData} (F : Fun K "counted" "counted" sCtd f fd) (mL : mg "len" = none) : FnOk P w K mg base CX0 1 f fd ["row"] spCtd := by
  refine F.ok scCtd (fun vs H Q E h => ?_) (fun cdv A outer s H vs Q E hr h => ?_)
  · obtain ⟨a, xs, rfl, _⟩ := h
    rfl
  · obtain ⟨a, xs, rfl, ha, hl, q⟩ := h
    refine ⟨_, pss_one (ps_ret (pe_op op_cat (pe_lst (pa_cons (pe_callB call_len_seq (by rfl) mL PySem.boot_len (pa_cons (pv 0) pa_nil)) pa_nil)) (pv 0))), ?_⟩
    refine ⟨_, rfl, a, xs, rfl, .inl (SqL.of ha), line_le (m := 1) (by simp), fun l nl => ⟨_, rfl, l, a, _, xs, rfl, rfl, upd_same, (upd_ne (ne_of_none ha nl)).trans ha, line_le (m := 1000001) (by simp only [List.length_cons, List.length_nil]; omega), fun p np => ?_⟩⟩
    exact q _ p upd_same
end
end Wk
namespace Wk
open PySem PySem.Spec PyProof.Rows L2
theorem getD_at {l : List Int} {i : Nat} (h : i < l.length) : l[i]? = some (l.getD i 0) := by
  rw [List.getD_eq_getElem?_getD, List.getElem?_eq_getElem h]
  rfl
theorem step_take {l : List Int} {i : Nat} {y : Int} (h : l[i]? = some y) : (l.take i).map V.int ++ [V.int y] = (l.take (i + 1)).map V.int := by
  rw [take_more h, List.map_append]
  rfl
theorem step_takeB {l : List Bool} {i : Nat} {y : Bool} (h : l[i]? = some y) : (l.take i).map V.bl ++ [V.bl y] = (l.take (i + 1)).map V.bl := by
  rw [take_more h, List.map_append]
  rfl
/-- a list D made behind H grows: what was tracked in H stands -/
theorem same_grow {H H' : Hp} {D : Addr} {o : HO} (s : Same H H') (n : H D = none) : Same H (upd H' D o) := fun b x e => by
  rw [upd_ne (ne_of_none e n)]
  exact s b x e
theorem take_len {l : List Int} {i m : Nat} (h : l.length ≤ m) : ((l.take i).map V.int).length ≤ m := by
  rw [List.length_map, List.length_take]
  omega
theorem lt_len {l : List Int} {i : Nat} {z : Int} (h : l[i]? = some z) : i < l.length := (List.getElem?_eq_some_iff.mp h).1
theorem yes_of {σ : L2.St} {H : Hp} {A B : Hp → Prop} (h : A H) : tYes σ H (fun b H3 => if b = true then A H3 else B H3) := by
  show (if true = true then A H else B H)
  rw [if_pos rfl]
  exact h
end Wk
namespace Wk
open PySem PySem.Spec PyProof.Rows L2
abbrev sFilm : Stmt := topS 13
theorem scFilm : FnScope ["w", "h", "film", "number"] ["w", "h", "film"] (defScope sFilm) := ⟨rfl, rfl, rfl, by decide +kernel, rfl, by decide +kernel, by decide +kernel⟩
section
variable {P : Program} {w : World} {K : PySem.W.Frag} {mg : Str → Option Value} {base : Heap}
/-! ### is_film -/
def spFilm (K : PySem.W.Frag) : Sp := fun vs H Q _ => ∃ (w h : Int) (a : Addr) (l : List Int), vs = [.int w, .int h, .ref a] ∧ SqL K H a (l.map V.int) ∧ l.length ≤ 100000 ∧ ∀ H' : Hp, Same H H' → Q (.bl (Pm.film w h l)) H'
theorem ok_film {f fI : Addr} {fd fdI : FuncData} {t1 t2 : Tok} (F : Fun K "is_film" "is_film" sFilm f fd) (GI : FnOk P w K mg base CX0 1 fI fdI ["number"] spSide) (gI : mg "is_side" = some (.ref fI)) (kI : PySem.W.keepIn K (.ref fI) = true) (bI : Binds K fdI ["number"] []) (mL : mg "len" = none)
    (mA : mg "all" = none) (mC : mg "COLOURS" = some (.int 3 t1)) (mM : mg "MOST_LIGHT" = some (.int 65535 t2)) : FnOk P w K mg base CX0 2 f fd ["w", "h", "film"] (spFilm K) := by
  refine F.ok scFilm (fun vs H Q E h => ?_) (fun cdv A outer s H vs Q E hr h => ?_)
  · obtain ⟨w, h, a, l, rfl, _⟩ := h
    rfl
  · obtain ⟨w, h, a, l, rfl, hS, hl, q⟩ := h
    refine ⟨_, pss_cons (ps_if (PW.pt (pw_or (pt_not (pt_val (pe_call GI hr (by rfl) gI kI bI .nil pass0 (pa_cons (pv 0) pa_nil)))) (pw_or (pt_not (pt_val (pe_call GI hr (by rfl) gI kI bI .nil pass0 (pa_cons (pv 1) pa_nil))))
          (pw_or1 (pt_cmpR op_ne (pe_callB call_len_seq (by rfl) mL PySem.boot_len (pa_cons (pv 2) pa_nil)) (pe_op op_mul (pe_op op_mul (pe_glob (v := .int 3) (by rfl) mC ⟨_, rfl⟩) (pv 0)) (pv 1)) (nomark _))))))
        (pss_one (ps_ret pe_bl)) pss_nil)
      (pss_one (ps_ret (pe_callB (cr_all rfl) (by rfl) mA (by decide +kernel) (pa_cons (pe_lc (own := [("number", 3)]) (g := gName 3) (by rfl) scFilm.nd (pi_list (pv 2))
        (blkOk_by (own := [("number", 3)]) (N := ["w", "h", "film", "number"]) (sc := defScope sFilm) (by decide +kernel))
        (fun _ _ _ _ _ => pg_name (i := 3) scFilm.nd rfl (Or.inl rfl)) (fun _ _ _ _ _ => pts_nil)
        (fun _ _ _ _ _ => pe_cmpR op_le (pv 3) (pe_glob (v := .int 65535) (by rfl) mM ⟨_, rfl⟩) (nomark _))) pa_nil)))), ?_⟩
    have e0 : Pm.film w h l = (Pm.side w && (Pm.side h && (decide ((l.length : Int) = 3 * w * h) && l.all fun n => decide (n ≤ 65535)))) := rfl
    have q0 := q H (Same.refl H)
    refine ⟨_, rfl, w, rfl, _, rfl, ite2 (fun c1 => ?_) (fun c1 => ?_)⟩
    · rw [Bool.not_eq_true'] at c1
      rw [c1, Bool.false_and] at e0
      rw [e0] at q0
      exact iteT q0
    · rw [Bool.not_eq_true', Bool.not_eq_false] at c1
      rw [c1, Bool.true_and] at e0
      refine ⟨_, rfl, h, rfl, _, rfl, ite2 (fun c2 => ?_) (fun c2 => ?_)⟩
      · rw [Bool.not_eq_true'] at c2
        rw [c2, Bool.false_and] at e0
        rw [e0] at q0
        exact iteT q0
      · rw [Bool.not_eq_true', Bool.not_eq_false] at c2
        rw [c2, Bool.true_and] at e0
        have b1 := Pm.side_iff.mp c1
        have b2 := Pm.side_iff.mp c2
        refine ⟨_, rfl, a, _, rfl, .inl hS, _, rfl, _, _, rfl, rfl, .inl ⟨by decide, by decide⟩, _, rfl, _, _, rfl, rfl, .inl ⟨by omega, by omega⟩, rfl, _, rfl, ite2 (fun c3 => ?_) (fun c3 => ?_)⟩
        · rw [eq_int, List.length_map, Bool.not_eq_true'] at c3
          rw [c3, Bool.false_and] at e0
          rw [e0] at q0
          exact q0
        · rw [eq_int, List.length_map, Bool.not_eq_true', Bool.not_eq_false] at c3
          rw [c3, Bool.true_and] at e0
          refine ⟨_, rfl, a, rfl, ⟨_, hS⟩, fun D nD => lc_it (walk_list (K := K) (a := a) (xs := l.map V.int))
            (fun i H' => Same H H' ∧ H' D = some (.lst (((l.map fun n => decide (n ≤ 65535)).take i).map V.bl))) ⟨same_upd nD, upd_same⟩ (fun i H' _ hh => hh.1.seq hS) ?_ ?_⟩
          · rintro i x H1 H2 hi ⟨sm, hD⟩ ⟨rfl, g1⟩
            obtain ⟨z, h1, rfl⟩ := int_at g1
            have st : (l.map fun n => decide (n ≤ 65535))[i]? = some (decide (z ≤ 65535)) := by
              rw [List.getElem?_map, h1]
              rfl
            refine ⟨rfl, yes_of ⟨_, rfl, _, _, rfl, rfl, _, hD, line_lt (m := 100000) ?_, same_grow sm nD, by rw [upd_same, step_takeB st]⟩⟩
            rw [List.length_map, List.length_take, List.length_map]
            omega
          · rintro H1 ⟨sm, hD⟩
            rw [List.length_map, List.take_of_length_le (by rw [List.length_map]; exact Nat.le_refl _)] at hD
            refine ⟨D, _, rfl, SqL.of hD, ?_⟩
            have ea : (l.map fun n => decide (n ≤ 65535)).all id = l.all fun n => decide (n ≤ 65535) := by
              rw [List.all_map]
              rfl
            rw [ea, ← e0]
            exact q H1 sm
end
end Wk
namespace Wk
open PySem PySem.Spec PyProof.Rows L2
abbrev sDev : Stmt := topS 6
theorem scDev : FnScope ["film", "number"] ["film"] (defScope sDev) := ⟨rfl, rfl, rfl, by decide +kernel, rfl, by decide +kernel, by decide +kernel⟩
abbrev sAns : Stmt := topS 14
theorem scAns : FnScope ["w", "h", "film"] ["w", "h", "film"] (defScope sAns) := ⟨rfl, rfl, rfl, by decide +kernel, rfl, by decide +kernel, by decide +kernel⟩
theorem dev_at {l : List Int} {i : Nat} {z : Int} (h : l[i]? = some z) : (Pm.developL l)[i]? = some (Pm.dev z) := by
  unfold Pm.developL
  rw [List.getElem?_map, h]
  rfl
theorem dev_len (l : List Int) : (Pm.developL l).length = l.length := by
  unfold Pm.developL
  rw [List.length_map]
section
variable {P : Program} {w : World} {K : PySem.W.Frag} {mg : Str → Option Value} {base : Heap}
/-! ### developed -/
def spDev (K : PySem.W.Frag) : Sp := fun vs H Q _ => ∃ (a : Addr) (l : List Int), vs = [.ref a] ∧ SqL K H a (l.map V.int) ∧ l.length ≤ 100000 ∧ ∀ (H' : Hp) (p : Addr), H' p = some (.lst ((Pm.developL l).map V.int)) → Q (.ref p) H'
theorem ok_dev {f : Addr} {fd : FuncData} {t1 t2 t3 : Tok} (F : Fun K "developed" "developed" sDev f fd) (mB : mg "MOST_BYTE" = some (.int 255 t1)) (mP : mg "PART" = some (.int 64 t2)) (mH : mg "HALF" = some (.int 32 t3)) (mM : mg "min" = none) : FnOk P w K mg base CX0 1 f fd ["film"] (spDev K) := by
  refine F.ok scDev (fun vs H Q E h => ?_) (fun cdv A outer s H vs Q E hr h => ?_)
  · obtain ⟨a, l, rfl, _⟩ := h
    rfl
  · obtain ⟨a, l, rfl, hA, hl, q⟩ := h
    refine ⟨_, pss_one (ps_ret (pe_lc (own := [("number", 1)]) (g := gName 1) (by rfl) scDev.nd (pi_list (pv 0))
      (blkOk_by (own := [("number", 1)]) (N := ["film", "number"]) (sc := defScope sDev) (by decide +kernel))
      (fun _ _ _ _ _ => pg_name (i := 1) scDev.nd rfl (Or.inl rfl))
      (fun _ _ _ _ _ => pts_nil)
      (fun _ _ _ _ _ => pe_callB (call_min2 rfl) (by rfl) mM (by decide +kernel) (pa_cons (pe_glob (v := .int 255) (by rfl) mB ⟨_, rfl⟩) (pa_cons (pe_op op_fdiv (pe_op op_add (pv 1) (pe_glob (v := .int 32) (by rfl) mH ⟨_, rfl⟩)) (pe_glob (v := .int 64) (by rfl) mP ⟨_, rfl⟩)) pa_nil))))), ?_⟩
    refine ⟨_, rfl, a, rfl, ⟨_, hA⟩, fun D nD => lc_it (walk_list (K := K) (a := a) (xs := l.map V.int))
      (fun i H' => Same H H' ∧ H' D = some (.lst (((Pm.developL l).take i).map V.int))) ⟨same_upd nD, upd_same⟩ (fun i H' _ hh => hh.1.seq hA) ?_ ?_⟩
    · rintro i x H1 H2 hi ⟨sm, hD⟩ ⟨rfl, g1⟩
      obtain ⟨z, h1, rfl⟩ := int_at g1
      have st := dev_at h1
      exact ⟨rfl, yes_of ⟨_, rfl, z, 32, rfl, rfl, _, _, rfl, rfl, ⟨by decide, by decide⟩, _, _, rfl, _, hD, line_lt (take_len (by rw [dev_len]; exact hl)), same_grow sm nD, by rw [upd_same]; exact congrArg (fun q => some (HO.lst q)) (step_take st)⟩⟩
    · rintro H1 ⟨sm, hD⟩
      refine q H1 D ?_
      rw [hD, List.take_of_length_le]
      rw [dev_len, List.length_map]
      exact Nat.le_refl _
def spAns (K : PySem.W.Frag) : Sp := fun vs H Q _ => ∃ (w h : Int) (a : Addr) (l : List Int), vs = [.int w, .int h, .ref a] ∧ SqL K H a (l.map V.int) ∧ l.length ≤ 100000 ∧
  ∀ (H' : Hp) (q : Addr), H' q = some (.lst ((Pm.develop w h l).map V.int)) → Q (.ref q) H'
theorem ok_ans {f fP fC fL : Addr} {fd fdP fdC fdL : FuncData} {t1 : Tok} (F : Fun K "develop" "develop" sAns f fd) (GP : FnOk P w K mg base CX0 2 fP fdP ["w", "h", "film"] (spFilm K)) (gP : mg "is_film" = some (.ref fP)) (kP : PySem.W.keepIn K (.ref fP) = true) (bP : Binds K fdP ["w", "h", "film"] [])
    (GC : FnOk P w K mg base CX0 1 fC fdC ["row"] spCtd) (gC : mg "counted" = some (.ref fC)) (kC : PySem.W.keepIn K (.ref fC) = true) (bC : Binds K fdC ["row"] [])
    (GL : FnOk P w K mg base CX0 1 fL fdL ["film"] (spDev K)) (gL : mg "developed" = some (.ref fL)) (kL : PySem.W.keepIn K (.ref fL) = true) (bL : Binds K fdL ["film"] [])
    (mB : mg "BAD" = some (.int (-1) t1)) : FnOk P w K mg base CX0 3 f fd ["w", "h", "film"] (spAns K) := by
  refine F.ok scAns (fun vs H Q E h => ?_) (fun cdv A outer s H vs Q E hr h => ?_)
  · obtain ⟨w, h, a, l, rfl, _⟩ := h
    rfl
  · obtain ⟨w, h, a, l, rfl, hA, hl, q⟩ := h
    have hr1 : Room 1 _ := hr.mono (by decide)
    refine ⟨_, pss_cons (ps_if (pt_not (pt_val (pe_call GP hr (by rfl) gP kP bP .nil pass0 (pa_cons (pv 0) (pa_cons (pv 1) (pa_cons (pv 2) pa_nil))))))
        (pss_one (ps_ret (pe_lst (pa_cons (pe_glob (v := .int (-1)) (by rfl) mB ⟨_, rfl⟩) pa_nil)))) pss_nil)
      (pss_one (ps_ret (pe_call GC hr1 (by rfl) gC kC bC .nil pass0 (pa_cons (pe_call GL hr1 (by rfl) gL kL bL .nil pass0 (pa_cons (pv 2) pa_nil)) pa_nil)))), ?_⟩
    have e0 : Pm.develop w h l = if Pm.film w h l = true then ((Pm.developL l).length : Int) :: Pm.developL l else [-1] := rfl
    refine ⟨_, rfl, _, rfl, _, rfl, w, h, a, l, rfl, hA, hl, fun H1 sm => ⟨_, rfl, ite2 (fun c1 => ?_) (fun c1 => ?_)⟩⟩
    · rw [Bool.not_eq_true'] at c1
      rw [c1, if_neg Bool.false_ne_true] at e0
      exact ⟨line_le (m := 1) (by simp), fun r nr => q _ r (by rw [upd_same, e0]; rfl)⟩
    · rw [Bool.not_eq_true', Bool.not_eq_false] at c1
      rw [c1, if_pos rfl] at e0
      refine ⟨_, rfl, a, l, rfl, sm.seq hA, hl, fun H2 p hp => ⟨p, _, rfl, hp, ?_, fun H3 r hr3 => q H3 r ?_⟩⟩
      · rw [List.length_map, dev_len]
        omega
      · rw [hr3, e0, List.length_map]
        rfl
end
end Wk
namespace Wk
open PySem PySem.Spec PyProof.Rows L2
theorem all_mk {P : Program} {w : World} {K : PySem.W.Frag} {h : Heap} {mg : Str → Option Value} {fa f1 f2 f3 f4 f5 : Addr} (X : K.In h) (G : h.Ns mainGlobals mg) (hfa : mg "develop" = some (.ref fa))
    {od1 an1 od2 an2 od3 an3 od4 an4 od5 an5 : Option Addr} {sl1 sl2 sl3 sl4 sl5 : Array (Option Value)} {oc1 kV1 dc1 pm1 cd1 ct1 oc2 kV2 dc2 pm2 cd2 ct2 oc3 kV3 dc3 pm3 cd3 ct3 oc4 kV4 dc4 pm4 cd4 ct4 oc5 kV5 dc5 pm5 cd5 ct5 : Value} {t0 t1 t2 t3 t4 t5 t6 : Tok}
    (a1 : PySem.W.nsIn K mainGlobals "developed" = some (some (.ref f1))) (l1 : K.lookup f1 = some ⟨oc1, od1, .func (PySem.W.fnOf "developed" "developed" (defArgs sDev) (defBody sDev) (defScope sDev) .none kV1 dc1 pm1 an1 cd1 ct1), sl1⟩) (c1 : PySem.W.codeIn K cd1 "developed" = true) (k1 : PySem.W.keepIn K (.ref f1) = true)
    (a2 : PySem.W.nsIn K mainGlobals "is_side" = some (some (.ref f2))) (l2 : K.lookup f2 = some ⟨oc2, od2, .func (PySem.W.fnOf "is_side" "is_side" (defArgs sSide) (defBody sSide) (defScope sSide) .none kV2 dc2 pm2 an2 cd2 ct2), sl2⟩) (c2 : PySem.W.codeIn K cd2 "is_side" = true) (k2 : PySem.W.keepIn K (.ref f2) = true)
    (a3 : PySem.W.nsIn K mainGlobals "counted" = some (some (.ref f3))) (l3 : K.lookup f3 = some ⟨oc3, od3, .func (PySem.W.fnOf "counted" "counted" (defArgs sCtd) (defBody sCtd) (defScope sCtd) .none kV3 dc3 pm3 an3 cd3 ct3), sl3⟩) (c3 : PySem.W.codeIn K cd3 "counted" = true) (k3 : PySem.W.keepIn K (.ref f3) = true)
    (a4 : PySem.W.nsIn K mainGlobals "is_film" = some (some (.ref f4))) (l4 : K.lookup f4 = some ⟨oc4, od4, .func (PySem.W.fnOf "is_film" "is_film" (defArgs sFilm) (defBody sFilm) (defScope sFilm) .none kV4 dc4 pm4 an4 cd4 ct4), sl4⟩) (c4 : PySem.W.codeIn K cd4 "is_film" = true) (k4 : PySem.W.keepIn K (.ref f4) = true)
    (a5 : PySem.W.nsIn K mainGlobals "develop" = some (some (.ref f5))) (l5 : K.lookup f5 = some ⟨oc5, od5, .func (PySem.W.fnOf "develop" "develop" (defArgs sAns) (defBody sAns) (defScope sAns) .none kV5 dc5 pm5 an5 cd5 ct5), sl5⟩) (c5 : PySem.W.codeIn K cd5 "develop" = true) (k5 : PySem.W.keepIn K (.ref f5) = true)
    (u0 : PySem.W.nsIn K mainGlobals "COLOURS" = some (some (.int 3 t0)))
    (u1 : PySem.W.nsIn K mainGlobals "MOST_LIGHT" = some (some (.int 65535 t1)))
    (u2 : PySem.W.nsIn K mainGlobals "MOST_BYTE" = some (some (.int 255 t2)))
    (u3 : PySem.W.nsIn K mainGlobals "PART" = some (some (.int 64 t3)))
    (u4 : PySem.W.nsIn K mainGlobals "HALF" = some (some (.int 32 t4)))
    (u5 : PySem.W.nsIn K mainGlobals "MOST_SIDE" = some (some (.int 256 t5)))
    (u6 : PySem.W.nsIn K mainGlobals "BAD" = some (some (.int (-1) t6)))
    (y0 : PySem.W.nsIn K mainGlobals "len" = some none)
    (y1 : PySem.W.nsIn K mainGlobals "all" = some none)
    (y2 : PySem.W.nsIn K mainGlobals "min" = some none)
    : ∃ fd : FuncData, (∀ (s : Shared) (us : List Value), us.length = (["w", "h", "film"] : List Str).length → BindsTo s fd ⟨us, []⟩ ((["w", "h", "film"] : List Str).zip us)) ∧ ∀ base : Heap, K.In base → base.Ns mainGlobals mg → FnOk P w K mg base CX0 3 fa fd ["w", "h", "film"] (spAns K) := by
  have e := hfa.symm.trans (PySem.W.mg_of X G a5)
  cases e
  have F_developed := fun_mk (st := sDev) l1 c1 k1
  have g_developed := PySem.W.mg_of X G a1
  have b_developed := F_developed.binds (ps := ["film"]) fun _ _ _ _ _ _ us hl => match us, hl with | [_], _ => rfl
  have F_is_side := fun_mk (st := sSide) l2 c2 k2
  have g_is_side := PySem.W.mg_of X G a2
  have b_is_side := F_is_side.binds (ps := ["number"]) fun _ _ _ _ _ _ us hl => match us, hl with | [_], _ => rfl
  have F_counted := fun_mk (st := sCtd) l3 c3 k3
  have g_counted := PySem.W.mg_of X G a3
  have b_counted := F_counted.binds (ps := ["row"]) fun _ _ _ _ _ _ us hl => match us, hl with | [_], _ => rfl
  have F_is_film := fun_mk (st := sFilm) l4 c4 k4
  have g_is_film := PySem.W.mg_of X G a4
  have b_is_film := F_is_film.binds (ps := ["w", "h", "film"]) fun _ _ _ _ _ _ us hl => match us, hl with | [_, _, _], _ => rfl
  have F_develop := fun_mk (st := sAns) l5 c5 k5
  have g_develop := PySem.W.mg_of X G a5
  have b_develop := F_develop.binds (ps := ["w", "h", "film"]) fun _ _ _ _ _ _ us hl => match us, hl with | [_, _, _], _ => rfl
  have v_COLOURS := PySem.W.mg_of X G u0
  have v_MOST_LIGHT := PySem.W.mg_of X G u1
  have v_MOST_BYTE := PySem.W.mg_of X G u2
  have v_PART := PySem.W.mg_of X G u3
  have v_HALF := PySem.W.mg_of X G u4
  have v_MOST_SIDE := PySem.W.mg_of X G u5
  have v_BAD := PySem.W.mg_of X G u6
  have z_len := PySem.W.mg_none_of X G y0
  have z_all := PySem.W.mg_none_of X G y1
  have z_min := PySem.W.mg_none_of X G y2
  exact ⟨PySem.W.fnOf "develop" "develop" (defArgs sAns) (defBody sAns) (defScope sAns) .none kV5 dc5 pm5 an5 cd5 ct5, fun s us hu => match us, hu with | [_, _, _], _ => .of_eq rfl, fun base _ _ => ok_ans F_develop (ok_film F_is_film (ok_side F_is_side v_MOST_SIDE) g_is_side F_is_side.kp b_is_side z_len z_all v_COLOURS v_MOST_LIGHT) g_is_film F_is_film.kp b_is_film (ok_ctd F_counted z_len) g_counted F_counted.kp b_counted (ok_dev F_developed v_MOST_BYTE v_PART v_HALF z_min) g_developed F_developed.kp b_developed v_BAD⟩
end Wk
namespace Wk
open PySem.W
theorem in_int {lo hi z : Int} (h : Codec.inInt lo hi z = true) : lo ≤ z ∧ z ≤ hi := by
  unfold Codec.inInt at h
  rw [Bool.and_eq_true, decide_eq_true_iff, decide_eq_true_iff] at h
  exact h
theorem in_list {hi : Int} {most : Nat} {l : List Int} (h : Codec.inList 0 most (Codec.inInt 0 hi) l = true) : l.length ≤ most ∧ ∀ z, z ∈ l → 0 ≤ z ∧ z ≤ hi := by
  unfold Codec.inList Codec.inLen Codec.inNat at h
  rw [Bool.and_eq_true, Bool.and_eq_true, decide_eq_true_iff, decide_eq_true_iff] at h
  exact ⟨h.1.2, fun z hz => in_int (List.all_eq_true.mp h.2 z hz)⟩
end Wk
open PySem PySem.W PyProof.Rows
set_option maxRecDepth 100000 in
set_option maxHeartbeats 8000000 in
theorem PySem.Challenge.cw_paintsheets_s12_develop_holds : PySem.Challenge.rw_paintsheets_s12_develop.Holds := by
  w_on; k_headS; (case hw => exact ⟨[.int 1, .int 1, .list []], by decide +kernel, by decide +kernel⟩)
  k_fillS
  refine L2.walk_specK (r := PySem.Challenge.rw_paintsheets_s12_develop) (k := 3) (CX := L2.CX0) (ps := ["w", "h", "film"]) (sp := Wk.spAns) (by decide +kernel) rfl rfl ⟨rfl, by decide, by decide⟩ (fun w h Y => PySem.W.kIn_of Y) ?F ?S (fun _ _ _ _ z => z)
  case F =>
    intro w mg fa h Y KX G hmg
    refine' Wk.all_mk KX G hmg ?a1 ?l1 ?c1 ?k1 ?a2 ?l2 ?c2 ?k2 ?a3 ?l3 ?c3 ?k3 ?a4 ?l4 ?c4 ?k4 ?a5 ?l5 ?c5 ?k5 ?u0 ?u1 ?u2 ?u3 ?u4 ?u5 ?u6 ?y0 ?y1 ?y2
    (case a1 => k_is)
    (case l1 => k_is)
    (case c1 => k_is)
    (case k1 => k_is)
    (case a2 => k_is)
    (case l2 => k_is)
    (case c2 => k_is)
    (case k2 => k_is)
    (case a3 => k_is)
    (case l3 => k_is)
    (case c3 => k_is)
    (case k3 => k_is)
    (case a4 => k_is)
    (case l4 => k_is)
    (case c4 => k_is)
    (case k4 => k_is)
    (case a5 => k_is)
    (case l5 => k_is)
    (case c5 => k_is)
    (case k5 => k_is)
    (case u0 => k_is)
    (case u1 => k_is)
    (case u2 => k_is)
    (case u3 => k_is)
    (case u4 => k_is)
    (case u5 => k_is)
    (case u6 => k_is)
    (case y0 => k_is)
    (case y1 => k_is)
    (case y2 => k_is)
  case S =>
    intro K H xs a hO hwi hask hx
    cases hx with
    | cons h0 hx =>
      cases h0
      cases hx with
      | cons h1 hx =>
        cases h1
        cases hx with
        | cons h2 hx =>
          cases h2 with
          | lst s2 d2 =>
            have e2 := L2.ints_dw a.2.2.1 _ d2
            subst e2
            cases hx
            have q := hwi
            have q0 := (Bool.and_eq_true_iff.mp q).1
            replace q := (Bool.and_eq_true_iff.mp q).2
            have n0 := Wk.in_int q0
            have q1 := (Bool.and_eq_true_iff.mp q).1
            replace q := (Bool.and_eq_true_iff.mp q).2
            have n1 := Wk.in_int q1
            have q2 := (Bool.and_eq_true_iff.mp q).1
            replace q := (Bool.and_eq_true_iff.mp q).2
            have m2 := (Wk.in_list q2).1
            have b2 := (Wk.in_list q2).2
            have e := Pm.develop_is (w := a.1) (h := a.2.1) (f := a.2.2.1) (fun z hz => (b2 z hz).1)
            refine ⟨a.1, a.2.1, _, a.2.2.1, rfl, s2, (by omega), fun H' p hp => ?_⟩
            rw [← e] at hp
            exact .lst (L2.SqL.of hp) (L2.dw_ints _)
#print axioms PySem.Challenge.cw_paintsheets_s12_develop_holds
