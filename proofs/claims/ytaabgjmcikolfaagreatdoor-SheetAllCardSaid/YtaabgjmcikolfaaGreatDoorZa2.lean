/- The abstract machine, part 2: its small heap, its operations. No condition. -/
import Derived.Test.YtaabgjmcikolfaaGreatDoorZa1
set_option linter.unusedVariables false
set_option linter.unusedSimpArgs false
namespace Go.Za

inductive Blk where
  | box (ty : Nat) (cs : List AV)                           -- a variable
  | rows (sz : Nat) (live pur : Bool) (xs : List (List AV))    -- a slice's array, as far as it is known; live: it may be written; pur: its cells lead nowhere
  | map (es : List (AV × AV × Nat)) (clock : Nat)
  | dead
  | iter (mo : Option B) (since : Nat) (seen : List Nat) (stepped : Nat)     -- the walk over a map
  | bts (ty : Nat) (l : List UInt8)                                          -- a Builder's array
  | dfr                                                                      -- the block for the deferred calls of a range over a function
  | lp (st : LoopState) (pj : Option Code) (n : Nat) (ps : Array Tmp) (asg body : Code) (fr : Tr AV)     -- the record of a range over a function

structure Hp where
  m : Tr Blk
  nx : B

inductive Eff where
  | no
  | new (k : Blk)
  | wr (b : B) (i o : Nat) (cs : List AV)   -- into row i (of a variable: 0), from cell o on
  | put (b : B) (k : Blk)
  | mov (b : B) (k : Blk)       -- b is gone, a new one has what it had, and more
def splice (cs : List AV) (o : Nat) (ds : List AV) : List AV := cs.take o ++ ds ++ cs.drop (o + ds.length)
def spliceIf (cs : List AV) (o : Nat) (ds : List AV) : List AV := if o + ds.length ≤ cs.length then splice cs o ds else cs
def Blk.wr (i o : Nat) (cs : List AV) : Blk → Blk
  | .box ty c0 => .box ty (if i = 0 then spliceIf c0 o cs else c0)
  | .rows sz live pur xs => .rows sz live (pur && cs.all AV.pure) (match xs[i]? with | some r => xs.set i (spliceIf r o cs) | none => xs)
  | k => k
def wrM (m : Tr Blk) (b : B) (i o : Nat) (cs : List AV) : Tr Blk :=
  match m.get b with
  | some k => m.set b (k.wr i o cs)
  | none => m

/-- A new block has the number nb. -/
def Eff.on (m : Tr Blk) (nb : B) : Eff → Tr Blk
  | .no => m
  | .new k => m.set nb k
  | .wr b i o cs => wrM m b i o cs
  | .put b k => m.set b k
  | .mov b k => (m.set b .dead).set nb k
def Eff.fresh : Eff → Bool
  | .new _ | .mov _ _ => true
  | _ => false
def Hp.app (H : Hp) : Eff → Hp
  | .no => H
  | .new k => ⟨H.m.set H.nx k, H.nx.succ⟩
  | .wr b i o cs => ⟨wrM H.m b i o cs, H.nx⟩
  | .put b k => ⟨H.m.set b k, H.nx⟩
  | .mov b k => ⟨(H.m.set b .dead).set H.nx k, H.nx.succ⟩
theorem Hp.app_eq (H : Hp) (e : Eff) : H.app e = ⟨e.on H.m H.nx, if e.fresh then H.nx.succ else H.nx⟩ := by
  cases e <;> rfl
def Hp.empty : Hp := ⟨.e, .e⟩

/-! ### operands -/
inductive Opd where
  | t (p : B)
  | c (v : AV)
def Opd.ev (fr : Tr AV) : Opd → AV
  | .t p => match fr.get p with | some v => v | none => .u
  | .c v => v

def AV.cells : AV → Option (List AV)
  | .u | .tu _ => none
  | .ag cs => some cs
  | v => some [v]
def getN (cs : List AV) (o : Nat) : Option Nat → Option AV
  | none => cs[o]?
  | some n => if o + n ≤ cs.length then some (.ag ((cs.drop o).take n)) else none

def loadA (m : Tr Blk) (n : Option Nat) : AV → Option AV
  | .ref b o => match m.get b with | some (.box _ cs) => getN cs o n | _ => none
  | .el b i o => match m.get b with
    | some (.rows _ _ _ xs) => match xs[i]? with | some r => getN r o n | none => none
    | _ => none
  | .im cs o => getN cs o n
  | _ => none
def storeA (m : Tr Blk) (n : Nat) (a x : AV) : Option Eff :=
  match x.cells with
  | none => none
  | some cs =>
    if cs.length = n ∧ cs.all AV.one = true then
      match a with
      | .ref b o => match m.get b with
        | some (.box _ c0) => if o + n ≤ c0.length then some (.wr b 0 o cs) else none
        | _ => none
      | .el b i o => match m.get b with
        | some (.rows _ true _ xs) => match xs[i]? with
          | some r => if o + n ≤ r.length then some (.wr b i o cs) else none
          | none => none
        | _ => none
      | _ => none
    else none

/-! ### numbers -/
def binI (op : BinOp) (k : IntKind) (a b : Int) : Option AV :=
  match op with
  | .add => some (.i k (k.wrap (a + b)))
  | .sub => some (.i k (k.wrap (a - b)))
  | .mul => some (.i k (k.wrap (a * b)))
  | .quo => if b = 0 then none else some (.i k (k.wrap (a.tdiv b)))
  | .rem => if b = 0 then none else some (.i k (a.tmod b))
  | .and => some (.i k (k.wrap (BitVec.ofInt k.bits a &&& BitVec.ofInt k.bits b).toNat))
  | .or => some (.i k (k.wrap (BitVec.ofInt k.bits a ||| BitVec.ofInt k.bits b).toNat))
  | .xor => some (.i k (k.wrap (BitVec.ofInt k.bits a ^^^ BitVec.ofInt k.bits b).toNat))
  | .andNot => some (.i k (k.wrap (BitVec.ofInt k.bits a &&& ~~~BitVec.ofInt k.bits b).toNat))
  | .eql => some (.b (a == b))
  | .neq => some (.b (a != b))
  | .lss => some (.b (decide (a < b)))
  | .leq => some (.b (decide (a ≤ b)))
  | .gtr => some (.b (decide (a > b)))
  | .geq => some (.b (decide (a ≥ b)))
  | .shl | .shr => none
def shiftI (op : BinOp) (k : IntKind) (a b : Int) : Option AV :=
  if b < 0 then none else
  match op with
  | .shl => some (.i k (k.wrap (a * 2 ^ (min b.toNat k.bits))))
  | .shr => some (.i k (a.fdiv (2 ^ (min b.toNat k.bits))))
  | _ => none
/-- Plain cells that are held against each other; of which kind: 0 a number, 1 a bool, 2 a string. -/
def eqCell : Nat → AV → AV → Option Bool
  | 0, .i k a, .i k' b => if k = k' then some (a == b) else none
  | 1, .b a, .b b => some (a == b)
  | 2, .s a, .s b => some (a == b)
  | _, _, _ => none
def eqCells : List Nat → List AV → List AV → Option Bool
  | [], [], [] => some true
  | k :: ks, a :: as, b :: bs => match eqCell k a b with
    | some true => eqCells ks as bs
    | some false => some false
    | none => none
  | _, _, _ => none
def binA (op : BinOp) (x y : AV) : Option AV :=
  match x, y with
  | .i k a, .i k' b => match op with
    | .shl | .shr => shiftI op k a b
    | _ => if k = k' then binI op k a b else none
  | .s a, .s b => match op with
    | .eql => some (.b (a == b))
    | .neq => some (.b (!(a == b)))
    | .add => if a.length + b.length ≤ 1073741824 then some (.s (a ++ b)) else none
    | _ => none
  | _, _ => none
def unA (op : UnOp) (x : AV) : Option AV :=
  match op, x with
  | .neg, .i k n => some (.i k (k.wrap (0 - n)))
  | .not, .b b => some (.b (!b))
  | .xor, .i k n => some (.i k (k.wrap (BitVec.ofInt k.bits (if k.signed then -1 else k.max) ^^^ BitVec.ofInt k.bits n).toNat))
  | _, _ => none

/-! ### structs, arrays, slices -/
def fillA (cs : List AV) (fr : Tr AV) : List (Nat × Nat × Opd) → Option (List AV)
  | [] => some cs
  | (o, n, x) :: rest => match (x.ev fr).cells with
    | none => none
    | some ds => if ds.length = n ∧ o + n ≤ cs.length ∧ ds.all AV.one = true then fillA (splice cs o ds) fr rest else none
/-- The rows of cells, sz a row. -/
def chunk (sz : Nat) : Nat → List AV → List (List AV)
  | 0, _ => []
  | n + 1, cs => cs.take sz :: chunk sz n (cs.drop sz)
def faA (o : Nat) : AV → Option AV
  | .ref b q => some (.ref b (q + o))
  | .el b i q => some (.el b i (q + o))
  | .im cs q => some (.im cs (q + o))
  | _ => none
def ixaA (len esz : Nat) (x i : AV) : Option AV :=
  match i with
  | .i _ n => if 0 ≤ n ∧ n < len then faA (n.toNat * esz) x else none
  | _ => none
def ixsA (m : Tr Blk) (esz : Nat) (x i : AV) : Option AV :=
  match i with
  | .i _ n => match x with
    | .ls sz xs => if sz = esz ∧ 0 ≤ n ∧ n < xs.length then match xs[n.toNat]? with | some r => some (.im r 0) | none => none else none
    | .sl b lo len => match m.get b with
      | some (.rows sz _ _ _) => if sz = esz ∧ 0 ≤ n ∧ n < len then some (.el b (lo + n.toNat) 0) else none
      | _ => none
    | _ => none
  | _ => none
def ixvA (len esz : Nat) (n : Option Nat) (x i : AV) : Option AV :=
  match i, x with
  | .i _ j, .ag cs => if 0 ≤ j ∧ j < len then getN cs (j.toNat * esz) n else none
  | _, _ => none
def ixbA (x i : AV) : Option AV :=
  match i, x with
  | .i _ j, .s l => if 0 ≤ j then match l[j.toNat]? with | some c => some (.i .u8 c.toNat) | none => none else none
  | _, _ => none
/-- A bound of a slice expression. -/
def bnd (x : AV) (y : Nat) : Option Nat :=
  match x with
  | .i _ n => if 0 ≤ n ∧ n ≤ y then some n.toNat else none
  | _ => none
/-- Both bounds, of n things. -/
def boundsA (n : Nat) (lo hi : Option AV) : Option (Nat × Nat) :=
  match (match hi with | some h => bnd h n | none => some n) with
  | some h => match (match lo with | some a => bnd a h | none => some 0) with
    | some a => some (a, h)
    | none => none
  | none => none
def cutsA (x : AV) (lo hi : Option AV) : Option AV :=
  match x with
  | .s l => match boundsA l.length lo hi with | some (a, h) => some (.s ((l.take h).drop a)) | none => none
  | _ => none
def cutA (m : Tr Blk) (esz : Nat) (x : AV) (lo hi : Option AV) : Option AV :=
  match x with
  | .e0 => match boundsA 0 lo hi with | some _ => some .e0 | none => none
  | .ls sz xs => match boundsA xs.length lo hi with | some (a, h) => if sz = esz then some (.ls sz ((xs.take h).drop a)) else none | none => none
  | .sl b f n => match m.get b with
    | some (.rows sz _ _ _) => match boundsA n lo hi with | some (a, h) => if sz = esz ∧ (a < h ∨ a = 0) then some (.sl b (f + a) (h - a)) else none | none => none
    | some (.bts _ _) => match boundsA n lo hi with | some (a, h) => if esz = 1 ∧ (a < h ∨ a = 0) then some (.sl b (f + a) (h - a)) else none | none => none
    | _ => none
  | _ => none
def rowsOf (m : Tr Blk) (sz : Nat) : AV → Option (Bool × List (List AV))
  | .e0 => some (true, [])
  | .ls z xs => if z = sz then some (true, xs) else none
  | .sl b lo n => match m.get b with
    | some (.rows z _ pur xs) => if z = sz ∧ lo + n ≤ xs.length then some (pur, (xs.drop lo).take n) else none
    | _ => none
  | _ => none
def appR (m : Tr Blk) (nb : B) (sz bytes : Nat) (x : AV) (q : Bool) (ys : List (List AV)) : Option (AV × Eff) :=
  match x with
  | .e0 => if ys.length = 0 then some (.e0, .no) else if ys.length * bytes ≤ 1099511627776 then some (.sl nb 0 ys.length, .new (.rows sz true q ys)) else none
  | .sl b 0 n => match m.get b with
    | some (.rows z true p xs) =>
      if z = sz ∧ n = xs.length then
        if ys.length = 0 then some (.sl b 0 n, .no) else
        if (n + ys.length) * bytes ≤ 1099511627776 then some (.sl nb 0 (n + ys.length), .mov b (.rows sz true (p && q) (xs ++ ys))) else none
      else none
    | _ => none
  | _ => none
def appA (m : Tr Blk) (nb : B) (sz bytes : Nat) (x y : AV) : Option (AV × Eff) :=
  match rowsOf m sz y with
  | none => none
  | some (q, ys) => appR m nb sz bytes x q ys
/-- Of which kind: 0 a string, 1 a slice, 2 a map. -/
def lenA (m : Tr Blk) : Nat → AV → Option AV
  | 0, .s l => some (.i .i64 l.length)
  | 1, .e0 => some (.i .i64 0)
  | 1, .ls _ xs => some (.i .i64 xs.length)
  | 1, .sl _ _ n => some (.i .i64 n)
  | 2, .nm => some (.i .i64 0)
  | 2, .mp b => match m.get b with | some (.map es _) => some (.i .i64 es.length) | _ => none
  | _, _ => none
def mmA (max : Bool) : AV → List AV → Option AV
  | x, [] => match x with | .i _ _ => some x | _ => none
  | x, y :: ys => match x, y with
    | .i k a, .i k' b => if k = k' then mmA max (.i k (if max then (if b > a then b else a) else (if b < a then b else a))) ys else none
    | _, _ => none
/-- Is a pointer nil? -/
def isNil : AV → Option Bool
  | .np => some true
  | .ref _ _ | .el _ _ _ | .im _ _ => some false
  | _ => none

/-! ### maps, bytes, and what else there is -/
/-- Are two keys one? ks: of which kind their cells are; ag: they are structs or arrays. -/
def keyEq (ks : List Nat) (ag : Bool) (x y : AV) : Option Bool :=
  match ag with
  | true => match x, y with
    | .ag cs, .ag ds => if cs.length = ks.length ∧ ds.length = ks.length then eqCells ks cs ds else none
    | _, _ => none
  | false => match ks with
    | [k] => eqCell k x y
    | _ => none
/-- A key's entry: its place, what it holds. -/
def findE (ks : List Nat) (ag : Bool) (key : AV) : List (AV × AV × Nat) → Nat → Option (Option (Nat × AV))
  | [], _ => some none
  | (k, v, _) :: es, i => match keyEq ks ag key k with
    | some true => some (some (i, v))
    | some false => findE ks ag key es (i + 1)
    | none => none
def setE (v : AV) : List (AV × AV × Nat) → Nat → List (AV × AV × Nat)
  | [], _ => []
  | (k, _, n) :: es, 0 => (k, v, n) :: es
  | e :: es, i + 1 => e :: setE v es i
def lkR (ok : Bool) (v : AV) (is : Bool) : AV := if ok then .tu [v, .b is] else v
def byteOf : List AV → Option UInt8
  | [.i .u8 n] => if 0 ≤ n ∧ n < 256 then some (UInt8.ofNat n.toNat) else none
  | _ => none
def bytesOf : List (List AV) → Option (List UInt8)
  | [] => some []
  | r :: rs => match byteOf r, bytesOf rs with
    | some c, some cs => some (c :: cs)
    | _, _ => none
def rowB (c : UInt8) : List AV := [.i .u8 c.toNat]
def lenS : AV → Option Nat
  | .e0 => some 0
  | .ls _ xs => some xs.length
  | .sl _ _ n => some n
  | _ => none
inductive XOp where
  | bad
  | lk (ks : List Nat) (ag : Bool) (z : AV) (ok : Bool)
  | mu (ks : List Nat) (ag : Bool)
  | md (ks : List Nat) (ag : Bool)
  | mc
  | mks (sz bytes : Nat) (z : List AV)
  | b2s
  | cta (len esz : Nat) (lo hi : Bool)
  | cvu
  | cvp (l : List (Nat × Nat))
  | nes
  | peq (neg : Bool)
  | aps (ty : Nat)
  | cap
  | mnz (ty : Nat)
  | cpy
  | sld
  | ust (ty : Nat)
  | ad64
  | sb64
  | mki (t : Nat)
  | ta (t : Nat) (z : AV) (ok : Bool)
  | snil (neg : Bool)
  | rng
def xop (m : Tr Blk) (nb : B) : XOp → List AV → Option (AV × Eff)
  | .lk ks ag z ok, [x, key] => match keyEq ks ag key key with
    | none => none
    | some _ => match x with
      | .nm => some (lkR ok z false, .no)
      | .mp b => match m.get b with
        | some (.map es _) => match findE ks ag key es 0 with
          | some (some (_, v)) => some (lkR ok v true, .no)
          | some none => some (lkR ok z false, .no)
          | none => none
        | _ => none
      | _ => none
  | .mu ks ag, [x, key, v] => match keyEq ks ag key key with
    | none => none
    | some _ => match x with
      | .mp b => match m.get b with
        | some (.map es c) => match findE ks ag key es 0 with
          | some (some (i, _)) => some (.u, .put b (.map (setE v es i) c))
          | some none => some (.u, .put b (.map (es ++ [(key, v, c)]) (c + 1)))
          | none => none
        | _ => none
      | _ => none
  | .md ks ag, [x, key] => match keyEq ks ag key key with
    | none => none
    | some _ => match x with
      | .nm => some (.tu [], .no)
      | .mp b => match m.get b with
        | some (.map es c) => match findE ks ag key es 0 with
          | some (some (i, _)) => some (.tu [], .put b (.map (es.eraseIdx i) c))
          | some none => some (.tu [], .put b (.map es c))
          | none => none
        | _ => none
      | _ => none
  | .mc, [x] => match x with
    | .nm => some (.tu [], .no)
    | .mp b => match m.get b with
      | some (.map _ c) => some (.tu [], .put b (.map [] c))
      | _ => none
    | _ => none
  | .mks sz bytes z, [x, y] => match x, y with
    | .i .i64 l, .i .i64 c => if 0 ≤ l ∧ l ≤ c ∧ c * bytes ≤ 1099511627776 ∧ c ≤ 1099511627776 then some (.sl nb 0 l.toNat, .new (.rows sz true (z.all AV.pure) (List.replicate l.toNat z))) else none
    | _, _ => none
  | .b2s, [x] => match rowsOf m 1 x with
    | some (_, rs) => match bytesOf rs with
      | some l => if l.length = 0 then none else some (.s l, .no)
      | none => none
    | none => none
  | .cta len esz lo hi, x :: bs => match x with
    | .ref b 0 => match m.get b with
      | some (.box _ cs) => if cs.length = len * esz ∧ cs.all AV.one = true then
          match (match lo, hi, bs with
            | true, true, [l, h] => boundsA len (some l) (some h)
            | true, false, [l] => boundsA len (some l) none
            | false, true, [h] => boundsA len none (some h)
            | false, false, [] => boundsA len none none
            | _, _, _ => none) with
          | some (a, h) => if a < h then some (.sl nb a (h - a), .mov b (.rows esz true (cs.all AV.pure) (chunk esz len cs))) else none
          | none => none
        else none
      | _ => none
    | _ => none
  | .cvu, [x] => match x with
    | .ref b o => match m.get b with
      | some (.box _ cs) => if o < cs.length then some (.ref b o, .no) else none
      | _ => none
    | .np => some (.np, .no)
    | _ => none
  | .cvp l, [x] => match x with
    | .ref b o => match m.get b with
      | some (.box ty cs) => if (l.any fun e => Nat.beq e.1 ty && Nat.beq e.2 cs.length) = true ∧ o = 0 then some (.ref b o, .no) else none
      | _ => none
    | .np => some (.np, .no)
    | _ => none
  | .nes, [x] => some (x, .no)
  | .peq neg, [x, y] => match isNil x, isNil y with
    | some a, some b => if a || b then some (.b (if neg then !(a && b) else (a && b)), .no) else match x, y with
      | .ref p o, .ref q k => if p.eqb q && Nat.beq o k then some (.b (!neg), .no) else none
      | _, _ => none
    | _, _ => none
  | .aps ty, [x, y] => match y with
    | .s l => match x with
      | .e0 => if l.length = 0 then some (.e0, .no) else if l.length ≤ 1099511627776 then some (.sl nb 0 l.length, .new (.bts ty l)) else none
      | .sl b 0 n => match m.get b with
        | some (.bts t l0) => if t = ty ∧ n = l0.length then
            if l.length = 0 then some (.sl b 0 n, .no) else
            if n + l.length ≤ 1099511627776 then some (.sl nb 0 (n + l.length), .mov b (.bts ty (l0 ++ l))) else none
          else none
        | _ => none
      | _ => none
    | _ => none
  | .cap, [x] => match x with
    | .e0 => some (.i .i64 0, .no)
    | _ => none
  | .mnz ty, [x] => match x with
    | .i .i64 n => if 0 ≤ n ∧ n ≤ 1099511627776 then some (.sl nb 0 n.toNat, .new (.bts ty [])) else none
    | _ => none
  | .cpy, [x, y] => match lenS x, lenS y with
    | some a, some b => if a = 0 ∨ b = 0 then some (.i .i64 0, .no) else none
    | _, _ => none
  | .sld, [x] => match x with
    | .sl b 0 n => if 0 < n then some (.el b 0 0, .no) else none
    | _ => none
  | .ust ty, [p, y] => match p, y with
    | .el b 0 0, .i .i64 n => match m.get b with
      | some (.bts t l) => if t = ty ∧ 0 < n ∧ n ≤ l.length ∧ n ≤ 1099511627776 then some (.s (l.take n.toNat), .put b .dead) else none
      | _ => none
    | _, _ => none
  | .ad64, [x, y, z] => match x, y, z with
    | .i .u64 a, .i .u64 b, .i .u64 c => some (.tu [.i .u64 (IntKind.u64.wrap (a + b + c)), .i .u64 (if a + b + c ≥ 18446744073709551616 then 1 else 0)], .no)
    | _, _, _ => none
  | .sb64, [x, y, z] => match x, y, z with
    | .i .u64 a, .i .u64 b, .i .u64 c => some (.tu [.i .u64 (IntKind.u64.wrap (a - b - c)), .i .u64 (if a - b - c < 0 then 1 else 0)], .no)
    | _, _, _ => none
  | .mki t, [x] => some (.ifc t x, .no)
  | .ta t z ok, [x] => match x with
    | .ifc t' y => if t' = t then some (lkR ok y true, .no) else if ok then some (.tu [z, .b false], .no) else none
    | .ni => if ok then some (.tu [z, .b false], .no) else none
    | _ => none
  | .snil neg, [x] => match x with
    | .sl _ _ _ => some (.b neg, .no)
    | .ls _ (_ :: _) => some (.b neg, .no)
    | _ => none
  | .rng, [x] => match x with
    | .nm => some (.ref nb 0, .new (.iter none 0 [] 0))
    | .mp b => match m.get b with
      | some (.map _ c) => some (.ref nb 0, .new (.iter (some b) c [] c))
      | _ => none
    | _ => none
  | _, _ => none

/-! ### the operations -/
inductive AOp where
  | mv (x : Opd)
  | pick (c a b : Opd)
  | box (ty : Nat) (x : Opd)
  | al (ty : Nat) (z : List AV)
  | bld (z : List AV) (parts : List (Nat × Nat × Opd))
  | lit0
  | lit (sz len : Nat) (own : Bool) (z : List AV) (parts : List (Nat × Nat × Opd))
  | ld (n : Option Nat) (a : Opd)
  | st (n : Nat) (a x : Opd)
  | chk (x : Opd)
  | bin (op : BinOp) (x y : Opd)
  | beq (neg : Bool) (x y : Opd)
  | peq (neg : Bool) (x y : Opd)
  | eqa (neg : Bool) (ks : List Nat) (x y : Opd)
  | un (op : UnOp) (x : Opd)
  | cvi (k : IntKind) (x : Opd)
  | fa (o : Nat) (x : Opd)
  | fld (n : Option Nat) (o : Nat) (x : Opd)
  | ixa (len esz : Nat) (x i : Opd)
  | ixs (esz : Nat) (x i : Opd)
  | ixv (len esz : Nat) (n : Option Nat) (x i : Opd)
  | ixb (x i : Opd)
  | ext (n : Nat) (x : Opd)
  | cuts (x : Opd) (lo hi : Option Opd)
  | cut (esz : Nat) (x : Opd) (lo hi : Option Opd)
  | app (sz bytes : Nat) (x y : Opd)
  | len (k : Nat) (x : Opd)
  | alen (n : Nat)
  | mm (max : Bool) (x : Opd) (ys : List Opd)
  | mkf (f : Nat) (cs : List Opd)
  | mkm
  | ex (k : XOp) (xs : List Opd)

def pure1 : Option AV → Option (AV × Eff)
  | some v => some (v, .no)
  | none => none
def aop (fr : Tr AV) (m : Tr Blk) (nb : B) : AOp → Option (AV × Eff)
  | .mv x => some (x.ev fr, .no)
  | .pick c a b => match c.ev fr with | .b t => some (if t then a.ev fr else b.ev fr, .no) | _ => none
  | .box ty x => match (x.ev fr).cells with
    | some cs => if cs.all AV.one = true then some (.ref nb 0, .new (.box ty cs)) else none
    | none => none
  | .al ty z => some (.ref nb 0, .new (.box ty z))
  | .bld z parts => match fillA z fr parts with | some cs => some (.ag cs, .no) | none => none
  | .lit0 => some (.e0, .no)
  | .lit sz len own z parts => match fillA z fr parts with
    | some cs => if own then some (.sl nb 0 len, .new (.rows sz true (cs.all AV.pure) (chunk sz len cs))) else if cs.all AV.pure = true then some (.ls sz (chunk sz len cs), .no) else none
    | none => none
  | .ld n a => pure1 (loadA m n (a.ev fr))
  | .st n a x => match storeA m n (a.ev fr) (x.ev fr) with | some e => some (.u, e) | none => none
  | .chk x => match x.ev fr with
    | .ref b o => some (.ref b o, .no)
    | .el b i o => some (.el b i o, .no)
    | .im cs o => some (.im cs o, .no)
    | .fn f cs => some (.fn f cs, .no)
    | _ => none
  | .bin op x y => pure1 (binA op (x.ev fr) (y.ev fr))
  | .beq neg x y => match x.ev fr, y.ev fr with
    | .b a, .b b => some (.b (if neg then !(a == b) else (a == b)), .no)
    | _, _ => none
  | .peq neg x y => match isNil (x.ev fr), isNil (y.ev fr) with
    | some a, some b => if a || b then some (.b (if neg then !(a && b) else (a && b)), .no) else none
    | _, _ => none
  | .eqa neg ks x y => match x.ev fr, y.ev fr with
    | .ag cs, .ag ds => if cs.length = ks.length ∧ ds.length = ks.length then match eqCells ks cs ds with | some t => some (.b (if neg then !t else t), .no) | none => none else none
    | _, _ => none
  | .un op x => pure1 (unA op (x.ev fr))
  | .cvi k x => match x.ev fr with | .i _ n => some (.i k (k.wrap n), .no) | _ => none
  | .fa o x => pure1 (faA o (x.ev fr))
  | .fld n o x => match x.ev fr with | .ag cs => pure1 (getN cs o n) | _ => none
  | .ixa len esz x i => pure1 (ixaA len esz (x.ev fr) (i.ev fr))
  | .ixs esz x i => pure1 (ixsA m esz (x.ev fr) (i.ev fr))
  | .ixv len esz n x i => pure1 (ixvA len esz n (x.ev fr) (i.ev fr))
  | .ixb x i => pure1 (ixbA (x.ev fr) (i.ev fr))
  | .ext n x => match x.ev fr with | .tu vs => pure1 (vs[n]?) | _ => none
  | .cuts x lo hi => pure1 (cutsA (x.ev fr) (lo.map (Opd.ev fr)) (hi.map (Opd.ev fr)))
  | .cut esz x lo hi => pure1 (cutA m esz (x.ev fr) (lo.map (Opd.ev fr)) (hi.map (Opd.ev fr)))
  | .app sz bytes x y => appA m nb sz bytes (x.ev fr) (y.ev fr)
  | .len k x => pure1 (lenA m k (x.ev fr))
  | .alen n => some (.i .i64 n, .no)
  | .mm max x ys => pure1 (mmA max (x.ev fr) (ys.map (Opd.ev fr)))
  | .mkf f cs => some (.fn f (cs.map (Opd.ev fr)), .no)
  | .mkm => some (.mp nb, .new (.map [] 0))
  | .ex k xs => xop m nb k (xs.map (Opd.ev fr))
end Go.Za
