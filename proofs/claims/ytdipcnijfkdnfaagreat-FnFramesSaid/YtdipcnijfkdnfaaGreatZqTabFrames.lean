import Derived.Test.YtdipcnijfkdnfaaGreatZmb
import Derived.Test.YtdipcnijfkdnfaaGreatProg
import Derived.KernelRfl
set_option linter.unusedVariables false
set_option linter.unusedSimpArgs false
namespace Go.Proofs.YtdipcnijfkdnfaaGreatFrames
open Go Go.Zq
set_option maxRecDepth 100000
noncomputable section
def own:List (Nat×List Nat):=[(2,[999]),(3,[999]),(4,[999]),(5,[999]),(6,[999]),(7,[999]),(11,[999]),(13,[999]),(14,[999]),(21,[999]),(22,[999]),(28,[999]),(29,[999]),(30,[999]),(31,[999]),(32,[999]),(34,[999]),(35,[999]),(37,[999]),(38,[999]),(39,[999]),(50,[999]),(51,[999]),(52,[999]),(53,[999]),(54,[999]),(55,[999]),(56,[999]),(57,[999]),(58,[999]),(59,[999]),(60,[999]),(64,[999]),(65,[999]),(66,[999]),(67,[999]),(73,[999]),(76,[999]),(77,[999]),(82,[999]),(95,[999]),(96,[999]),(97,[999]),(98,[999]),(99,[999]),(100,[999]),(106,[999]),(107,[999]),(108,[999]),(109,[999]),(110,[999]),(111,[999]),(112,[999]),(113,[999]),(114,[999]),(115,[999]),(116,[999]),(117,[999]),(124,[999]),(126,[999]),(128,[999]),(129,[999]),(130,[999]),(131,[999]),(132,[999]),(133,[999]),(134,[999]),(135,[999]),(136,[999]),(137,[999]),(141,[999]),(145,[999]),(148,[0]),(154,[999]),(155,[999]),(157,[999]),(159,[999]),(163,[999]),(164,[999]),(167,[0]),(168,[999]),(169,[999]),(170,[999]),(172,[999]),(174,[999]),(175,[999]),(176,[999]),(178,[999]),(179,[999]),(180,[999]),(181,[999]),(187,[999]),(188,[999]),(189,[999]),(190,[999]),(191,[999]),(192,[999]),(193,[999]),(194,[999]),(195,[999]),(197,[999]),(198,[999]),(199,[999]),(206,[999]),(207,[999]),(208,[999]),(210,[999]),(211,[999]),(214,[999]),(216,[999]),(218,[999]),(219,[0]),(225,[999]),(226,[999]),(229,[999]),(230,[999]),(231,[999]),(232,[999]),(233,[999]),(234,[999]),(236,[999]),(240,[999]),(241,[999]),(242,[999]),(243,[999]),(244,[999]),(245,[999]),(246,[999]),(247,[0]),(248,[999]),(249,[999]),(250,[999]),(251,[999]),(252,[999]),(254,[999]),(256,[999]),(257,[999]),(258,[999]),(259,[999]),(260,[999]),(261,[999]),(262,[999]),(268,[999]),(271,[999]),(276,[999]),(277,[999]),(278,[999]),(279,[999]),(280,[999]),(281,[999]),(283,[999]),(284,[999]),(285,[999]),(289,[999]),(290,[999]),(294,[999]),(295,[999]),(296,[999]),(297,[999]),(299,[999]),(301,[999]),(302,[999]),(303,[999]),(304,[999]),(305,[999]),(306,[999]),(307,[999]),(308,[999])]
def aQ4:List (Nat×List Nat):=[(2,[999]),(3,[999]),(4,[999]),(5,[999]),(6,[999]),(7,[999]),(8,[999]),(9,[999]),(10,[999]),(11,[999]),(12,[999]),(13,[999]),(14,[999]),(15,[999]),(16,[999]),(17,[999]),(18,[999]),(19,[999]),(20,[999]),(21,[999]),(22,[999]),(23,[999]),(24,[999]),(25,[999]),(26,[999]),(27,[999]),(28,[999]),(29,[999]),(30,[999]),(31,[999]),(32,[999]),(33,[999]),(34,[999]),(35,[999]),(36,[999]),(37,[999]),(38,[999]),(39,[999]),(40,[999]),(41,[999]),(42,[999]),(43,[999]),(44,[999]),(45,[999]),(46,[999]),(47,[999]),(48,[999]),(49,[999]),(50,[999]),(51,[999]),(52,[999]),(53,[999]),(54,[999]),(55,[999]),(56,[999]),(57,[999]),(58,[999]),(59,[999]),(60,[999]),(61,[999]),(62,[999]),(63,[999]),(64,[999]),(65,[999]),(66,[999]),(67,[999]),(68,[999]),(69,[999]),(70,[999]),(73,[999]),(74,[999]),(76,[999]),(77,[999]),(78,[999]),(82,[999]),(84,[999]),(87,[999]),(91,[999]),(92,[999]),(93,[999]),(94,[999]),(95,[999]),(96,[999]),(97,[999]),(98,[999]),(99,[999]),(100,[999]),(103,[999]),(104,[999]),(105,[999]),(106,[999]),(107,[999]),(108,[999]),(109,[999]),(110,[999]),(111,[999]),(112,[999]),(113,[999]),(114,[999]),(115,[999]),(116,[999]),(117,[999]),(119,[999]),(121,[999]),(122,[999]),(124,[999]),(126,[999]),(127,[999]),(128,[999]),(129,[999]),(130,[999]),(131,[999]),(132,[999]),(133,[999]),(134,[999]),(135,[999]),(136,[999]),(137,[999]),(138,[999]),(139,[999]),(141,[999]),(142,[999]),(143,[999]),(145,[999]),(148,[0]),(151,[999]),(152,[999]),(154,[999]),(155,[999]),(157,[999]),(159,[999]),(161,[999]),(163,[999]),(164,[999]),(167,[0]),(168,[999]),(169,[999]),(170,[999]),(172,[999]),(174,[999]),(175,[999]),(176,[999]),(178,[999]),(179,[999]),(180,[999]),(181,[999]),(184,[999]),(187,[999]),(188,[999]),(189,[999]),(190,[999]),(191,[999]),(192,[999]),(193,[999]),(194,[999]),(195,[999]),(196,[999]),(197,[999]),(198,[999]),(199,[999]),(200,[999]),(201,[999]),(203,[999]),(204,[999]),(206,[999]),(207,[999]),(208,[999]),(210,[999]),(211,[999]),(214,[999]),(216,[999]),(218,[999]),(219,[0]),(225,[999]),(226,[999]),(229,[999]),(230,[999]),(231,[999]),(232,[999]),(233,[999]),(234,[999]),(235,[999]),(236,[999]),(240,[999]),(241,[999]),(242,[999]),(243,[999]),(244,[999]),(245,[999]),(246,[999]),(247,[0]),(248,[999]),(249,[999]),(250,[999]),(251,[999]),(252,[999]),(254,[999]),(256,[999]),(257,[999]),(258,[999]),(259,[999]),(260,[999]),(261,[999]),(262,[999]),(268,[999]),(271,[999]),(276,[999]),(277,[999]),(278,[999]),(279,[999]),(280,[999]),(281,[999]),(283,[999]),(284,[999]),(285,[999]),(289,[999]),(290,[999]),(294,[999]),(295,[999]),(296,[999]),(297,[999]),(299,[999]),(301,[999]),(302,[999]),(303,[999]),(304,[999]),(305,[999]),(306,[999]),(307,[999]),(308,[999])]
theorem rk{f np:Nat}{fn:Func}{h:Hint}(h1:Tryz.prog.funcs[f]? =some fn:=by kernel_rfl)(h2:(fn.name== "runtime.NumGoroutine")=false:=by kernel_rfl)(h3:(zB Tryz.prog h quiet? fn np).isSome=true:=by kernel_rfl):aY Tryz.prog f (bJ Tryz.prog fn h np):=aBV h1 h2 h3
def F4:Zq.Fn:=bJ Tryz.prog Tryz.f4 (aP [(16,[1,6,7,11,15,16])] [(0,[0,1]),(1,[0,1,47]),(2,[4]),(3,[1,5,6]),(4,[1,5,6,7,8]),(5,[1,5,6,7,8,9,10]),(6,[1,5,6,7,8,9,10,11,12]),(7,[1,5,6,7,8,9,10,11,12,13,14]),(8,[1,5,6,7,8,11,12,103]),(9,[4]),(10,[1,5,6,7,11,12,104]),(11,[1,6,7,11,154]),(12,[4]),(13,[1,6,7,11,157]),(14,[1,6,7,11,15]),(15,[1,6,7,11,15,16]),(16,[1,6,7,11,15,16,163]),(17,[1,6,7,11,15,16]),(18,[1,6,7,11,15,16,17,18,19,20]),(19,[1,6,7,11,15,16,17,186]),(20,[4]),(21,[1,6,7,11,15,16]),(22,[1,6,7,11,21,22]),(23,[1,7,11,21,22,23,24]),(24,[1,219]),(25,[4]),(26,[1,25,26]),(27,[1,25,26,27,28]),(28,[1,27,28,29,30]),(29,[1,27,28,29,30,31,32]),(30,[1,27,28,29,30,31,32,33,34]),(31,[1,27,28,29,30,33,34,35,36]),(32,[27,28,29,30,33,34,35,36,37]),(33,[27,28,29,30,33,34,35,36,37,38,39]),(34,[27,28,29,30,33,34,35,36,38,39,40,41]),(35,[4])] [(8,[0,1,2,3,4,5,6,7,8,9,10,11,12,13,14,15,16,17,18,19,20,21,22,23,24,25,26])] aQ4) 2
theorem ok4:aY Tryz.prog 4 F4:=rk
def F11:Zq.Fn:=bJ Tryz.prog Tryz.f11 (aP [] [(0,[2,3]),(1,[4])] [] own) 2
theorem a49:aY Tryz.prog 11 F11:=rk
def F12:Zq.Fn:=bJ Tryz.prog Tryz.f12 (aP [] [(0,[1,2]),(1,[1,2,12]),(2,[2,3,4,5]),(3,[2,6]),(4,[2,6,7,9]),(5,[2,3,4,5])] [] own) 1
theorem a5A:aY Tryz.prog 12 F12:=rk
def F13:Zq.Fn:=bJ Tryz.prog Tryz.f13 (aP [] [(0,[2,3]),(1,[4])] [] own) 2
theorem a5B:aY Tryz.prog 13 F13:=rk
def F14:Zq.Fn:=bJ Tryz.prog Tryz.f14 (aP [(4,[0,1,12,13])] [(0,[0,1]),(1,[0,1,10]),(2,[4]),(3,[0,1,12,13]),(4,[0,1,12,13,14]),(5,[0,1,5,12,13]),(6,[0,1,12,13,24]),(7,[4]),(8,[0,1,12,13]),(9,[4])] [(6,[0,1,2,3,4,5,6,7,8])] own) 2
theorem a5C:aY Tryz.prog 14 F14:=rk
def F20:Zq.Fn:=bJ Tryz.prog Tryz.f20 (aP [] [(0,[0,1,4]),(1,[1,4,6,7]),(2,[1,4,6,20]),(3,[4,5]),(4,[1,4,6,8]),(5,[4,6,8]),(6,[4,6,8]),(7,[4,5])] [] own) 2
theorem a5D:aY Tryz.prog 20 F20:=rk
def F23:Zq.Fn:=bJ Tryz.prog Tryz.f23 (aP [] [(0,[0,2,3]),(1,[2,3,4]),(2,[2,3])] [] own) 1
theorem a5E:aY Tryz.prog 23 F23:=rk
def F24:Zq.Fn:=bJ Tryz.prog Tryz.f24 (aP [] [(0,[2,3,4]),(1,[2,3,4,18]),(2,[4,5]),(3,[3,4,6]),(4,[4,6]),(5,[4,5])] [] own) 2
theorem a5F:aY Tryz.prog 24 F24:=rk
def F25:Zq.Fn:=bJ Tryz.prog Tryz.f25 (aP [] [(0,[2,3,4]),(1,[2,3,4,17]),(2,[4,5]),(3,[4,5])] [] own) 2
theorem a5G:aY Tryz.prog 25 F25:=rk
def F26:Zq.Fn:=bJ Tryz.prog Tryz.f26 (aP [] [(0,[2,3]),(1,[2,3,13]),(2,[4,5]),(3,[4,5])] [] own) 2
theorem a5H:aY Tryz.prog 26 F26:=rk
def F27:Zq.Fn:=bJ Tryz.prog Tryz.f27 (aP [] [(0,[2,3]),(1,[2,3,13]),(2,[4,5]),(3,[4,5])] [] own) 2
theorem a5I:aY Tryz.prog 27 F27:=rk
def F28:Zq.Fn:=bJ Tryz.prog Tryz.f28 (aP [] [(0,[1]),(1,[1,24]),(2,[2]),(3,[2])] [] own) 1
theorem a5J:aY Tryz.prog 28 F28:=rk
def F29:Zq.Fn:=bJ Tryz.prog Tryz.f29 (aP [] [(0,[1]),(1,[1,24]),(2,[2]),(3,[2])] [] own) 1
theorem a5K:aY Tryz.prog 29 F29:=rk
def F30:Zq.Fn:=bJ Tryz.prog Tryz.f30 (aP [] [(0,[1]),(1,[2])] [] own) 1
theorem a5L:aY Tryz.prog 30 F30:=rk
def F31:Zq.Fn:=bJ Tryz.prog Tryz.f31 (aP [] [(0,[1,2]),(1,[1,2,13]),(2,[4,5]),(3,[4,5])] [] own) 2
theorem a5M:aY Tryz.prog 31 F31:=rk
def F32:Zq.Fn:=bJ Tryz.prog Tryz.f32 (aP [] [(0,[1]),(1,[1,6]),(2,[2,3]),(3,[2,3])] [] own) 1
theorem a5N:aY Tryz.prog 32 F32:=rk
def F33:Zq.Fn:=bJ Tryz.prog Tryz.f33 (aP [] [(0,[0,2,3]),(1,[2,3])] [] own) 1
theorem a5O:aY Tryz.prog 33 F33:=rk
def F34:Zq.Fn:=bJ Tryz.prog Tryz.f34 (aP [] [(0,[2,3]),(1,[2,3,18]),(2,[4,5]),(3,[4,5])] [] own) 2
theorem a5P:aY Tryz.prog 34 F34:=rk
def F35:Zq.Fn:=bJ Tryz.prog Tryz.f35 (aP [] [(0,[2,3]),(1,[2,3,19]),(2,[4,5]),(3,[4,5])] [] own) 2
theorem a5Q:aY Tryz.prog 35 F35:=rk
def F36:Zq.Fn:=bJ Tryz.prog Tryz.f36 (aP [] [(0,[0,2]),(1,[2,4]),(2,[2,3])] [] own) 1
theorem a5R:aY Tryz.prog 36 F36:=rk
def F37:Zq.Fn:=bJ Tryz.prog Tryz.f37 (aP [] [(0,[1,2]),(1,[1,2,13]),(2,[4,5]),(3,[4,5])] [] own) 2
theorem a5S:aY Tryz.prog 37 F37:=rk
def F38:Zq.Fn:=bJ Tryz.prog Tryz.f38 (aP [] [(0,[0,2]),(1,[2])] [] own) 1
theorem a5T:aY Tryz.prog 38 F38:=rk
def F39:Zq.Fn:=bJ Tryz.prog Tryz.f39 (aP [] [(0,[1]),(1,[1,6]),(2,[2,3]),(3,[2,3])] [] own) 1
theorem a5U:aY Tryz.prog 39 F39:=rk
def F71:Zq.Fn:=bJ Tryz.prog Tryz.f71 (aP [] [(0,[0,2]),(1,[0,2,3,4]),(2,[0,2,3,4,5]),(3,[0,2,5,6,7]),(4,[0,2,5,6,23]),(5,[0,2,5,6]),(6,[0,2,5,6,8]),(7,[0,2,5,6,8]),(8,[0,2,5,6]),(9,[2,5,6,37]),(10,[2,5,6,37,38]),(11,[2,6]),(12,[2,5,6,37,41]),(13,[2,6]),(14,[2,5,6,44]),(15,[2,6]),(16,[2])] [] own) 1
theorem a5V:aY Tryz.prog 71 F71:=rk
def F72:Zq.Fn:=bJ Tryz.prog Tryz.f72 (aP [] [(0,[0]),(1,[0,4]),(2,[2]),(3,[2])] [] own) 1
theorem a5W:aY Tryz.prog 72 F72:=rk
def F73:Zq.Fn:=bJ Tryz.prog Tryz.f73 (aP [] [(0,[0]),(1,[2])] [] own) 1
theorem a5X:aY Tryz.prog 73 F73:=rk
def F74:Zq.Fn:=bJ Tryz.prog Tryz.f74 (aP [] [(0,[1,2]),(1,[2])] [(1,[0,1,2,3,4,5,6,7,8,9,10,11])] own) 1
theorem a5Y:aY Tryz.prog 74 F74:=rk
def F75:Zq.Fn:=bJ Tryz.prog Tryz.f75 (aP [] [(0,[0,1]),(1,[0,1,6]),(2,[0,6,8]),(3,[0,6,8,28]),(4,[6,8]),(5,[4,5])] [] own) 2
theorem a5Z:aY Tryz.prog 75 F75:=rk
def F76:Zq.Fn:=bJ Tryz.prog Tryz.f76 (aP [] [(0,[1]),(1,[2])] [] own) 1
theorem a50:aY Tryz.prog 76 F76:=rk
def F77:Zq.Fn:=bJ Tryz.prog Tryz.f77 (aP [] [(0,[0]),(1,[2])] [] own) 1
theorem a51:aY Tryz.prog 77 F77:=rk
def F78:Zq.Fn:=bJ Tryz.prog Tryz.f78 (aP [] [(0,[1]),(1,[3]),(2,[2])] [] own) 1
theorem a52:aY Tryz.prog 78 F78:=rk
def F79:Zq.Fn:=bJ Tryz.prog Tryz.f79 (aP [] [(0,[0,1,4]),(1,[0,4]),(2,[0,4,19]),(3,[])] [] own) 2
theorem a53:aY Tryz.prog 79 F79:=rk
def F80:Zq.Fn:=bJ Tryz.prog Tryz.f80 (aP [] [(0,[0,2]),(1,[2])] [(1,[0,1,2,3,4,5,6,7,8,9,10,11,12,13,14])] own) 1
theorem a54:aY Tryz.prog 80 F80:=rk
def F81:Zq.Fn:=bJ Tryz.prog Tryz.f81 (aP [] [(0,[0]),(1,[2])] [] own) 1
theorem a55:aY Tryz.prog 81 F81:=rk
def F82:Zq.Fn:=bJ Tryz.prog Tryz.f82 (aP [] [(0,[2,3]),(1,[4])] [] own) 2
theorem a56:aY Tryz.prog 82 F82:=rk
def F83:Zq.Fn:=bJ Tryz.prog Tryz.f83 (aP [] [(0,[0]),(1,[0,5]),(2,[0,5,6,7]),(3,[0,5,6,7,24]),(4,[5,6,7]),(5,[2,3,4])] [] own) 1
theorem a57:aY Tryz.prog 83 F83:=rk
def F86:Zq.Fn:=bJ Tryz.prog Tryz.f86 (aP [] [(0,[0,1]),(1,[4])] [] own) 2
theorem a58:aY Tryz.prog 86 F86:=rk
def F89:Zq.Fn:=bJ Tryz.prog Tryz.f89 (aP [] [(0,[0,1]),(1,[0,1,7]),(2,[4]),(3,[0,1,5]),(4,[0,1,5,11]),(5,[1,5]),(6,[4])] [] own) 2
theorem a59:aY Tryz.prog 89 F89:=rk
def F90:Zq.Fn:=bJ Tryz.prog Tryz.f90 (aP [] [(0,[0,1]),(1,[4])] [] own) 2
theorem a6A:aY Tryz.prog 90 F90:=rk
def F93:Zq.Fn:=bJ Tryz.prog Tryz.f93 (aP [(5,[1,4,6,32,33,34]),(10,[4,6,45,46,47])] [(0,[0,1,4]),(1,[0,1,4,28]),(2,[4,5]),(3,[0,1,4,6]),(4,[1,4,6,32,33,34]),(5,[1,4,6,32,33,34,35]),(6,[1,4,6,7,8,32,33,34]),(7,[1,4,6,32,33,34]),(8,[1,4,6,32,33,34]),(9,[4,6,45,46,47]),(10,[4,6,45,46,47,48]),(11,[4,6,9,10,45,46,47]),(12,[4,6,45,46,47]),(13,[4,6,45,46,47]),(14,[4,5])] [] own) 2
theorem a6B:aY Tryz.prog 93 F93:=rk
def F94:Zq.Fn:=bJ Tryz.prog Tryz.f94 (aP [] [(0,[0]),(1,[0])] [] own) 0
theorem a6C:aY Tryz.prog 94 F94:=rk
def F101:Zq.Fn:=bJ Tryz.prog Tryz.f101 (aP [] [(0,[0,2]),(1,[0,2,3]),(2,[0,2,3,16]),(3,[0,2,3]),(4,[0,2,3]),(5,[0,2,3,25]),(6,[2,3]),(7,[2])] [] own) 1
theorem aWJ:aY Tryz.prog 101 F101:=rk
def F102:Zq.Fn:=bJ Tryz.prog Tryz.f102 (aP [(5,[0,3,29,30,31])] [(0,[0,3]),(1,[0,3,4]),(2,[0,3,4]),(3,[0,3,4]),(4,[0,3,29,30,31]),(5,[0,3,29,30,31,32]),(6,[0,3,6,29,30,31]),(7,[0,3,8,29,30,31]),(8,[0,3,29,30,31,42]),(9,[]),(10,[0,3,29,30,31]),(11,[0,9,10]),(12,[0,9,58]),(13,[]),(14,[])] [(1,[0,1,2,3,4,5]),(3,[0,1,2,3,4,5,6,7,8,9]),(11,[0,1,2,3,4,5,6,7,8,9,10,11])] own) 2
theorem aWK:aY Tryz.prog 102 F102:=rk
def F103:Zq.Fn:=bJ Tryz.prog Tryz.f103 (aP [(5,[4,6,7,38,39,40])] [(0,[2,3,4,6]),(1,[2,4,6,7]),(2,[2,4,6,7,8]),(3,[4,6,7,8]),(4,[4,6,7,38,39,40]),(5,[4,6,7,38,39,40,41]),(6,[4,6,7,10,38,39,40]),(7,[4,6,7,10,38,39,40,45]),(8,[4,6,7,38,39,40]),(9,[4,6,7,38,39,40]),(10,[4,6,7,51]),(11,[6,7,11]),(12,[6,7,11,58]),(13,[6,7]),(14,[6,7]),(15,[6,7,12]),(16,[6,12]),(17,[6])] [(2,[0,1,2,3,4,5,6]),(3,[0,1,2,3,4,5,6,7,8,9,10,11,12,13,14,15,16,17])] own) 3
theorem aWL:aY Tryz.prog 103 F103:=rk
def F104:Zq.Fn:=bJ Tryz.prog Tryz.f104 (aP [] [(0,[2,3]),(1,[2,3,5]),(2,[2,3,5,12]),(3,[5]),(4,[4])] [(1,[0,1,2,3,4,5]),(3,[0,1,2,3,4,5,6,7,8,9,10])] own) 2
theorem aWM:aY Tryz.prog 104 F104:=rk
def F105:Zq.Fn:=bJ Tryz.prog Tryz.f105 (aP [] [(0,[2,3]),(1,[2,3,5]),(2,[2,3,5,13]),(3,[5]),(4,[4])] [(1,[0,1,2,3,4,5]),(3,[0,1,2,3,4,5,6,7,8,9,10,11])] own) 2
theorem aWN:aY Tryz.prog 105 F105:=rk
def F106:Zq.Fn:=bJ Tryz.prog Tryz.f106 (aP [] [(0,[0,1,2]),(1,[6])] [] own) 3
theorem aWO:aY Tryz.prog 106 F106:=rk
def F107:Zq.Fn:=bJ Tryz.prog Tryz.f107 (aP [] [(0,[1]),(1,[2])] [] own) 1
theorem aWP:aY Tryz.prog 107 F107:=rk
def F108:Zq.Fn:=bJ Tryz.prog Tryz.f108 (aP [] [(0,[0,1,2]),(1,[6])] [] own) 3
theorem aWQ:aY Tryz.prog 108 F108:=rk
def F109:Zq.Fn:=bJ Tryz.prog Tryz.f109 (aP [] [(0,[0]),(1,[2])] [] own) 1
theorem aWR:aY Tryz.prog 109 F109:=rk
def F110:Zq.Fn:=bJ Tryz.prog Tryz.f110 (aP [] [(0,[1]),(1,[2])] [] own) 1
theorem aWS:aY Tryz.prog 110 F110:=rk
def F111:Zq.Fn:=bJ Tryz.prog Tryz.f111 (aP [] [(0,[1]),(1,[2])] [] own) 1
theorem aWT:aY Tryz.prog 111 F111:=rk
def F112:Zq.Fn:=bJ Tryz.prog Tryz.f112 (aP [] [(0,[1,2]),(1,[1,2,18]),(2,[4,5]),(3,[4,5])] [] own) 2
theorem aWU:aY Tryz.prog 112 F112:=rk
def F113:Zq.Fn:=bJ Tryz.prog Tryz.f113 (aP [] [(0,[2,3]),(1,[4])] [(1,[0,1,2,3,4,5,6,7,8])] own) 2
theorem aWV:aY Tryz.prog 113 F113:=rk
def F114:Zq.Fn:=bJ Tryz.prog Tryz.f114 (aP [] [(0,[0,3]),(1,[4])] [] own) 2
theorem aWW:aY Tryz.prog 114 F114:=rk
def F115:Zq.Fn:=bJ Tryz.prog Tryz.f115 (aP [] [(0,[1,2]),(1,[1,2,18]),(2,[4,5]),(3,[4,5])] [(3,[0,1,2,3,4,5,6,7,8,9,10,11,12,13,14])] own) 2
theorem aWX:aY Tryz.prog 115 F115:=rk
def F116:Zq.Fn:=bJ Tryz.prog Tryz.f116 (aP [] [(0,[0,2]),(1,[2,3]),(2,[2])] [] own) 1
theorem aWY:aY Tryz.prog 116 F116:=rk
def F122:Zq.Fn:=bJ Tryz.prog Tryz.f122 (aP [] [(0,[1,2]),(1,[1,2]),(2,[1,2]),(3,[2])] [] own) 1
theorem aWZ:aY Tryz.prog 122 F122:=rk
def F123:Zq.Fn:=bJ Tryz.prog Tryz.f123 (aP [] [(0,[0,2]),(1,[0,2,3]),(2,[0,2,3,7]),(3,[2,3]),(4,[2])] [] own) 1
theorem aW0:aY Tryz.prog 123 F123:=rk
def F126:Zq.Fn:=bJ Tryz.prog Tryz.f126 (aP [] [(0,[1]),(1,[1,43]),(2,[2]),(3,[1,3]),(4,[1,3,4]),(5,[1,3,4,51]),(6,[1,3,4,51,52]),(7,[1,3,4,51,52]),(8,[1,3,4,51,52]),(9,[1,3,4,51,52]),(10,[1,3,4,51,52]),(11,[1,3,4,51,52]),(12,[1,3,4,51,52]),(13,[2]),(14,[1,3,4,51,70]),(15,[2]),(16,[1,3,4,51,83]),(17,[2]),(18,[1,3,4,51,91]),(19,[2]),(20,[1,3,4,51,103]),(21,[2]),(22,[1,3,4,51,121]),(23,[2]),(24,[1,3,4,51,125]),(25,[2]),(26,[1,3,4,51,137]),(27,[2]),(28,[1,3,4,51,154]),(29,[1,3,4,51,154]),(30,[2]),(31,[1,3,4,51,167]),(32,[2]),(33,[1,3,51,180]),(34,[2]),(35,[1,3,208]),(36,[1,3,212]),(37,[2]),(38,[2]),(39,[2])] [] own) 1
theorem aW1:aY Tryz.prog 126 F126:=rk
def F149:Zq.Fn:=bJ Tryz.prog Tryz.f149 (aP [(4,[0,4,5,16,17]),(11,[4,5,34,35,36])] [(0,[0]),(1,[0,4]),(2,[0,4,5]),(3,[0,4,5,16,17]),(4,[0,4,5,16,17,18]),(5,[0,4,5,6,16,17]),(6,[0,4,5,6,16,17,21]),(7,[0,4,5,16,17]),(8,[0,4,5,16,17]),(9,[4,5,7]),(10,[4,5,34,35,36]),(11,[4,5,34,35,36,37]),(12,[4,5,9,10,34,35,36]),(13,[4,5,9,10,34,35,36,48]),(14,[4,5,9,10,34,35,36]),(15,[4,5,34,35,36]),(16,[4,5,34,35,36]),(17,[2,3])] [] own) 1
theorem aW2:aY Tryz.prog 149 F149:=rk
def F150:Zq.Fn:=bJ Tryz.prog Tryz.f150 (aP [(3,[0,2,3,4])] [(0,[0,2]),(1,[0,2,3]),(2,[0,2,3,4]),(3,[0,2,3,4,7]),(4,[0,2,3,4]),(5,[0,2,3,4]),(6,[0,2,3,4]),(7,[0,2,3]),(8,[0,2,3]),(9,[0,2,3]),(10,[0,2,3]),(11,[0,2,3]),(12,[0,2,3]),(13,[0,2,3]),(14,[2,3,52]),(15,[2,3,52,53]),(16,[2,3]),(17,[2,3,58]),(18,[2,3]),(19,[2])] [(5,[0,1,2,3,4,5,6,7]),(6,[0,1,2,3,4,5,6,7]),(7,[0,1,2,3,4,5,6])] own) 1
theorem aW3:aY Tryz.prog 150 F150:=rk
def F151:Zq.Fn:=bJ Tryz.prog Tryz.f151 (aP [] [(0,[1,2]),(1,[1,2]),(2,[2])] [(1,[0,1,2,3,4,5,6,7,8,9])] own) 1
theorem aW4:aY Tryz.prog 151 F151:=rk
def F152:Zq.Fn:=bJ Tryz.prog Tryz.f152 (aP [] [(0,[1,2]),(1,[2])] [(1,[0,1,2,3,4,5,6,7])] own) 1
theorem aW5:aY Tryz.prog 152 F152:=rk
def F153:Zq.Fn:=bJ Tryz.prog Tryz.f153 (aP [] [(0,[0,1,2,3,4]),(1,[0,1,2,3,4,12]),(2,[0,1,2,3,4,12,13]),(3,[0,1,2,3,4,12,13,21]),(4,[0,1,2,3,4,12,13]),(5,[0,1,2,3,4,12,13,14]),(6,[0,1,2,3,12,14]),(7,[0,1,2,3,12,13,14]),(8,[0,1,2,3,4,12,13,14,27]),(9,[0,1,2,3,4,12,13,14,30]),(10,[0,1,2,3,12,13,14]),(11,[0,1,2,3,12,13,14,52]),(12,[12,14]),(13,[10,11])] [] own) 5
theorem aW6:aY Tryz.prog 153 F153:=rk
def F154:Zq.Fn:=bJ Tryz.prog Tryz.f154 (aP [] [(0,[1]),(1,[2])] [] own) 1
theorem aW7:aY Tryz.prog 154 F154:=rk
def F155:Zq.Fn:=bJ Tryz.prog Tryz.f155 (aP [(2,[1,6,7,8])] [(0,[1]),(1,[1,6,7,8]),(2,[1,6,7,8,9]),(3,[1,4,6,7,8]),(4,[1,6,7,8,14]),(5,[2]),(6,[1,6,7,8]),(7,[2])] [] own) 1
theorem aW8:aY Tryz.prog 155 F155:=rk
def F156:Zq.Fn:=bJ Tryz.prog Tryz.f156 (aP [] [(0,[0,1,2,3,4]),(1,[0,1,3,11,12]),(2,[0,1,3,11,12,33]),(3,[0,1,3,11,12]),(4,[0,1,3,11,39]),(5,[0,1,3,11]),(6,[0,1,11]),(7,[11]),(8,[10])] [] own) 5
theorem aW9:aY Tryz.prog 156 F156:=rk
def F157:Zq.Fn:=bJ Tryz.prog Tryz.f157 (aP [(4,[0,1,12,13])] [(0,[0,1]),(1,[0,1,10]),(2,[4]),(3,[0,1,12,13]),(4,[0,1,12,13,14]),(5,[0,1,5,12,13]),(6,[0,1,12,13,24]),(7,[4]),(8,[0,1,12,13]),(9,[4])] [(6,[0,1,2,3,4,5,6,7,8])] own) 2
theorem aXA:aY Tryz.prog 157 F157:=rk
def F161:Zq.Fn:=bJ Tryz.prog Tryz.f161 (aP [] [(0,[1,2]),(1,[1,2]),(2,[1,2]),(3,[2])] [] own) 1
theorem aXB:aY Tryz.prog 161 F161:=rk
def F162:Zq.Fn:=bJ Tryz.prog Tryz.f162 (aP [] [(0,[0]),(1,[0,3]),(2,[0,3,13]),(3,[0,3]),(4,[0,3]),(5,[0,3]),(6,[0,3,53]),(7,[2]),(8,[2])] [(2,[0,1,2,3,4,5,6,7,8,9]),(3,[0,1,2,3,4,5,6,7,8,9,10,11]),(6,[0,1,2,3,4,5,6,7,8,9])] own) 1
theorem aXC:aY Tryz.prog 162 F162:=rk
def F164:Zq.Fn:=bJ Tryz.prog Tryz.f164 (aP [(2,[5,6,7])] [(0,[0]),(1,[5,6,7]),(2,[5,6,7,8]),(3,[4,5,6,7]),(4,[5,6,7,13]),(5,[2]),(6,[5,6,7]),(7,[2])] [] own) 1
theorem aXD:aY Tryz.prog 164 F164:=rk
def F165:Zq.Fn:=bJ Tryz.prog Tryz.f165 (aP [] [(0,[0,1]),(1,[0,4]),(2,[0,4,30]),(3,[0]),(4,[])] [(4,[0,1,2,3,4,5,6,7,8,9,10,11,12,13,14,15,16,17,18,19])] own) 2
theorem aXE:aY Tryz.prog 165 F165:=rk
def F166:Zq.Fn:=bJ Tryz.prog Tryz.f166 (aP [] [(0,[0]),(1,[2])] [(1,[0,1,2,3,4,5,6,7,8,9,10,11,12,13,14,15,16,17,18,19,20,21,22])] own) 1
theorem aXF:aY Tryz.prog 166 F166:=rk
def F167:Zq.Fn:=bJ Tryz.prog Tryz.f167 (aP [] [(0,[1,2,4]),(1,[1,2,4,5]),(2,[1,2,4,5,13]),(3,[1,2,4,5,6]),(4,[1,2,4,5,6]),(5,[1,2,4,5]),(6,[1,2,4]),(7,[1,2,4]),(8,[1,2,4]),(9,[2,4]),(10,[4])] [] own) 2
theorem aXG:aY Tryz.prog 167 F167:=rk
def F168:Zq.Fn:=bJ Tryz.prog Tryz.f168 (aP [] [(0,[1]),(1,[2])] [(1,[0,1,2,3,4,5,6,7,8,9,10,11,12,13,14])] own) 1
theorem aXH:aY Tryz.prog 168 F168:=rk
def F169:Zq.Fn:=bJ Tryz.prog Tryz.f169 (aP [] [(0,[0]),(1,[2])] [] own) 1
theorem aXI:aY Tryz.prog 169 F169:=rk
def F170:Zq.Fn:=bJ Tryz.prog Tryz.f170 (aP [] [(0,[0]),(1,[2])] [] own) 1
theorem aXJ:aY Tryz.prog 170 F170:=rk
def F171:Zq.Fn:=bJ Tryz.prog Tryz.f171 (aP [] [(0,[0,1]),(1,[4])] [] own) 2
theorem aXK:aY Tryz.prog 171 F171:=rk
def F172:Zq.Fn:=bJ Tryz.prog Tryz.f172 (aP [] [(0,[0]),(1,[2])] [] own) 1
theorem aXL:aY Tryz.prog 172 F172:=rk
def F173:Zq.Fn:=bJ Tryz.prog Tryz.f173 (aP [] [(0,[0,1]),(1,[4])] [] own) 2
theorem aXM:aY Tryz.prog 173 F173:=rk
def F174:Zq.Fn:=bJ Tryz.prog Tryz.f174 (aP [] [(0,[1]),(1,[2])] [] own) 1
theorem aXN:aY Tryz.prog 174 F174:=rk
def F175:Zq.Fn:=bJ Tryz.prog Tryz.f175 (aP [] [(0,[1]),(1,[2])] [] own) 1
theorem aXO:aY Tryz.prog 175 F175:=rk
def F176:Zq.Fn:=bJ Tryz.prog Tryz.f176 (aP [] [(0,[0,1,2]),(1,[0,1,2,15]),(2,[6]),(3,[0,7,8]),(4,[0,7,8,23]),(5,[6]),(6,[30]),(7,[6]),(8,[6])] [] own) 3
theorem aXP:aY Tryz.prog 176 F176:=rk
def F177:Zq.Fn:=bJ Tryz.prog Tryz.f177 (aP [] [(0,[0,1,2]),(1,[0,2,8]),(2,[6]),(3,[6])] [(3,[0,1,2,3,4,5,6,7,8,9,10,11,12,13,14,15,16,17])] own) 3
theorem aXQ:aY Tryz.prog 177 F177:=rk
def F178:Zq.Fn:=bJ Tryz.prog Tryz.f178 (aP [] [(0,[0,1]),(1,[1,5]),(2,[4]),(3,[4])] [] own) 2
theorem aXR:aY Tryz.prog 178 F178:=rk
def F179:Zq.Fn:=bJ Tryz.prog Tryz.f179 (aP [] [(0,[0,1]),(1,[1,5]),(2,[4]),(3,[4])] [] own) 2
theorem aXS:aY Tryz.prog 179 F179:=rk
def F180:Zq.Fn:=bJ Tryz.prog Tryz.f180 (aP [] [(0,[0]),(1,[2])] [] own) 1
theorem aXT:aY Tryz.prog 180 F180:=rk
def F181:Zq.Fn:=bJ Tryz.prog Tryz.f181 (aP [] [(0,[0,1,2]),(1,[0,1,2,7]),(2,[0,2,7,12]),(3,[6]),(4,[0,2,7,20]),(5,[6]),(6,[29]),(7,[6]),(8,[6])] [] own) 3
theorem aXU:aY Tryz.prog 181 F181:=rk
def F184:Zq.Fn:=bJ Tryz.prog Tryz.f184 (aP [] [(0,[1,2]),(1,[2,999999])] [(1,[0,1,2,3,4,5,6,7,8,9])] own) 1
theorem aXV:aY Tryz.prog 184 F184:=rk
def F185:Zq.Fn:=bJ Tryz.prog Tryz.f185 (aP [(2,[0,2,3])] [(0,[0,2]),(1,[0,2,3]),(2,[0,2,3,6]),(3,[0,2,3]),(4,[0,2,3,4]),(5,[0,2,3,4,21]),(6,[0,2,3,4,21,22]),(7,[0,2,3,4]),(8,[0,2,3,4]),(9,[0,2,3,4,21,28]),(10,[0,2,3,4,21,28]),(11,[0,2,3,4]),(12,[0,2,3,4]),(13,[0,2,3,4]),(14,[0,2,3,4,53]),(15,[0,2,3,4]),(16,[0,2,3,4,21,55]),(17,[0,2,3,4]),(18,[0,2,3,4,21,66]),(19,[0,2,3,4]),(20,[0,2,3,4]),(21,[0,2,3,4]),(22,[0,2,3,4,21,73]),(23,[0,2,3,4]),(24,[0,2,3,4,81]),(25,[0,2,3,4]),(26,[0,2,3,4,87]),(27,[0,2,3,4]),(28,[0,2,3,4,21,93]),(29,[0,2,3,4]),(30,[0,2,3,4,101]),(31,[0,2,3,4]),(32,[0,2,3,4,21,105]),(33,[0,2,3,4,21,105]),(34,[0,2,3,4,21,105]),(35,[0,2,3,4,105]),(36,[0,2,3,4]),(37,[0,2,3,4,119]),(38,[0,2,3,4]),(39,[0,2,3,4,127]),(40,[2]),(41,[2])] [(11,[0,1,2,3,4,5,6,7,8,9,10,11,12])] own) 1
theorem aXW:aY Tryz.prog 185 F185:=rk
def F186:Zq.Fn:=bJ Tryz.prog Tryz.f186 (aP [] [(0,[0,2]),(1,[0,2,3]),(2,[0,2,3,9]),(3,[0,2,3]),(4,[0,2,3,15]),(5,[0,2,3]),(6,[0,2,3,21]),(7,[2,3]),(8,[2])] [] own) 1
theorem aXX:aY Tryz.prog 186 F186:=rk
def F187:Zq.Fn:=bJ Tryz.prog Tryz.f187 (aP [] [(0,[0]),(1,[2])] [] own) 1
theorem aXY:aY Tryz.prog 187 F187:=rk
def F190:Zq.Fn:=bJ Tryz.prog Tryz.f190 (aP [] [(0,[0]),(1,[2])] [] own) 1
theorem aXZ:aY Tryz.prog 190 F190:=rk
def F191:Zq.Fn:=bJ Tryz.prog Tryz.f191 (aP [] [(0,[1]),(1,[1,22]),(2,[2]),(3,[2])] [] own) 1
theorem aX0:aY Tryz.prog 191 F191:=rk
def F192:Zq.Fn:=bJ Tryz.prog Tryz.f192 (aP [] [(0,[0]),(1,[2])] [] own) 1
theorem aX1:aY Tryz.prog 192 F192:=rk
def F193:Zq.Fn:=bJ Tryz.prog Tryz.f193 (aP [] [(0,[0]),(1,[2])] [] own) 1
theorem aX2:aY Tryz.prog 193 F193:=rk
def F194:Zq.Fn:=bJ Tryz.prog Tryz.f194 (aP [] [(0,[1]),(1,[2])] [] own) 1
theorem aX3:aY Tryz.prog 194 F194:=rk
def F195:Zq.Fn:=bJ Tryz.prog Tryz.f195 (aP [] [(0,[1]),(1,[2])] [] own) 1
theorem aX4:aY Tryz.prog 195 F195:=rk
def F196:Zq.Fn:=bJ Tryz.prog Tryz.f196 (aP [] [(0,[1]),(1,[1,3]),(2,[1,3,33]),(3,[3]),(4,[2])] [] own) 1
theorem aX5:aY Tryz.prog 196 F196:=rk
def F201:Zq.Fn:=bJ Tryz.prog Tryz.f201 (aP [(3,[0,4,7,8,9])] [(0,[0]),(1,[0,4]),(2,[0,4,7,8,9]),(3,[0,4,7,8,9,10]),(4,[0,4,6,7,8,9]),(5,[0,4,6,7,8,9,15]),(6,[2,3]),(7,[0,4,7,8,9]),(8,[0,4,7,8,9]),(9,[4,23]),(10,[2,3]),(11,[2,3])] [] own) 1
theorem aX6:aY Tryz.prog 201 F201:=rk
def F202:Zq.Fn:=bJ Tryz.prog Tryz.f202 (aP [(5,[0,3,4])] [(0,[0]),(1,[0,3]),(2,[0,3,4]),(3,[0,3,4,8]),(4,[0,3,4]),(5,[0,3,4,13]),(6,[0,3,4]),(7,[0,3,4]),(8,[0,3,27]),(9,[3]),(10,[2])] [] own) 1
theorem aX7:aY Tryz.prog 202 F202:=rk
def aX8:CloneSh Tryz.prog 203 1 8:={fn:=Tryz.f203,h:=aP [] [] [] [],q:=quiet?,dr:=iH (by kernel_rfl),t:=23,e:=3,z:=[.lit (.int .i64 0)],x:=_,y:=_,i0:=_,i1:=_,ops0:=_,o1:=_,o2:=_,hb:=rfl,hf:=by kernel_rfl,hname:=by kernel_rfl,hn:=by kernel_rfl,hr:=by kernel_rfl,hA:=by kernel_rfl,ho1:=by kernel_rfl,ho2:=by kernel_rfl,hd2:=by kernel_rfl,hg2:=by kernel_rfl,ht:=by kernel_rfl,hx:=by kernel_rfl,hz:=by kernel_rfl,hy:=by kernel_rfl}
def aX9:CloneSh Tryz.prog 204 5 40:={fn:=Tryz.f204,h:=aP [] [] [] [],q:=quiet?,dr:=iH (by kernel_rfl),t:=26,e:=117,z:=[.lit (.int .i64 0), .lit (.int .i64 0), .lit (.int .i64 0), .lit (.int .i64 0), .lit (.int .i64 0)],x:=_,y:=_,i0:=_,i1:=_,ops0:=_,o1:=_,o2:=_,hb:=rfl,hf:=by kernel_rfl,hname:=by kernel_rfl,hn:=by kernel_rfl,hr:=by kernel_rfl,hA:=by kernel_rfl,ho1:=by kernel_rfl,ho2:=by kernel_rfl,hd2:=by kernel_rfl,hg2:=by kernel_rfl,ht:=by kernel_rfl,hx:=by kernel_rfl,hz:=by kernel_rfl,hy:=by kernel_rfl}
def F205:Zq.Fn:=bJ Tryz.prog Tryz.f205 (aP [] [(0,[0,2,3,9]),(1,[0,2,3]),(2,[0,2,3]),(3,[])] [] own) 4
theorem aYA:aY Tryz.prog 205 F205:=rk
def F206:Zq.Fn:=bJ Tryz.prog Tryz.f206 (aP [(2,[0,5,6,7])] [(0,[0]),(1,[0,5,6,7]),(2,[0,5,6,7,8]),(3,[0,4,5,6,7]),(4,[0,5,6,7,13]),(5,[2]),(6,[0,5,6,7]),(7,[2])] [] own) 1
theorem aYB:aY Tryz.prog 206 F206:=rk
def F207:Zq.Fn:=bJ Tryz.prog Tryz.f207 (aP [] [(0,[0]),(1,[2])] [] own) 1
theorem aYC:aY Tryz.prog 207 F207:=rk
def F208:Zq.Fn:=bJ Tryz.prog Tryz.f208 (aP [] [(0,[1]),(1,[1,26]),(2,[2]),(3,[2])] [] own) 1
theorem aYD:aY Tryz.prog 208 F208:=rk
def F209:Zq.Fn:=bJ Tryz.prog Tryz.f209 (aP [(7,[0,1,2,3,4,12,13,14])] [(0,[0,1,2,3,4]),(1,[0,1,2,3,4,12]),(2,[0,1,2,3,4,12,13]),(3,[0,1,2,3,4,12,13,21]),(4,[0,1,2,3,4,12,13]),(5,[0,1,2,3,4,12,13,23]),(6,[0,1,2,3,4,12,13,14]),(7,[0,1,2,3,4,12,13,14,26]),(8,[0,1,2,3,4,12,13,14]),(9,[0,1,2,3,4,12,13,14,30]),(10,[0,1,2,3,4,12,13,14]),(11,[0,1,2,3,4,12,13,14]),(12,[0,1,2,3,12,13,73]),(13,[12,13]),(14,[10,11])] [] own) 5
theorem aYE:aY Tryz.prog 209 F209:=rk
def F226:Zq.Fn:=bJ Tryz.prog Tryz.f226 (aP [] [(0,[0]),(1,[2])] [] own) 1
theorem aYF:aY Tryz.prog 226 F226:=rk
def F227:Zq.Fn:=bJ Tryz.prog Tryz.f227 (aP [(2,[0,1,7,8])] [(0,[0,1]),(1,[0,1,7,8]),(2,[0,1,7,8,9]),(3,[0,1,5,7,8]),(4,[0,1,5,7,8,16]),(5,[4]),(6,[0,1,7,8]),(7,[4])] [] own) 2
theorem aYG:aY Tryz.prog 227 F227:=rk
def F228:Zq.Fn:=bJ Tryz.prog Tryz.f228 (aP [(2,[0,1,7,8])] [(0,[0,1]),(1,[0,1,7,8]),(2,[0,1,7,8,9]),(3,[0,1,5,7,8]),(4,[0,1,5,7,8,16]),(5,[4]),(6,[0,1,7,8]),(7,[4])] [] own) 2
theorem aYH:aY Tryz.prog 228 F228:=rk
def F229:Zq.Fn:=bJ Tryz.prog Tryz.f229 (aP [] [(0,[0,1]),(1,[4])] [] own) 2
theorem aYI:aY Tryz.prog 229 F229:=rk
def F230:Zq.Fn:=bJ Tryz.prog Tryz.f230 (aP [] [(0,[0]),(1,[0,3]),(2,[2]),(3,[10]),(4,[2]),(5,[2])] [] own) 1
theorem aYJ:aY Tryz.prog 230 F230:=rk
def F231:Zq.Fn:=bJ Tryz.prog Tryz.f231 (aP [] [(0,[0]),(1,[0,3]),(2,[0,3]),(3,[2]),(4,[8]),(5,[2]),(6,[2])] [] own) 1
theorem aYK:aY Tryz.prog 231 F231:=rk
def F240:Zq.Fn:=bJ Tryz.prog Tryz.f240 (aP [] [(0,[0]),(1,[2])] [] own) 1
theorem aYL:aY Tryz.prog 240 F240:=rk
def F246:Zq.Fn:=bJ Tryz.prog Tryz.f246 (aP [] [(0,[0,1]),(1,[4])] [] own) 2
theorem aYM:aY Tryz.prog 246 F246:=rk
def F248:Zq.Fn:=bJ Tryz.prog Tryz.f248 (aP [] [(0,[0]),(1,[2])] [] own) 1
theorem aYN:aY Tryz.prog 248 F248:=rk
def F262:Zq.Fn:=bJ Tryz.prog Tryz.f262 (aP [] [(0,[0]),(1,[2])] [] own) 1
theorem aYO:aY Tryz.prog 262 F262:=rk
def aW:List (Nat×Zq.Fn):=[(4,F4),(11,F11),(12,F12),(13,F13),(14,F14),(20,F20),(23,F23),(24,F24),(25,F25),(26,F26),(27,F27),(28,F28),(29,F29),(30,F30),(31,F31),(32,F32),(33,F33),(34,F34),(35,F35),(36,F36),(37,F37),(38,F38),(39,F39),(71,F71),(72,F72),(73,F73),(74,F74),(75,F75),(76,F76),(77,F77),(78,F78),(79,F79),(80,F80),(81,F81),(82,F82),(83,F83),(86,F86),(89,F89),(90,F90),(93,F93),(94,F94),(101,F101),(102,F102),(103,F103),(104,F104),(105,F105),(106,F106),(107,F107),(108,F108),(109,F109),(110,F110),(111,F111),(112,F112),(113,F113),(114,F114),(115,F115),(116,F116),(122,F122),(123,F123),(126,F126),(149,F149),(150,F150),(151,F151),(152,F152),(153,F153),(154,F154),(155,F155),(156,F156),(157,F157),(161,F161),(162,F162),(164,F164),(165,F165),(166,F166),(167,F167),(168,F168),(169,F169),(170,F170),(171,F171),(172,F172),(173,F173),(174,F174),(175,F175),(176,F176),(177,F177),(178,F178),(179,F179),(180,F180),(181,F181),(184,F184),(185,F185),(186,F186),(187,F187),(190,F190),(191,F191),(192,F192),(193,F193),(194,F194),(195,F195),(196,F196),(201,F201),(202,F202),(205,F205),(206,F206),(207,F207),(208,F208),(209,F209),(226,F226),(227,F227),(228,F228),(229,F229),(230,F230),(231,F231),(240,F240),(246,F246),(248,F248),(262,F262)]
theorem aZ:Tryz.prog.follows .mixedOrders=true:=by kernel_rfl
theorem aJ0:GU Tryz.prog (aS aW):=aD aZ ok4 (aD aZ a49 (aD aZ a5A (aD aZ a5B (aD aZ a5C (aD aZ a5D (aD aZ a5E (aD aZ a5F (aD aZ a5G (aD aZ a5H (aD aZ a5I (aD aZ a5J (aD aZ a5K (aD aZ a5L (aD aZ a5M (aD aZ a5N (aD aZ a5O (aD aZ a5P (aD aZ a5Q (aD aZ a5R (aD aZ a5S (aD aZ a5T (aD aZ a5U (aD aZ a5V (aD aZ a5W (aD aZ a5X (aD aZ a5Y (aD aZ a5Z (aD aZ a50 (aD aZ a51 (aD aZ a52 (aD aZ a53 (aD aZ a54 (aD aZ a55 (aD aZ a56 (aD aZ a57 (aD aZ a58 (aD aZ a59 (aD aZ a6A (aD aZ a6B (aD aZ a6C (aD aZ aWJ (aD aZ aWK (aD aZ aWL (aD aZ aWM (aD aZ aWN (aD aZ aWO (aD aZ aWP (aD aZ aWQ (aD aZ aWR (aD aZ aWS (aD aZ aWT (aD aZ aWU (aD aZ aWV (aD aZ aWW (aD aZ aWX (aD aZ aWY (aD aZ aWZ (aD aZ aW0 (aD aZ aW1 (aD aZ aW2 (aD aZ aW3 (aD aZ aW4 (aD aZ aW5 (aD aZ aW6 (aD aZ aW7 (aD aZ aW8 (aD aZ aW9 (aD aZ aXA (aD aZ aXB (aD aZ aXC (aD aZ aXD (aD aZ aXE (aD aZ aXF (aD aZ aXG (aD aZ aXH (aD aZ aXI (aD aZ aXJ (aD aZ aXK (aD aZ aXL (aD aZ aXM (aD aZ aXN (aD aZ aXO (aD aZ aXP (aD aZ aXQ (aD aZ aXR (aD aZ aXS (aD aZ aXT (aD aZ aXU (aD aZ aXV (aD aZ aXW (aD aZ aXX (aD aZ aXY (aD aZ aXZ (aD aZ aX0 (aD aZ aX1 (aD aZ aX2 (aD aZ aX3 (aD aZ aX4 (aD aZ aX5 (aD aZ aX6 (aD aZ aX7 (aD aZ aYA (aD aZ aYB (aD aZ aYC (aD aZ aYD (aD aZ aYE (aD aZ aYF (aD aZ aYG (aD aZ aYH (aD aZ aYI (aD aZ aYJ (aD aZ aYK (aD aZ aYL (aD aZ aYM (aD aZ aYN (aD aZ aYO (Y1 _)))))))))))))))))))))))))))))))))))))))))))))))))))))))))))))))))))))))))))))))))))))))))))))))))))))))))))))))))))))
def H6:List (FuncId×Nat×Nat):=[(203,1,8),(204,5,40)]
theorem aBX:fD Tryz.prog (sA H6):=MR aZ aX8 (MR aZ aX9 (aJZ _))
theorem aYP:aS aW 203=none:=by kernel_rfl
theorem aYQ:aS aW 204=none:=by kernel_rfl
theorem at4:aS aW 4=some F4:=by kernel_rfl
theorem a6D:aS aW 11=some F11:=by kernel_rfl
theorem a6E:aS aW 12=some F12:=by kernel_rfl
theorem a6F:aS aW 13=some F13:=by kernel_rfl
theorem a6G:aS aW 14=some F14:=by kernel_rfl
theorem a6H:aS aW 20=some F20:=by kernel_rfl
theorem aYR:aS aW 23=some F23:=by kernel_rfl
theorem a6I:aS aW 24=some F24:=by kernel_rfl
theorem a6J:aS aW 25=some F25:=by kernel_rfl
theorem a6K:aS aW 26=some F26:=by kernel_rfl
theorem a6L:aS aW 27=some F27:=by kernel_rfl
theorem a6M:aS aW 28=some F28:=by kernel_rfl
theorem a6N:aS aW 29=some F29:=by kernel_rfl
theorem a6O:aS aW 30=some F30:=by kernel_rfl
theorem a6P:aS aW 31=some F31:=by kernel_rfl
theorem a6Q:aS aW 32=some F32:=by kernel_rfl
theorem a6R:aS aW 33=some F33:=by kernel_rfl
theorem a6S:aS aW 34=some F34:=by kernel_rfl
theorem a6T:aS aW 35=some F35:=by kernel_rfl
theorem a6U:aS aW 36=some F36:=by kernel_rfl
theorem a6V:aS aW 37=some F37:=by kernel_rfl
theorem a6W:aS aW 38=some F38:=by kernel_rfl
theorem a6X:aS aW 39=some F39:=by kernel_rfl
theorem a6Y:aS aW 71=some F71:=by kernel_rfl
theorem a6Z:aS aW 72=some F72:=by kernel_rfl
theorem a60:aS aW 73=some F73:=by kernel_rfl
theorem a61:aS aW 74=some F74:=by kernel_rfl
theorem a62:aS aW 75=some F75:=by kernel_rfl
theorem a63:aS aW 76=some F76:=by kernel_rfl
theorem a64:aS aW 77=some F77:=by kernel_rfl
theorem a65:aS aW 78=some F78:=by kernel_rfl
theorem a66:aS aW 79=some F79:=by kernel_rfl
theorem a67:aS aW 80=some F80:=by kernel_rfl
theorem a68:aS aW 81=some F81:=by kernel_rfl
theorem a69:aS aW 82=some F82:=by kernel_rfl
theorem a7A:aS aW 83=some F83:=by kernel_rfl
theorem a7B:aS aW 86=some F86:=by kernel_rfl
theorem a7C:aS aW 89=some F89:=by kernel_rfl
theorem a7D:aS aW 90=some F90:=by kernel_rfl
theorem a7E:aS aW 93=some F93:=by kernel_rfl
theorem a7F:aS aW 94=some F94:=by kernel_rfl
theorem aYS:aS aW 101=some F101:=by kernel_rfl
theorem aYT:aS aW 102=some F102:=by kernel_rfl
theorem aYU:aS aW 103=some F103:=by kernel_rfl
theorem aPF:aS aW 104=some F104:=by kernel_rfl
theorem aYV:aS aW 105=some F105:=by kernel_rfl
theorem aYW:aS aW 106=some F106:=by kernel_rfl
theorem aYX:aS aW 107=some F107:=by kernel_rfl
theorem aYY:aS aW 108=some F108:=by kernel_rfl
theorem aYZ:aS aW 109=some F109:=by kernel_rfl
theorem aY0:aS aW 110=some F110:=by kernel_rfl
theorem aY1:aS aW 111=some F111:=by kernel_rfl
theorem aY2:aS aW 112=some F112:=by kernel_rfl
theorem aY3:aS aW 113=some F113:=by kernel_rfl
theorem aY4:aS aW 114=some F114:=by kernel_rfl
theorem aY5:aS aW 115=some F115:=by kernel_rfl
theorem aY6:aS aW 116=some F116:=by kernel_rfl
theorem aY7:aS aW 122=some F122:=by kernel_rfl
theorem aY8:aS aW 123=some F123:=by kernel_rfl
theorem aY9:aS aW 126=some F126:=by kernel_rfl
theorem aZA:aS aW 149=some F149:=by kernel_rfl
theorem aZB:aS aW 150=some F150:=by kernel_rfl
theorem aZC:aS aW 151=some F151:=by kernel_rfl
theorem aZD:aS aW 152=some F152:=by kernel_rfl
theorem aZE:aS aW 153=some F153:=by kernel_rfl
theorem aZF:aS aW 154=some F154:=by kernel_rfl
theorem aZG:aS aW 155=some F155:=by kernel_rfl
theorem aZH:aS aW 156=some F156:=by kernel_rfl
theorem aZI:aS aW 157=some F157:=by kernel_rfl
theorem aZJ:aS aW 161=some F161:=by kernel_rfl
theorem aZK:aS aW 162=some F162:=by kernel_rfl
theorem aPG:aS aW 164=some F164:=by kernel_rfl
theorem aZL:aS aW 165=some F165:=by kernel_rfl
theorem aBY:aS aW 166=some F166:=by kernel_rfl
theorem aZM:aS aW 167=some F167:=by kernel_rfl
theorem aZN:aS aW 168=some F168:=by kernel_rfl
theorem aZO:aS aW 169=some F169:=by kernel_rfl
theorem aZP:aS aW 170=some F170:=by kernel_rfl
theorem aPH:aS aW 171=some F171:=by kernel_rfl
theorem aZQ:aS aW 172=some F172:=by kernel_rfl
theorem aZR:aS aW 173=some F173:=by kernel_rfl
theorem aZS:aS aW 174=some F174:=by kernel_rfl
theorem aZT:aS aW 175=some F175:=by kernel_rfl
theorem aZU:aS aW 176=some F176:=by kernel_rfl
theorem aPI:aS aW 177=some F177:=by kernel_rfl
theorem aZV:aS aW 178=some F178:=by kernel_rfl
theorem aZW:aS aW 179=some F179:=by kernel_rfl
theorem aZX:aS aW 180=some F180:=by kernel_rfl
theorem aZY:aS aW 181=some F181:=by kernel_rfl
theorem aZZ:aS aW 184=some F184:=by kernel_rfl
theorem aZ0:aS aW 185=some F185:=by kernel_rfl
theorem aZ1:aS aW 186=some F186:=by kernel_rfl
theorem aZ2:aS aW 187=some F187:=by kernel_rfl
theorem aZ3:aS aW 190=some F190:=by kernel_rfl
theorem aZ4:aS aW 191=some F191:=by kernel_rfl
theorem aZ5:aS aW 192=some F192:=by kernel_rfl
theorem aZ6:aS aW 193=some F193:=by kernel_rfl
theorem aZ7:aS aW 194=some F194:=by kernel_rfl
theorem aZ8:aS aW 195=some F195:=by kernel_rfl
theorem aZ9:aS aW 196=some F196:=by kernel_rfl
theorem a0A:aS aW 201=some F201:=by kernel_rfl
theorem a0B:aS aW 202=some F202:=by kernel_rfl
theorem a0C:aS aW 205=some F205:=by kernel_rfl
theorem a0D:aS aW 206=some F206:=by kernel_rfl
theorem a0E:aS aW 207=some F207:=by kernel_rfl
theorem a0F:aS aW 208=some F208:=by kernel_rfl
theorem a0G:aS aW 209=some F209:=by kernel_rfl
theorem a0H:aS aW 226=some F226:=by kernel_rfl
theorem aPJ:aS aW 227=some F227:=by kernel_rfl
theorem a0I:aS aW 228=some F228:=by kernel_rfl
theorem a0J:aS aW 229=some F229:=by kernel_rfl
theorem a0K:aS aW 230=some F230:=by kernel_rfl
theorem a0L:aS aW 231=some F231:=by kernel_rfl
theorem a0M:aS aW 240=some F240:=by kernel_rfl
theorem a0N:aS aW 246=some F246:=by kernel_rfl
theorem a0O:aS aW 248=some F248:=by kernel_rfl
theorem a0P:aS aW 262=some F262:=by kernel_rfl
end
end Go.Proofs.YtdipcnijfkdnfaaGreatFrames
